/- The queue of a law: in memory that the law itself has made. Its calls; the function 'works'. -/
import Derived.Test.YtkfbocfmiecblaaQ5
namespace Go.Proofs.Ytkfbocfmiecblaa
open Go.SX

/-- q is a queue of xs in the blocks bs, in memory that is younger than w0; of what was there at w0 nothing has turned. -/
def LQ (w0 w : World) (q : Nat) (bs : List Nat) (xs : List It) : Prop := Upd No w0 w ∧ ∃ fr, QAt w q bs fr xs ∧ ∀ b, Foot q bs b → w0.heap.size ≤ b

/-- From w to w' alone the queue's blocks have turned; the queue's blocks are the old ones, or new. -/
structure Step (q : Nat) (bs : List Nat) (w w' : World) (bs' : List Nat) : Prop where
  upd : Upd (Foot q bs) w w'
  foot : ∀ b, Foot q bs' b → Foot q bs b ∨ w.heap.size ≤ b

/-- a block of the law's own, no queue's. -/
def Own (q : Nat) (bs : List Nat) (w : World) (b : Nat) (cs : Array Value) (t : TypeId) : Prop := Blk w b cs t ∧ ¬ Foot q bs b
theorem Own.step {q : Nat} {bs bs' : List Nat} {w w' : World} {b : Nat} {cs : Array Value} {t : TypeId} (h : Own q bs w b cs t) (s : Step q bs w w' bs') : Own q bs' w' b cs t :=
  ⟨h.1.upd s.upd h.2, fun e => (s.foot b e).elim h.2 fun e => by have := h.1.lt; omega⟩
theorem Own.upd {q : Nat} {bs : List Nat} {w w' : World} {b : Nat} {cs : Array Value} {t : TypeId} (h : Own q bs w b cs t) (u : Upd No w w') : Own q bs w' b cs t := ⟨h.1.upd u id, h.2⟩
theorem LQ.own {w0 w : World} {q : Nat} {bs : List Nat} {xs : List It} (h : LQ w0 w q bs xs) {w' : World} {cs : Array Value} {t : TypeId} (hb : Blk w' w.heap.size cs t) : Own q bs w' w.heap.size cs t := by
  obtain ⟨_, fr, hq, _⟩ := h
  exact ⟨hb, fun e => by have := hq.toQI.foot_lt e; omega⟩

/-- what a law writes: blocks younger than w0 that are no queue's. -/
theorem LQ.upd {w0 w w' : World} {q : Nat} {bs : List Nat} {xs : List It} (h : LQ w0 w q bs xs) (u : Upd No w w') : LQ w0 w' q bs xs := by
  obtain ⟨hu, fr, hq, hf⟩ := h
  exact ⟨hu.trans u fun _ _ e => e, fr, hq.upd u fun _ _ => id, hf⟩

theorem new_law {w0 w : World} (h : Upd No w0 w) : callC Try.prog 6 #[] w fun v w' => ∃ q bs, v = .pointer (some ⟨q, 0, none⟩) ∧ LQ w0 w' q bs [] ∧ Upd No w w' ∧ w.heap.size ≤ q := by
  refine callC_of (new_spec w) fun v w' ⟨q, b, hv, hq, hu, h1, h2⟩ => ⟨q, [b], hv, ⟨h.trans hu fun _ _ e => e, 0, hq, ?_⟩, hu, h1⟩
  have hs := h.size
  rintro x (rfl | ⟨i, hi, rfl⟩)
  · omega
  · simp at hi; subst hi; simp; omega
theorem put_law {w0 w : World} {q : Nat} {bs : List Nat} {xs : List It} (h : LQ w0 w q bs xs) (x : It) (hn : xs.length < 1152921504606846976) :
    callC Try.prog 7 #[.pointer (some ⟨q, 0, none⟩), x.agg] w fun v w' => v = .tuple #[] ∧ ∃ bs', LQ w0 w' q bs' (xs ++ [x]) ∧ Step q bs w w' bs' := by
  obtain ⟨hu, fr, hq, hf⟩ := h
  have hs := hq.toQI.small
  refine callC_of (put_spec hq x (by omega)) fun v w' ⟨hv, bs', hq', hu', hf'⟩ => ⟨hv, bs', ⟨?_, fr, hq', fun b hb => ?_⟩, hu', hf'⟩
  · exact hu.trans hu' fun b hb e => by have := hf _ e; omega
  · rcases hf' b hb with e | e
    · exact hf _ e
    · have := hu.size; omega
theorem take_law {w0 w : World} {q : Nat} {bs : List Nat} {x : It} {xs : List It} (h : LQ w0 w q bs (x :: xs)) (hn : xs.length < 1152921504606846976) :
    callC Try.prog 12 #[.pointer (some ⟨q, 0, none⟩)] w fun v w' => v = .tuple #[x.agg, .bool true] ∧ ∃ bs', LQ w0 w' q bs' xs ∧ Step q bs w w' bs' := by
  obtain ⟨hu, fr, hq, hf⟩ := h
  refine callC_of (take_spec hq (by omega)) fun v w' ⟨hv, bs', fr', hq', hu', hf'⟩ => ⟨hv, bs', ⟨?_, fr', hq', fun b hb => hf _ (hf' b hb)⟩, hu', fun b hb => .inl (hf' b hb)⟩
  exact hu.trans hu' fun b hb e => by have := hf _ e; omega
theorem take_law0 {w0 w : World} {q : Nat} {bs : List Nat} (h : LQ w0 w q bs []) :
    callC Try.prog 12 #[.pointer (some ⟨q, 0, none⟩)] w fun v w' => v = .tuple #[It.zero.agg, .bool false] ∧ LQ w0 w' q bs [] ∧ Upd No w w' := by
  obtain ⟨hu, fr, hq, hf⟩ := h
  refine callC_of (take_empty hq.toQI) fun v w' ⟨hv, hu'⟩ => ⟨hv, LQ.upd ⟨hu, fr, hq, hf⟩ hu', hu'⟩
theorem first_law {w0 w : World} {q : Nat} {bs : List Nat} {x : It} {xs : List It} (h : LQ w0 w q bs (x :: xs)) :
    callC Try.prog 13 #[.pointer (some ⟨q, 0, none⟩)] w fun v w' => v = .tuple #[x.agg, .bool true] ∧ LQ w0 w' q bs (x :: xs) ∧ Upd No w w' := by
  obtain ⟨hu, fr, hq, hf⟩ := h
  exact callC_of (first_some hq.toQI) fun v w' ⟨hv, hu'⟩ => ⟨hv, LQ.upd ⟨hu, fr, hq, hf⟩ hu', hu'⟩
theorem first_law0 {w0 w : World} {q : Nat} {bs : List Nat} (h : LQ w0 w q bs []) :
    callC Try.prog 13 #[.pointer (some ⟨q, 0, none⟩)] w fun v w' => v = .tuple #[It.zero.agg, .bool false] ∧ LQ w0 w' q bs [] ∧ Upd No w w' := by
  obtain ⟨hu, fr, hq, hf⟩ := h
  exact callC_of (first_empty hq.toQI) fun v w' ⟨hv, hu'⟩ => ⟨hv, LQ.upd ⟨hu, fr, hq, hf⟩ hu', hu'⟩
theorem len_law {w0 w : World} {q : Nat} {bs : List Nat} {xs : List It} (h : LQ w0 w q bs xs) :
    callC Try.prog 14 #[.pointer (some ⟨q, 0, none⟩)] w fun v w' => v = .int .i64 xs.length ∧ w = w' := by
  obtain ⟨hu, fr, hq, hf⟩ := h
  exact len_spec hq.toQI

/-- a box of an item is made and filled. -/
theorem box_item {w : World} {x : It} {cs : Array Value} {t : TypeId} {K : Nat → World → Prop} (hc : cs.size = 5)
    (h : ∀ w', (∃ cs', Blk w' w.heap.size cs' t ∧ ItAt cs' 0 x ∧ cs'.size = 5) → Upd No w w' → K w.heap.size w') :
    newC w (.cells cs t) fun k w => stC w ⟨k, 0, none⟩ (.int .i64 x.conn) fun w => stC w ⟨k, 1, none⟩ (.string x.body) fun w => stC w ⟨k, 2, none⟩ (.int .u64 x.now) fun w => stC w ⟨k, 3, none⟩ (.string x.nonce) fun w => stC w ⟨k, 4, none⟩ (.bool x.drawn) fun w => K k w := by
  refine newC_mk fun w1 h1 u1 s1 => ?_
  refine st5 (i := 0) h1 (by omega) fun w2 h2 u2 s2 => ?_
  have u2 : Upd (· = w.heap.size) w1 w2 := u2
  exact h w2 ⟨_, h2, setIt_at _ 0 x (by omega), by simp; omega⟩ (u1.trans u2 fun b hb e => by omega)

theorem toList_inj_beq (a b : ByteArray) (h : a = b) : (a.toList == b.toList) = true := by subst h; simp

set_option maxHeartbeats 1000000 in
theorem works_spec (w0 w : World) (hu : Upd No w0 w) : callC Try.prog 15 #[] w fun v w' => v = .bool true ∧ Upd No w0 w' := by
  refine works_vc _ _ ?_
  refine callC_of (new_law hu) fun v w1 ⟨q, bs1, hv, h1, _, _⟩ => ⟨_, hv, brC_ff rfl ?_⟩
  refine callC_of (put_law h1 ⟨1, ByteArray.mk #[97], 0, ByteArray.mk #[], false⟩ (by simp)) fun v w2 ⟨hv, bs2, h2, _⟩ => ⟨hv, ?_⟩
  refine callC_of (put_law h2 ⟨2, ByteArray.mk #[98], 0, ByteArray.mk #[], false⟩ (by simp)) fun v w3 ⟨hv, bs3, h3, _⟩ => ⟨hv, ?_⟩
  refine callC_of (take_law h3 (by simp)) fun v w4 ⟨hv, bs4, h4, _⟩ => ⟨_, _, _, _, _, _, hv, ?_⟩
  refine box_item (x := ⟨1, ByteArray.mk #[97], 0, ByteArray.mk #[], false⟩) (by simp) fun w5 ⟨c5, b5, i5, _⟩ u5 => ?_
  refine callC_of (first_law (h4.upd u5)) fun v w6 ⟨hv, h6, u6⟩ => ⟨_, _, _, _, _, _, hv, ?_⟩
  have b6 := b5.upd u6 id
  refine box_item (x := ⟨2, ByteArray.mk #[98], 0, ByteArray.mk #[], false⟩) (by simp) fun w7 ⟨c7, b7, i7, _⟩ u7 => ?_
  refine brC_tt rfl (brC_tt rfl ⟨_, (b6.upd u7 id).cell i5.c1, brC_tt (toList_inj_beq _ _ rfl) ⟨_, b7.cell i7.c1, brC_tt (toList_inj_beq _ _ rfl) ?_⟩⟩)
  refine callC_of (len_law (h6.upd u7)) fun v w8 ⟨hv, e⟩ => ⟨_, hv, ?_⟩
  subst e
  exact ⟨by simp, (h6.upd u7).1⟩
end Go.Proofs.Ytkfbocfmiecblaa
