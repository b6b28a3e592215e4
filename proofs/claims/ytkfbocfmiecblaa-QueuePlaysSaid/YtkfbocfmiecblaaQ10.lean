/- QueuePlays: what is carried through its loop. -/
import Derived.Test.YtkfbocfmiecblaaQ8
import Derived.Test.YtkfbocfmiecblaaQ9
namespace Go.Proofs.Ytkfbocfmiecblaa
open Go.SX

theorem item_spec (x : It) (w : World) : callC Try.prog 8 #[.agg #[.int .i64 x.conn, .string x.body, .string x.nonce, .int .u64 x.now, .bool x.drawn]] w fun v w' => v = x.agg ∧ Upd No w w' := by
  refine item_vc _ _ _ _ _ _ _ (newC_mk fun w1 h1 u1 s1 => newC_mk fun w3 h3 u3 s3 => ?_)
  have h1' := h1.upd u3 id
  refine ⟨_, h1'.cell rfl, _, h1'.cell rfl, _, h1'.cell rfl, _, h1'.cell rfl, _, h1'.cell rfl, ?_⟩
  refine st5 (i := 0) h3 (by simp) fun w4 h4 u4 s4 => ?_
  have u4 : Upd (· = w1.heap.size) w3 w4 := u4
  refine ⟨_, h4.cell rfl, _, h4.cell rfl, _, h4.cell rfl, _, h4.cell rfl, _, h4.cell rfl, rfl, ?_⟩
  exact (u1.trans u3 fun _ _ => id).trans u4 fun k hk e => by have := u1.size; omega

/-- what neither of the two queues holds, and is younger than W. -/
def Out (W : World) (q : Nat) (bs : List Nat) (b : Nat) (v : Value) (k : Nat) : Prop := ¬ Foot q bs k ∧ ¬ RFoot b v k ∧ W.heap.size ≤ k

/-- both queues, side by side. -/
structure St (W w : World) (q : Nat) (bs : List Nat) (xs : List It) (b : Nat) (v : Value) (ns : List Int) : Prop where
  lq : LQ W w q bs xs
  rq : RQ w b v ns
  ge : ∀ k, RFoot b v k → W.heap.size ≤ k ∧ ¬ Foot q bs k

/-- from w to w' nothing has turned that was outside, and what was outside is so. -/
structure Gone (O O' : Nat → Prop) (w w' : World) : Prop where
  upd : Upd (fun k => ¬ O k) w w'
  out : ∀ k, k < w.heap.size → O k → O' k
theorem Gone.trans {O O' O'' : Nat → Prop} {a b c : World} (g : Gone O O' a b) (h : Gone O' O'' b c) : Gone O O'' a c :=
  ⟨g.upd.trans h.upd fun k hk hn ho => hn (g.out k hk ho), fun k hk ho => h.out k (Nat.lt_of_lt_of_le hk g.upd.size) (g.out k hk ho)⟩
theorem Gone.no {O : Nat → Prop} {a b : World} (h : Upd No a b) : Gone O O a b := ⟨h.no, fun _ _ => id⟩

section
variable {W w : World} {q : Nat} {bs : List Nat} {xs : List It} {b : Nat} {v : Value} {ns : List Int}

theorem St.size (h : St W w q bs xs b v ns) : W.heap.size ≤ w.heap.size := h.lq.1.size
theorem St.new (h : St W w q bs xs b v ns) {k : Nat} (hk : w.heap.size ≤ k) : Out W q bs b v k := by
  refine ⟨fun e => ?_, fun e => ?_, Nat.le_trans h.size hk⟩
  · obtain ⟨_, fr, hq, _⟩ := h.lq
    have := hq.toQI.foot_lt e; omega
  · have := h.rq.foot_lt e; omega
theorem St.keep (h : St W w q bs xs b v ns) {w' : World} {S : Nat → Prop} (u : Upd S w w') (hs : ∀ k, S k → Out W q bs b v k) : St W w' q bs xs b v ns := by
  obtain ⟨hu, fr, hq, hf⟩ := h.lq
  refine ⟨⟨hu.trans u fun k hk e => ?_, fr, hq.upd u fun k hk e => (hs k e).1 hk, hf⟩, h.rq.upd u fun k hk e => (hs k e).2.1 hk, h.ge⟩
  have := (hs k e).2.2; omega
theorem St.no (h : St W w q bs xs b v ns) {w' : World} (u : Upd No w w') : St W w' q bs xs b v ns := h.keep u fun _ e => e.elim

theorem St.stepq (h : St W w q bs xs b v ns) {w' : World} {bs' : List Nat} {xs' : List It} (h' : LQ W w' q bs' xs') (s : Step q bs w w' bs') :
    St W w' q bs' xs' b v ns ∧ Gone (Out W q bs b v) (Out W q bs' b v) w w' := by
  refine ⟨⟨h', h.rq.upd s.upd fun k hk => (h.ge k hk).2, fun k hk => ⟨(h.ge k hk).1, fun e => ?_⟩⟩, ⟨s.upd.mono fun k _ e ho => ho.1 e, fun k hk ho => ⟨fun e => ?_, ho.2⟩⟩⟩
  · rcases s.foot k e with e | e
    · exact (h.ge k hk).2 e
    · have := h.rq.foot_lt hk; omega
  · rcases s.foot k e with e | e
    · exact ho.1 e
    · omega
theorem St.put (h : St W w q bs xs b v ns) (x : It) (hn : xs.length < 1000000) :
    callC Try.prog 7 #[.pointer (some ⟨q, 0, none⟩), x.agg] w fun r w' => r = .tuple #[] ∧ ∃ bs', St W w' q bs' (xs ++ [x]) b v ns ∧ Gone (Out W q bs b v) (Out W q bs' b v) w w' :=
  callC_of (put_law h.lq x (by omega)) fun r w' ⟨hr, bs', h', s⟩ => ⟨hr, bs', h.stepq h' s⟩
theorem St.first (h : St W w q bs xs b v ns) :
    callC Try.prog 13 #[.pointer (some ⟨q, 0, none⟩)] w fun r w' => r = .tuple #[(xs.headD It.zero).agg, .bool (!xs.isEmpty)] ∧ St W w' q bs xs b v ns ∧ Upd No w w' := by
  match xs, h with
  | [], h => exact callC_of (first_law0 h.lq) fun r w' ⟨hr, _, u⟩ => ⟨hr, h.no u, u⟩
  | x :: xs, h => exact callC_of (first_law h.lq) fun r w' ⟨hr, _, u⟩ => ⟨hr, h.no u, u⟩
theorem St.take (h : St W w q bs xs b v ns) (hn : xs.length < 1000000) :
    callC Try.prog 12 #[.pointer (some ⟨q, 0, none⟩)] w fun r w' => r = .tuple #[(xs.headD It.zero).agg, .bool (!xs.isEmpty)] ∧ ∃ bs', St W w' q bs' xs.tail b v ns ∧ Gone (Out W q bs b v) (Out W q bs' b v) w w' := by
  match xs, h, hn with
  | [], h, _ => exact callC_of (take_law0 h.lq) fun r w' ⟨hr, _, u⟩ => ⟨hr, bs, h.no u, Gone.no u⟩
  | x :: xs, h, hn => exact callC_of (take_law h.lq (by simp at hn; omega)) fun r w' ⟨hr, bs', h', s⟩ => ⟨hr, bs', h.stepq h' s⟩
theorem St.len (h : St W w q bs xs b v ns) : callC Try.prog 14 #[.pointer (some ⟨q, 0, none⟩)] w fun r w' => r = .int .i64 xs.length ∧ w = w' := len_law h.lq

theorem St.stepr (h : St W w q bs xs b v ns) {w' : World} {v' : Value} {ns' : List Int} (h' : RQ w' b v' ns') (u : Upd (RFoot b v) w w') (hf : ∀ k, RFoot b v' k → RFoot b v k ∨ w.heap.size ≤ k) :
    St W w' q bs xs b v' ns' ∧ Gone (Out W q bs b v) (Out W q bs b v') w w' := by
  obtain ⟨hu, fr, hq, hfo⟩ := h.lq
  refine ⟨⟨⟨hu.trans u fun k hk e => ?_, fr, hq.upd u fun k hk e => (h.ge k e).2 hk, hfo⟩, h', fun k hk => ?_⟩, ⟨u.mono fun k _ e ho => ho.2.1 e, fun k hk ho => ⟨ho.1, fun e => ?_, ho.2.2⟩⟩⟩
  · have := (h.ge k e).1; omega
  · rcases hf k hk with e | e
    · exact h.ge k e
    · exact ⟨Nat.le_trans hu.size e, fun x => by have := hq.toQI.foot_lt x; omega⟩
  · rcases hf k e with e | e
    · exact ho.2.1 e
    · omega
theorem St.rput (h : St W w q bs xs b v ns) (x : Int) (hn : ns.length < 1000000) :
    callC Try.prog 9 #[.pointer (some ⟨b, 0, none⟩), .int .i64 x] w fun r w' => r = .tuple #[] ∧ ∃ v', St W w' q bs xs b v' (ns ++ [x]) ∧ Gone (Out W q bs b v) (Out W q bs b v') w w' :=
  callC_of (rput_spec h.rq x hn) fun r w' ⟨hr, v', h', u, hf⟩ => ⟨hr, v', h.stepr h' u hf⟩
theorem St.rtake (h : St W w q bs xs b v ns) (hp : ∀ n ∈ ns, 0 ≤ n) :
    callC Try.prog 11 #[.pointer (some ⟨b, 0, none⟩)] w fun r w' => r = .int .i64 (hd ns) ∧ ∃ v', St W w' q bs xs b v' ns.tail ∧ Gone (Out W q bs b v) (Out W q bs b v') w w' :=
  callC_of (rtake_spec h.rq hp) fun r w' ⟨hr, v', h', u, hf⟩ => ⟨hr, v', h.stepr h' u fun k hk => .inl (hf k hk)⟩
theorem St.rfirst (h : St W w q bs xs b v ns) : callC Try.prog 10 #[.pointer (some ⟨b, 0, none⟩)] w fun r w' => r = .int .i64 (hd ns) ∧ w = w' := rfirst_spec h.rq
end

/-- a thing of the law's own outside both: a block. -/
structure Box (O : Nat → Prop) (w : World) (k : Nat) (cs : Array Value) (t : TypeId) : Prop where
  blk : Blk w k cs t
  out : O k
theorem Box.go {O O' : Nat → Prop} {w w' : World} {k : Nat} {cs : Array Value} {t : TypeId} (h : Box O w k cs t) (g : Gone O O' w w') : Box O' w' k cs t :=
  ⟨h.blk.upd g.upd fun e => e h.out, g.out k h.blk.lt h.out⟩
/-- the list 'at'. -/
structure At (O : Nat → Prop) (w : World) (k : Nat) (v : Value) (ns : List Int) : Prop where
  rq : RQ w k v ns
  out : ∀ j, RFoot k v j → O j
theorem At.go {O O' : Nat → Prop} {w w' : World} {k : Nat} {v : Value} {ns : List Int} (h : At O w k v ns) (g : Gone O O' w w') : At O' w' k v ns :=
  ⟨h.rq.upd g.upd fun j hj e => e (h.out j hj), fun j hj => g.out j (h.rq.foot_lt hj) (h.out j hj)⟩
end Go.Proofs.Ytkfbocfmiecblaa
