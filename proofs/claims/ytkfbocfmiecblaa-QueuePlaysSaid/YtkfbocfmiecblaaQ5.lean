/- Take: the contract, whole. -/
import Derived.Test.YtkfbocfmiecblaaQ4
namespace Go.Proofs.Ytkfbocfmiecblaa
open Go.SX

set_option maxHeartbeats 1000000 in
theorem take_empty {w : World} {q : Nat} {bs : List Nat} {fr : Nat} (h : QI w q bs fr []) :
    callC Try.prog 12 #[.pointer (some ⟨q, 0, none⟩)] w fun v w' => v = .tuple #[It.zero.agg, .bool false] ∧ Upd No w w' := by
  refine take_vc _ _ _ ?_
  refine newC_mk fun w1 hb u1 s1 => ?_
  have q1 := h.upd u1 fun _ _ => id
  refine callC_of (first_empty q1) fun v w3 ⟨hv, u3⟩ => ?_
  refine ⟨_, _, _, _, _, _, hv, ?_⟩
  have hb3 := hb.upd u3 id
  have hs3 := u3.size
  refine newC_mk fun w4 hc u4 s4 => ?_
  have hb4 := hb3.upd u4 id
  refine st5 (i := 0) hc (by simp) fun w5 h5 u5 s5 => ?_
  have u5 : Upd (· = w3.heap.size) w4 w5 := u5
  have hb5 := hb4.upd u5 (fun e => by have := hb3.lt; omega)
  refine brC_tt rfl ?_
  refine ld5 (o := 0) (x := It.zero) (K := fun n s m s' d => _) h5 (setIt_at _ 0 It.zero (by simp)) ?_
  refine st5 (i := 0) hb5 (by simp) fun w6 h6 u6 s6 => ?_
  have u6 : Upd (· = w.heap.size) w5 w6 := u6
  refine ld5 (o := 0) (x := It.zero) (K := fun n s m s' d => _) h6 (setIt_at _ 0 It.zero (by simp)) ⟨rfl, ?_⟩
  exact (((u1.trans u3 fun _ _ e => e).trans u4 fun _ _ e => e).trans u5 fun y hy e => by omega).trans u6 fun y hy e => by omega

theorem Foot.tail {q : Nat} {bs : List Nat} {b : Nat} (h : Foot q bs.tail b) : Foot q bs b := by
  rcases h with rfl | ⟨i, hi, rfl⟩
  · exact .inl rfl
  · refine .inr ⟨i + 1, by simp at hi; omega, by simp [List.getD_eq_getElem?_getD]⟩

/-- the state behind the change of the queue's head: what is answered lies in a box. -/
structure TMid (q : Nat) (bs : List Nat) (x : It) (xs : List It) (k0 k10 : Nat) (w0 w : World) : Prop where
  qa : ∃ bs' fr', QAt w q bs' fr' xs ∧ ∀ b, Foot q bs' b → Foot q bs b
  box : ∃ cs, Blk w k10 cs 32 ∧ ItAt cs 0 x
  res : ∃ cs, Blk w k0 cs 32 ∧ cs.size = 5
  upd : Upd (Foot q bs) w0 w
  new : w0.heap.size ≤ k0
  far : ∀ b, Foot q bs b → b < w0.heap.size

set_option maxHeartbeats 2000000 in
theorem take_spec {w : World} {q : Nat} {bs : List Nat} {fr : Nat} {x : It} {xs : List It} (h : QAt w q bs fr (x :: xs)) (hn : xs.length < 9223372036854775806) :
    callC Try.prog 12 #[.pointer (some ⟨q, 0, none⟩)] w (TakePost q bs x xs w) := by
  have hfl : ∀ b, Foot q bs b → b < w.heap.size := fun b => h.toQI.foot_lt
  have hq : q < w.heap.size := hfl _ (.inl rfl)
  have hb0 : bs.getD 0 0 < w.heap.size := hfl _ (.inr ⟨0, h.toQI.pos, rfl⟩)
  have hp := h.toQI.pos
  have hsm := h.toQI.small
  refine take_vc _ _ _ ?_
  refine newC_mk fun w1 hb u1 s1 => ?_
  have q1 := h.toQI.upd u1 fun _ _ => id
  refine callC_of (first_some q1) fun v w3 ⟨hv, u3⟩ => ?_
  refine ⟨_, _, _, _, _, _, hv, ?_⟩
  have hb3 := hb.upd u3 id
  have hs3 := u3.size
  refine newC_mk fun w4 hc u4 s4 => ?_
  have hb4 := hb3.upd u4 id
  refine st5 (i := 0) hc (by simp) fun w5 h5 u5 s5 => ?_
  have u5 : Upd (· = w3.heap.size) w4 w5 := u5
  have hb5 := hb4.upd u5 (fun e => by omega)
  have u05 : Upd No w w5 := ((u1.trans u3 fun _ _ e => e).trans u4 fun _ _ e => e).trans u5 fun y hy e => by omega
  obtain ⟨cs5, h5, hx5⟩ : ∃ cs5, Blk w5 w3.heap.size cs5 32 ∧ ItAt cs5 0 x := ⟨_, h5, setIt_at _ 0 x (by simp)⟩
  refine brC_ff rfl ?_
  refine drawC_mk fun w6 u6 s6 => ?_
  have u06 : Upd No w w6 := u05.trans u6 fun _ _ e => e
  have q6 := h.upd u06 fun _ _ => id
  have h6 := h5.upd u6 id
  have hb6 := hb5.upd u6 id
  refine ⟨some ⟨bs.getD 0 0, 0, none⟩, q6.toQI.head.cell rfl, (fr : Int), q6.toQI.head.cell rfl, (fr : Int), q6.toQI.head.cell rfl, ?_⟩
  rw [wrap_small (by omega) (by omega)]
  refine ⟨by omega, by omega, by omega, ?_⟩
  have e1 : subP (some ⟨bs.getD 0 0, 0, none⟩) 16 (Int.toNat (fr : Int)) 5 = some ⟨bs.getD 0 0, fr * 5, none⟩ := by
    unfold subP
    rw [if_neg (by omega)]
    simp [add_mk]
  have e2 : Int.toNat ((fr : Int) + 1) - Int.toNat (fr : Int) = 1 := by omega
  have e3 : Addr.add ⟨bs.getD 0 0, 0, none⟩ 0 = (⟨bs.getD 0 0, 0, none⟩ : Addr) := rfl
  have e4 : subP (some (Addr.add ⟨bs.getD 0 0, 0, none⟩ 0)) 16 (Int.toNat (fr : Int)) 5 = some ⟨bs.getD 0 0, fr * 5, none⟩ := by rw [e3]; exact e1
  obtain ⟨cs, hcs, hit⟩ := q6.toQI.first_at
  have hsz : cs.size = 81 := by
    obtain ⟨cs', hc'⟩ := q6.toQI.blks 0 hp
    rw [(hcs.inj hc'.blk).1]; exact hc'.size
  rw [e2]
  first | rw [e1] | rw [e4]
  refine clear1 _ _ _ _ _ ?_
  refine st5 hcs (by omega) fun w7 h7 u7 s7 => ?_
  have u7 : Upd (· = bs.getD 0 0) w6 w7 := u7
  have h67 := h6.upd u7 (fun e => by omega)
  have hb7 := hb6.upd u7 (fun e => by omega)
  have hq7 := q6.toQI.head.upd u7 fun e => q6.toQI.notq 0 hp e.symm
  refine ⟨fun w' => Taken q bs fr xs w' ∧ Blk w' w3.heap.size cs5 32 ∧ (∃ cs, Blk w' w.heap.size cs 32 ∧ cs.size = 5) ∧ Upd (Foot q bs) w w', fun w8 ⟨t8, hx8, ⟨cr8, hr8, hz8⟩, f8⟩ d => ?_, ?_⟩
  · refine ⟨TMid q bs x xs w.heap.size w3.heap.size w, fun w9 m d => ?_, ?_⟩
    · obtain ⟨⟨bs', fr', hqa, hft⟩, ⟨cb, hcb, hcx⟩, ⟨cr, hcr, hcrs⟩, hup, hnew, hfar⟩ := m
      refine ld5 (K := fun n s m s' d => _) hcb hcx ?_
      refine st5 (i := 0) hcr (by omega) fun w10 h10 u10 s10 => ?_
      have u10 : Upd (· = w.heap.size) w9 w10 := u10
      refine ld5 (o := 0) (x := x) (K := fun n s m s' d => _) h10 (setIt_at _ 0 x (by omega)) ⟨rfl, bs', fr', hqa.upd u10 fun b hb e => ?_, hup.trans u10 fun y hy e => by omega, hft⟩
      have := hfar _ (hft _ hb)
      omega
    · have hres : ∀ w', Upd (Foot q bs) w8 w' → (∃ cs, Blk w' w3.heap.size cs 32 ∧ ItAt cs 0 x) ∧ (∃ cs, Blk w' w.heap.size cs 32 ∧ cs.size = 5) := fun w' u => by
        refine ⟨⟨_, hx8.upd u (fun e => ?_), hx5⟩, ⟨_, hr8.upd u (fun e => ?_), hz8⟩⟩
        · have := hfl _ e; omega
        · have := hfl _ e; omega
      refine ⟨(xs.length : Int), t8.head.cell rfl, ?_⟩
      refine brC_intro (fun hz => ?_) fun hz => ?_
      · have hx0 : xs = [] := by
          cases xs with
          | nil => rfl
          | cons a l => simp at hz; omega
        subst hx0
        refine ⟨some ⟨bs.getD 0 0, 0, none⟩, t8.head.cell rfl, ?_⟩
        refine ptrC_some ?_
        refine stC_mk (i := 2) t8.head (by simp) fun w9 h9 u9 s9 => ?_
        have u9 : Upd (· = q) w8 w9 := u9
        refine ptrC_some ?_
        refine stC_mk (i := 1) h9 (by simp) fun w10 h10 u10 s10 => ?_
        have u10 : Upd (· = q) w9 w10 := u10
        refine ⟨some ⟨bs.getD 0 0, 0, none⟩, h10.cell rfl, ?_⟩
        obtain ⟨c0, hc0⟩ := t8.blks 0 hp
        have hc10 := (hc0.blk.upd u9 (t8.notq 0 hp)).upd u10 (t8.notq 0 hp)
        refine ptrC_some ?_
        refine stC_mk (i := 80) hc10 (by rw [hc0.size]; omega) fun w11 h11 u11 s11 => ?_
        have u11 : Upd (· = bs.getD 0 0) w10 w11 := u11
        have hup : Upd (Foot q bs) w8 w11 := ((u9.mono (T := Foot q bs) fun b _ e => .inl e).trans u10 fun b _ e => .inl e).trans u11 fun b _ e => .inr ⟨0, hp, e⟩
        have hqa := t8.last u9 u10 h10 u11 fun cs' _ _ => ⟨_, h11, by simp [hc0.size]⟩
        obtain ⟨r1, r2⟩ := hres _ hup
        exact ⟨⟨bs, 0, hqa, fun b hb => hb⟩, r1, r2, f8.trans hup fun b _ hb => hb, by omega, hfl⟩
      · have hx0 : xs ≠ [] := by
          intro e; subst e; simp at hz
        refine ⟨(fr : Int) + 1, t8.head.cell rfl, ?_⟩
        refine brC_intro (fun ht => ?_) fun ht => ?_
        · have hf : fr + 1 = 16 := by simp at ht; omega
          obtain ⟨c0, hc0⟩ := t8.blks 0 hp
          have hl := t8.room
          have hlp : 0 < xs.length := List.length_pos_iff.2 hx0
          refine ⟨some ⟨bs.getD 0 0, 0, none⟩, t8.head.cell rfl, ?_⟩
          refine ptrC_some ⟨some ⟨bs.getD 1 0, 0, none⟩, hc0.blk.cell (i := 80) (hc0.link (by omega)), ?_⟩
          refine ptrC_some ?_
          refine stC_mk (i := 2) t8.head (by simp) fun w9 h9 u9 s9 => ?_
          have u9 : Upd (· = q) w8 w9 := u9
          refine ptrC_some ?_
          refine stC_mk (i := 0) h9 (by simp) fun w10 h10 u10 s10 => ?_
          have u10 : Upd (· = q) w9 w10 := u10
          have hup : Upd (Foot q bs) w8 w10 := (u9.mono (T := Foot q bs) fun b _ e => .inl e).trans u10 fun b _ e => .inl e
          obtain ⟨r1, r2⟩ := hres _ hup
          exact ⟨⟨bs.tail, 0, t8.turn hx0 hf u9 u10 h10, fun b => Foot.tail⟩, r1, r2, f8.trans hup fun b _ hb => hb, by omega, hfl⟩
        · have hf : fr + 1 < 16 := by
            have := ht; simp at this; omega
          obtain ⟨r1, r2⟩ := hres _ (Upd.refl _ _)
          exact ⟨⟨bs, fr + 1, t8.plain hx0 hf, fun b hb => hb⟩, r1, r2, f8, by omega, hfl⟩
  · refine drawC_mk fun w8 u8 s8 => ?_
    have hq8 := hq7.upd u8 id
    refine ⟨fun _ => False, (fr : Int), hq8.cell rfl, fun _ e => e.elim, ((x :: xs).length : Int), hq8.cell rfl, fun _ e => e.elim, ⟨?_, trivial⟩⟩
    rw [wrap_small (by omega) (by omega)]
    refine stC_mk (i := 2) hq8 (by simp) fun w9 h9 u9 s9 => ?_
    have u9 : Upd (· = q) w8 w9 := u9
    refine ⟨?_, trivial⟩
    rw [wrap_small (by simp only [List.length_cons]; omega) (by simp only [List.length_cons]; omega)]
    refine stC_mk (i := 3) h9 (by simp) fun w10 h10 u10 s10 => ?_
    have u10 : Upd (· = q) w9 w10 := u10
    have u78 : Upd (· = bs.getD 0 0) w6 w8 := u7.trans u8 fun _ _ e => e.elim
    have hk : ((x :: xs).length : Int) - 1 = (xs.length : Int) := by simp
    rw [hk] at h10
    refine ⟨q6.taken u78 (fun cs' hcs' => ?_) u9 u10 h10, ?_, ?_, ?_⟩
    · rw [(hcs'.inj hcs).1]; exact h7.upd u8 id
    · exact ((h67.upd u8 id).upd u9 (fun e => by omega)).upd u10 (fun e => by omega)
    · exact ⟨_, ((hb7.upd u8 id).upd u9 (fun e => by omega)).upd u10 (fun e => by omega), rfl⟩
    · exact ((u06.no.trans u78 fun b _ e => .inr ⟨0, hp, e⟩).trans u9 fun b _ e => .inl e).trans u10 fun b _ e => .inl e
end Go.Proofs.Ytkfbocfmiecblaa
