/- What the calls answer for a queue that is nil; equality of items; the walk of QueueKnown. -/
import Derived.Test.YtkfbocfmiecblaaQ6
namespace Go.Proofs.Ytkfbocfmiecblaa
open Go.SX

theorem len_blk {w : World} {q : Nat} {cs : Array Value} {t : TypeId} {n : Int} (h : Blk w q cs t) (hn : cs[3]? = some (.int .i64 n)) :
    callC Try.prog 14 #[.pointer (some ⟨q, 0, none⟩)] w fun v w' => v = .int .i64 n ∧ w = w' := len_vc _ _ _ ⟨n, h.cell hn, rfl, rfl⟩
theorem len_nil (w : World) : callC Try.prog 14 #[.pointer none] w fun v w' => v = .int .i64 0 ∧ w = w' := len_vc _ _ _ ⟨rfl, rfl⟩
set_option maxHeartbeats 400000 in
theorem first_nil (w : World) : callC Try.prog 13 #[.pointer none] w fun v w' => v = .tuple #[It.zero.agg, .bool false] ∧ Upd No w w' := by
  refine first_vc _ _ _ ?_
  refine newC_mk fun w1 hb u1 s1 => ?_
  refine ⟨fun _ => False, fun w3 e d => e.elim, fun b w => b = true ∧ w = w1, fun b wx e d => ?_, ⟨rfl, rfl⟩⟩
  obtain ⟨rfl, rfl⟩ := e
  refine st5 (i := 0) hb (by decide) fun w2 h2 u2 s2 => ?_
  exact ld5 (o := 0) (x := It.zero) (K := fun n s m s' d => _) h2 (setIt_at _ 0 It.zero (by decide)) ⟨rfl, u1.trans u2 fun x hx (e : x = w.heap.size) => by omega⟩
set_option maxHeartbeats 1000000 in
theorem take_nil (w : World) : callC Try.prog 12 #[.pointer none] w fun v w' => v = .tuple #[It.zero.agg, .bool false] ∧ Upd No w w' := by
  refine take_vc _ _ _ ?_
  refine newC_mk fun w1 hb u1 s1 => ?_
  refine callC_of (first_nil w1) fun v w3 ⟨hv, u3⟩ => ?_
  refine ⟨_, _, _, _, _, _, hv, ?_⟩
  have hb3 := hb.upd u3 id
  have hs3 := u3.size
  refine newC_mk fun w4 hc u4 s4 => ?_
  have hb4 := hb3.upd u4 id
  refine st5 (i := 0) hc (by simp) fun w5 h5 u5 s5 => ?_
  have u5 : Upd (· = w3.heap.size) w4 w5 := u5
  have hb5 := hb4.upd u5 (fun e => by have := hb3.lt; omega)
  refine brC_tt rfl ?_
  refine ld5 (o := 0) (x := It.zero) (K := fun n s m s' d => _) h5 (setIt_at _ 0 It.zero (by simp)) ?_
  refine st5 (i := 0) hb5 (by simp) fun w6 h6 u6 s6 => ?_
  have u6 : Upd (· = w.heap.size) w5 w6 := u6
  refine ld5 (o := 0) (x := It.zero) (K := fun n s m s' d => _) h6 (setIt_at _ 0 It.zero (by simp)) ⟨rfl, ?_⟩
  exact (((u1.trans u3 fun _ _ e => e).trans u4 fun _ _ e => e).trans u5 fun y hy e => by omega).trans u6 fun y hy e => by omega
theorem put_nil (w : World) (x : It) : callC Try.prog 7 #[.pointer none, x.agg] w fun v w' => v = .tuple #[] ∧ Upd No w w' := by
  refine put_vc _ _ _ _ _ _ _ _ ?_
  exact newC_mk fun w1 hb u1 s1 => brC_tt rfl ⟨rfl, u1⟩

def itEq (x y : It) : Bool := x.conn == y.conn && (x.body.toList == y.body.toList && (x.now == y.now && (x.nonce.toList == y.nonce.toList && (x.drawn == y.drawn && true))))
theorem u32 : Try.prog.underlying 32 = some (.struct (Try.prog.fieldsOf 32)) := by kernel_rfl
theorem s32 : Try.prog.stoodInHeld 32 = false := by kernel_rfl
theorem g32 : Try.prog.eqGuardType Try.prog.depth 32 = false := by kernel_rfl
theorem f32 (x y : It) : eqFlat Try.prog #[.int .i64 x.conn, .string x.body, .int .u64 x.now, .string x.nonce, .bool x.drawn] #[.int .i64 y.conn, .string y.body, .int .u64 y.now, .string y.nonce, .bool y.drawn] (Try.prog.fieldsOf 32).toList = some (itEq x y) := by kernel_rfl
theorem eq_item (x y : It) (ox oy : Operand) (w : World) {K : Value → Prop} (h : K (.bool (itEq x y))) : runR Try.prog (eqSem .eql 32 ox oy x.agg y.agg) (some w) K :=
  ⟨_, h, fun w' _ => (eqSem_run u32 s32 g32 (f32 x y) ox oy w').1⟩
theorem neq_item (x y : It) (ox oy : Operand) (w : World) {K : Value → Prop} (h : K (.bool !(itEq x y))) : runR Try.prog (eqSem .neq 32 ox oy x.agg y.agg) (some w) K :=
  ⟨_, h, fun w' _ => (eqSem_run u32 s32 g32 (f32 x y) ox oy w').2⟩
theorem itEq_self (x : It) : itEq x x = true := by simp [itEq]

set_option maxHeartbeats 1000000 in
theorem known_spec (w : World) : callC Try.prog 5 #[] w fun v w' => v = .bool true ∧ Upd No w w' := by
  refine known_vc _ _ ?_
  refine callC_of (new_law (Upd.refl No w)) fun v w1 ⟨q, bs, hv, h1, _, _⟩ => ⟨_, hv, ?_⟩
  refine callC_of (new_law h1.1) fun v w2 ⟨o, os, hv, o2, u2, ho⟩ => ⟨_, hv, ?_⟩
  have h2 := h1.upd u2
  obtain ⟨co, ho2⟩ : ∃ co, Own q bs w2 o co 52 ∧ co[3]? = some (.int .i64 0) := by
    obtain ⟨_, fr, ho, _⟩ := o2
    refine ⟨_, ⟨ho.toQI.head, fun e => ?_⟩, rfl⟩
    obtain ⟨_, fr, hq, _⟩ := h1
    have := hq.toQI.foot_lt e
    omega
  refine ⟨fun w' => w' = w2, fun w' e d => ?_, fun b w' => b = false ∧ w' = w2, fun b w' ⟨e1, e2⟩ d => by subst e1; exact e2, brC_ff rfl ⟨rfl, rfl⟩⟩
  subst e
  refine callC_of (first_law0 h2) fun v w3 ⟨hv, h3, u3⟩ => ⟨_, _, _, _, _, _, hv, ?_⟩
  refine box_item (x := It.zero) (by simp) fun w4 _ u4 => ?_
  have u4 : Upd No w3 w4 := u4
  refine callC_of (take_law0 (h3.upd u4)) fun v w5 ⟨hv, h5, u5⟩ => ⟨_, _, _, _, _, _, hv, ?_⟩
  refine box_item (x := It.zero) (by simp) fun w6 _ u6 => ?_
  have h6 := h5.upd u6
  refine box_item (x := ⟨3, ByteArray.mk #[120], 18446744073709551615, ByteArray.mk #[110], true⟩) (by simp) fun w7 ⟨c7, b7, i7, _⟩ u7 => ?_
  have x7 := h6.own b7
  refine ld5 (K := fun n s m s' d => _) b7 i7 ?_
  refine callC_of (put_law (h6.upd u7) ⟨3, ByteArray.mk #[120], 18446744073709551615, ByteArray.mk #[110], true⟩ (by simp)) fun v w8 ⟨hv, bs8, h8, s8⟩ => ⟨hv, ?_⟩
  have x8 := x7.step s8
  refine callC_of (put_law h8 It.zero (by simp)) fun v w9 ⟨hv, bs9, h9, s9⟩ => ⟨hv, ?_⟩
  have x9 := x8.step s9
  refine callC_of (first_law h9) fun v w10 ⟨hv, h10, u10⟩ => ⟨_, _, _, _, _, _, hv, ?_⟩
  have x10 := x9.upd u10
  refine box_item (x := ⟨3, ByteArray.mk #[120], 18446744073709551615, ByteArray.mk #[110], true⟩) (by simp) fun w11 ⟨cy, by11, iy, _⟩ u11 => ?_
  have x11 := x10.upd u11
  have y11 := h10.own by11
  refine callC_of (take_law (h10.upd u11) (by simp)) fun v w12 ⟨hv, bs12, h12, s12⟩ => ⟨_, _, _, _, _, _, hv, ?_⟩
  have x12 := x11.step s12
  have y12 := y11.step s12
  refine box_item (x := ⟨3, ByteArray.mk #[120], 18446744073709551615, ByteArray.mk #[110], true⟩) (by simp) fun w13 ⟨cz, bz13, iz, _⟩ u13 => ?_
  have x13 := x12.upd u13
  have y13 := y12.upd u13
  have z13 := h12.own bz13
  refine callC_of (take_law (h12.upd u13) (by simp)) fun v w14 ⟨hv, bs14, h14, s14⟩ => ⟨_, _, _, _, _, _, hv, ?_⟩
  have x14 := x13.step s14
  have y14 := y13.step s14
  have z14 := z13.step s14
  refine box_item (x := It.zero) (by simp) fun w15 ⟨cw, bw15, iw, _⟩ u15 => ?_
  have h15 := h14.upd u15
  refine callC_of (take_law0 h15) fun v w16 ⟨hv, h16, u16⟩ => ⟨_, _, _, _, _, _, hv, ?_⟩
  refine box_item (x := It.zero) (by simp) fun w17 _ u17 => ?_
  have x17 := ((x14.upd u15).upd u16).upd u17
  refine ld5 (K := fun n s m s' d => _) x17.1 i7 ?_
  refine callC_of (put_nil w17 ⟨3, ByteArray.mk #[120], 18446744073709551615, ByteArray.mk #[110], true⟩) fun v w18 ⟨hv, u18⟩ => ⟨hv, ?_⟩
  refine callC_of (take_nil w18) fun v w19 ⟨hv, u19⟩ => ⟨_, _, _, _, _, _, hv, ?_⟩
  refine box_item (x := It.zero) (by simp) fun w20 _ u20 => ?_
  refine callC_of (first_nil w20) fun v w21 ⟨hv, u21⟩ => ⟨_, _, _, _, _, _, hv, ?_⟩
  refine box_item (x := It.zero) (by simp) fun w22 _ u22 => ?_
  have v1 : Upd No w15 w17 := u16.trans u17 fun _ _ e => e
  have v2 : Upd No w17 w22 := (((u18.trans u19 fun _ _ e => e).trans u20 fun _ _ e => e).trans u21 fun _ _ e => e).trans u22 fun _ _ e => e
  have v3 : Upd No w15 w22 := v1.trans v2 fun _ _ e => e
  have x22 := (x17.upd v2).1
  have y22 := ((y14.upd u15).upd v3).1
  have z22 := ((z14.upd u15).upd v3).1
  have w22' := bw15.upd v3 id
  refine brC_tt rfl (brC_tt rfl (brC_tt rfl (brC_tt rfl (brC_tt rfl (brC_tt rfl (brC_tt rfl (brC_tt rfl ?_)))))))
  refine ld5 (K := fun n s m s' d => _) x22 i7 (ld5 (K := fun n s m s' d => _) y22 iy (eq_item ⟨3, ByteArray.mk #[120], 18446744073709551615, ByteArray.mk #[110], true⟩ ⟨3, ByteArray.mk #[120], 18446744073709551615, ByteArray.mk #[110], true⟩ _ _ _ ⟨_, rfl, brC_tt (itEq_self _) ?_⟩))
  refine ld5 (K := fun n s m s' d => _) x22 i7 (ld5 (K := fun n s m s' d => _) z22 iz (eq_item ⟨3, ByteArray.mk #[120], 18446744073709551615, ByteArray.mk #[110], true⟩ ⟨3, ByteArray.mk #[120], 18446744073709551615, ByteArray.mk #[110], true⟩ _ _ _ ⟨_, rfl, brC_tt (itEq_self _) ?_⟩))
  refine ld5 (K := fun n s m s' d => _) w22' iw (eq_item It.zero It.zero _ _ _ ⟨_, rfl, brC_tt (itEq_self _) ?_⟩)
  refine callC_of (len_nil w22) fun v w23 ⟨hv, e⟩ => ⟨_, hv, brC_tt rfl ?_⟩
  subst e
  have o7 := ((((ho2.1.upd u3).upd (by assumption : Upd No w3 w4)).upd u5).upd u6).upd u7
  have o22 := (((((((((o7.step s8).step s9).upd u10).upd u11).step s12).upd u13).step s14).upd u15).upd v3).1
  refine callC_of (len_blk o22 ho2.2) fun v w23 ⟨hv, e⟩ => ⟨_, hv, brC_tt rfl ?_⟩
  subst e
  have hq22 := (h15.upd v3)
  refine callC_of (len_law hq22) fun v w23 ⟨hv, e⟩ => ⟨_, hv, brC_tt rfl ?_⟩
  subst e
  exact callC_of (works_spec w w22 hq22.1) fun v w23 ⟨hv, hu⟩ => ⟨_, hv, rfl, hu⟩
end Go.Proofs.Ytkfbocfmiecblaa
