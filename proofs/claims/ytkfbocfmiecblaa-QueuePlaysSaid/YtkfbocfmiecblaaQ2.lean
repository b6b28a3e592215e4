/- First, Put, Take of the queue: their contracts. -/
import Derived.Test.YtkfbocfmiecblaaQ1
namespace Go.Proofs.Ytkfbocfmiecblaa
open Go.SX

theorem ptrC_some {a : Addr} {K : Addr → Prop} (h : K a) : ptrC (some a) K := h
theorem QAt.blocks {w : World} {q : Nat} {bs : List Nat} {fr : Nat} {xs : List It} (h : QAt w q bs fr xs) (hx : xs ≠ []) : (fr + xs.length - 1) / 16 = bs.length - 1 ∧ (fr + xs.length + 15) / 16 = bs.length := by
  have h1 := h.tight hx
  have h2 := h.toQI.room
  have h3 := h.toQI.pos
  omega

/-- the five loads of an item, one behind the other. -/
theorem ld5 {w : World} {b o : Nat} {cs : Array Value} {t : TypeId} {x : It} {K : Int → ByteArray → Int → ByteArray → Bool → Prop} (hb : Blk w b cs t) (hx : ItAt cs o x)
    (h : K x.conn x.body x.now x.nonce x.drawn) :
    ∃ n, w.cell? ⟨b, o, none⟩ = some (.int .i64 n) ∧ ∃ s, w.cell? ⟨b, o + 1, none⟩ = some (.string s) ∧ ∃ m, w.cell? ⟨b, o + 2, none⟩ = some (.int .u64 m) ∧
      ∃ s', w.cell? ⟨b, o + 3, none⟩ = some (.string s') ∧ ∃ d, w.cell? ⟨b, o + 4, none⟩ = some (.bool d) ∧ K n s m s' d :=
  ⟨_, hb.cell hx.c0, _, hb.cell hx.c1, _, hb.cell hx.c2, _, hb.cell hx.c3, _, hb.cell hx.c4, h⟩

set_option maxHeartbeats 400000 in
theorem first_empty {w : World} {q : Nat} {bs : List Nat} {fr : Nat} (h : QI w q bs fr []) :
    callC Try.prog 13 #[.pointer (some ⟨q, 0, none⟩)] w fun v w' => v = .tuple #[It.zero.agg, .bool false] ∧ Upd No w w' := by
  refine first_vc _ _ _ ?_
  refine newC_mk fun w1 hb u1 s1 => ?_
  have q1 := h.upd u1 fun _ _ => id
  refine ⟨fun _ => False, fun w3 e d => e.elim, fun b w => b = true ∧ w = w1, fun b wx e d => ?_, ⟨0, q1.head.cell rfl, rfl, rfl⟩⟩
  obtain ⟨rfl, rfl⟩ := e
  refine st5 (i := 0) hb (by decide) fun w2 h2 u2 s2 => ?_
  exact ld5 (o := 0) (x := It.zero) (K := fun n s m s' d => _) h2 (setIt_at _ 0 It.zero (by decide)) ⟨rfl, u1.trans u2 fun x hx (e : x = w.heap.size) => by omega⟩

theorem QI.first_at {w : World} {q : Nat} {bs : List Nat} {fr : Nat} {x : It} {xs : List It} (h : QI w q bs fr (x :: xs)) : ∃ cs, Blk w (bs.getD 0 0) cs 50 ∧ ItAt cs (fr * 5) x := by
  obtain ⟨cs, hc⟩ := h.blks 0 h.pos
  have hs := h.small
  have := hc.items 0 (by simp) (by omega)
  rw [Nat.add_zero, Nat.mod_eq_of_lt hs] at this
  exact ⟨cs, hc.blk, this⟩

set_option maxHeartbeats 400000 in
theorem first_some {w : World} {q : Nat} {bs : List Nat} {fr : Nat} {x : It} {xs : List It} (h : QI w q bs fr (x :: xs)) :
    callC Try.prog 13 #[.pointer (some ⟨q, 0, none⟩)] w fun v w' => v = .tuple #[x.agg, .bool true] ∧ Upd No w w' := by
  refine first_vc _ _ _ ?_
  refine newC_mk fun w1 hb u1 s1 => ?_
  have q1 := h.upd u1 fun _ _ => id
  have hs := h.small
  refine ⟨fun w => w = w1, fun w3 e d => ?_, fun b w => b = false ∧ w = w1, fun b wx e d => ?_, ⟨((x :: xs).length : Int), q1.head.cell rfl, ?_, rfl⟩⟩
  · subst e
    refine drawC_mk fun w2 u2 s2 => ?_
    have q2 := q1.upd u2 fun _ _ => id
    have hb2 := hb.upd u2 id
    obtain ⟨cs, hc, hi⟩ := q2.first_at
    refine ⟨some ⟨bs.getD 0 0, 0, none⟩, q2.head.cell rfl, (fr : Int), q2.head.cell rfl, by omega, by omega, ?_⟩
    simp only [add_mk, Nat.zero_add, Int.toNat_natCast]
    refine ld5 (K := fun n s m s' d => _) hc hi ?_
    refine st5 (i := 0) hb2 (by decide) fun w4 h4 u4 s4 => ?_
    refine ld5 (o := 0) (x := x) (K := fun n s m s' d => _) h4 (setIt_at _ 0 x (by decide)) ⟨rfl, ?_⟩
    exact (u1.trans u2 fun _ _ e => e).trans u4 fun y hy (e : y = w.heap.size) => by omega
  · obtain ⟨rfl, rfl⟩ := e; exact rfl
  · show (((x :: xs).length : Int) == 0) = false
    simp; omega

end Go.Proofs.Ytkfbocfmiecblaa
