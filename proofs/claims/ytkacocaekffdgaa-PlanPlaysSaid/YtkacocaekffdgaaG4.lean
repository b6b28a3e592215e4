/- Cyclic. -/
import Derived.Test.YtkacocaekffdgaaG3
namespace Go.Proofs.Ytkacocaekffdgaa
open Go.SX

theorem Walked.reach {adj : ByteArray → List ByteArray} {ps M' : List ByteArray} {p : ByteArray} (W : Walked adj ps [] M' (adj p) p) (x : ByteArray) : x ∈ M' ↔ Reach adj p x :=
  ⟨fun h => (W.new x h (by simp)).2, fun h => h.closed (S := fun x => x ∈ M') W.all fun y hy => (W.new y hy (by simp)).1⟩

theorem cyclic_nil (w : World) (p : ByteArray) : callC Try.prog 15 #[.pointer none, .string p] w fun v w' => v = .bool false ∧ Upd No w w' := by
  refine gcyclic _ _ _ _ (newC_mk fun w1 h1 u1 s1 => ⟨_, h1.cell rfl, brC_tt rfl ⟨rfl, u1⟩⟩)

theorem cyclic_spec {w : World} {g : Nat} {ps : List ByteArray} {adj : ByteArray → List ByteArray} {m : Nat} {f : Value → Value} (G : GraphAt w g ps adj m f) (p : ByteArray) :
    callC Try.prog 15 #[.pointer (some ⟨g, 0, none⟩), .string p] w fun v w' => ∃ b, v = .bool b ∧ (b = true ↔ Reach adj p p) ∧ Upd No w w' := by
  refine gcyclic _ _ _ _ (newC_mk fun w1 h1 u1 s1 => ⟨_, h1.cell rfl, brC_ff rfl ?_⟩)
  refine newM_mk (d := .string) (f := one) fun w4 h4 u4 s4 => newC_mk fun w6 h6 u6 s6 => stC_mk h6 (by simp) fun w7 h7 u7 s7 => newC_mk fun w9 h9 u9 s9 => stC_mk h9 (by simp) fun w10 h10 u10 s10 => ⟨_, h10.cell rfl, ?_⟩
  have u7 : Upd (· = w4.heap.size) w6 w7 := u7
  have u10 : Upd (· = w7.heap.size) w9 w10 := u10
  have k0 : Blk w10 w.heap.size #[.pointer (some ⟨g, 0, none⟩)] 26 := ((((h1.upd u4 id).upd u6 id).upd u7 (by omega)).upd u9 id).upd u10 (by omega)
  have km : MapF .string w10 w1.heap.size (strs []) one := (((h4.upd u6 id).upd u7 (by omega)).upd u9 id).upd u10 (by omega)
  have k5 : Blk w10 w4.heap.size _ 69 := (h7.upd u9 id).upd u10 (by omega)
  have u : Upd No w w10 := ((((u1.trans u4 fun _ _ => id).trans u6 fun _ _ => id).trans u7 fun k hk e => by omega).trans u9 fun _ _ => id).trans u10 fun k hk e => by omega
  refine inv_walk (callC_of (walk_spec (mb := w1.heap.size) G (by omega) (ps.length + 1) w10 [] p (by simp) u ⟨k0.cell rfl, k5.cell rfl, h10.cell rfl, by omega, by omega, by omega⟩ km (by simp) (by simp)) fun v w13 ⟨hv, u13, M', hM, W⟩ => ⟨hv, ?_⟩)
  refine ⟨_, (k5.upd u13 (by omega)).cell rfl, runR_of (met_look hM p) ⟨_, rfl, _, rfl, ?_, u.trans u13 fun k hk e => by omega⟩⟩
  rw [← W.reach p]
  by_cases h : p ∈ M' <;> simp [h]
end Go.Proofs.Ytkacocaekffdgaa
