/- Joined by program of: Nn, No. -/
import Derived.Test.YtdbkclnlfibgdaaGreatDoorWf
set_option maxRecDepth 100000
set_option maxHeartbeats 4000000
namespace Go.Proofs.YtdbkclnlfibgdaaGreatDoor
open Go.SX Go.Ty Go.MapKept Go.RowKit Go.Tx
section nil
variable {w : World} {K : KV}
end nil
def k1 : ByteArray := ByteArray.mk #[40, 105, 110, 116, 32, 124, 32, 115, 116, 114, 41, 32, 124, 32, 110, 105, 108, 32, 124, 32, 105, 110, 116]
def k2 : ByteArray := ByteArray.mk #[117, 46, 86]
def k3 : ByteArray := ByteArray.mk #[120, 46, 89]
def k4 : ByteArray := ByteArray.mk #[65, 32, 124, 32, 97, 110, 121]
theorem dg_get {w : World} {path : ByteArray} {l : List Dg} {p : Option Addr} {n c : Nat} (h : RowAt w 35 3 (.slice p n c) (dgCells path l)) {i : Nat} {d : Dg} (hi : l[i]? = some d) :
    n = l.length /\ i < n /\ ∃ g o, p = some ⟨g, o, none⟩ /\ w.cell? ⟨g, o + i * 3, none⟩ = some (.string path) /\ w.cell? ⟨g, o + i * 3 + 1, none⟩ = some (.int .i64 d.1) /\ w.cell? ⟨g, o + i * 3 + 2, none⟩ = some (.int .i64 d.2) := by
  obtain ⟨p', n', c', e, hn, _, _⟩ := h.shape; cases e; rw [dgCells_len] at hn; obtain ⟨hl, hd⟩ := List.getElem?_eq_some_iff.1 hi
  have key : ∀ (l : List Dg) (i : Nat) (hl : i < l.length) (j : Nat), j < 3 -> (dgCells path l)[i * 3 + j]? = [Value.string path, .int .i64 l[i].1, .int .i64 l[i].2][j]? := by
    intro l
    induction l with
    | nil => intro i hl; exact absurd hl (Nat.not_lt_zero i)
    | cons x l ih =>
      intro i hl j hj; have e : dgCells path (x :: l) = .string path :: .int .i64 x.1 :: .int .i64 x.2 :: dgCells path l := by simp [dgCells]
      rw [e]
      cases i with
      | zero =>
        rw [Nat.zero_mul, Nat.zero_add]
        match j, hj with
        | 0, _ => rfl
        | 1, _ => rfl
        | 2, _ => rfl
      | succ i =>
        rw [show (i + 1) * 3 + j = i * 3 + j + 3 by omega]; simpa using ih i (by simpa using hl) j hj
  obtain ⟨g, o, rfl, _⟩ := h.get (j := 0) (by rw [dgCells_len]; omega)
  have cell : ∀ j, j < 3 -> w.cell? ⟨g, o + i * 3 + j, none⟩ = [Value.string path, .int .i64 d.1, .int .i64 d.2][j]? := fun j hj => by
    obtain ⟨g', o', e, hc⟩ := h.get (j := i * 3 + j) (by rw [dgCells_len]; omega); cases e; rw [Nat.add_assoc, hc, key l i hl j hj, hd]
  exact ⟨by omega, by omega, g, o, rfl, cell 0 (by omega), cell 1 (by omega), cell 2 (by omega)⟩
end Go.Proofs.YtdbkclnlfibgdaaGreatDoor
