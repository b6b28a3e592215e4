/- A way, as an argument. -/
import Derived.Test.YtkacocaekffdgaaP6
import Derived.Test.YtkacocaekffdgaaArg
namespace Go.Proofs.Ytkacocaekffdgaa
open Go.ChangeShapes Go.WideShapes Go.ChangeAt Go.RowKit Go.SX

section
variable {H : Type} {enc : TypeId × Value → H} {W : World}
set_option maxRecDepth 50000 in
theorem act_one {y : DataW H × List MemPlace} {n : Nat} {cs : List Value} (h : DataW.trod enc Try.prog W 0 (fun _ => true) true n 51 cs = some y) :
    ∃ (m : Int) (s : ByteArray) (b : Bool), cs = [.int .i64 m, .string s, .bool b] ∧ s.size ≤ maxLen := by
  obtain ⟨xs, k, _, _, hlen, hxs, hel⟩ := DataW.trod_struct Try.underlying51 h
  have hc : Try.prog.cellsOf 51 = 3 := by kernel_rfl
  have c3 : Try.prog.cellsOf 3 = 1 := by kernel_rfl
  have c9 : Try.prog.cellsOf 9 = 1 := by kernel_rfl
  have c4 : Try.prog.cellsOf 4 = 1 := by kernel_rfl
  rw [hc] at hlen
  match cs, hlen with
  | [v0, v1, v2], _ =>
    match xs, hxs with
    | [y0, y1, y2], _ =>
      have e0 := hel 0 _ rfl
      have e1 := hel 1 _ rfl
      have e2 := hel 2 _ rfl
      have e0 : DataW.trod enc Try.prog W 0 (fun _ => true) true k 3 (List.take (Try.prog.cellsOf 3) [v0, v1, v2]) = some y0 := e0
      have e1 : DataW.trod enc Try.prog W 0 (fun _ => true) true k 9 (List.take (Try.prog.cellsOf 9) [v1, v2]) = some y1 := e1
      have e2 : DataW.trod enc Try.prog W 0 (fun _ => true) true k 4 (List.take (Try.prog.cellsOf 4) [v2]) = some y2 := e2
      rw [c3] at e0; rw [c9] at e1; rw [c4] at e2
      obtain ⟨n0, q0, _, _⟩ := DataW.trod_int Try.underlying3 e0
      obtain ⟨s1, q1, _, hz⟩ := DataW.trod_string Try.underlying9 e1
      obtain ⟨b2, q2, _⟩ := DataW.trod_bool Try.underlying4 e2
      have q0 : [v0] = [Value.int .i64 n0] := q0
      have q1 : [v1] = [Value.string s1] := q1
      have q2 : [v2] = [Value.bool b2] := q2
      cases q0; cases q1; cases q2
      exact ⟨n0, s1, b2, rfl, hz⟩

set_option maxRecDepth 50000 in
theorem acts_in {x : DataW H × List MemPlace} {fuel : Nat} {a0 : Option Addr} {l c : Nat} (h : DataW.trod enc Try.prog W 0 (fun _ => true) true fuel 42 [.slice a0 l c] = some x) : ActsIn W a0 l := by
  rcases Go.Deep.open_slice Try.underlying42 h with ⟨e, _⟩ | ⟨a, len, cap, m, n, D, Pl, e, _, hl, _, hm, _, hx⟩
  · cases e; exact fun i hi => absurd hi (by omega)
  · cases e
    intro i hi
    obtain ⟨cs', h1, h2⟩ := hx i (by rw [hm]; split <;> omega)
    have hc : Try.prog.cellsOf 51 = 3 := by kernel_rfl
    rw [hc] at h1
    obtain ⟨m, s, b, rfl, _⟩ := act_one h2
    obtain ⟨_, hcell⟩ := cells_get h1
    exact ⟨a, m, s, b, rfl, hcell 0 (by decide), hcell 1 (by decide), hcell 2 (by decide)⟩

set_option maxRecDepth 50000 in
theorem way_of {v : Value} {d : DataW H} {p : List MemPlace} {base : Nat} (hval : Value.okWide Try.prog W .any base 44 v) (h : DataW.Trod enc Try.prog W 0 (fun _ => true) true 44 v d p) :
    ∃ (xf : Option Addr) (first : List ByteArray) (cf : Nat) (xa : Option Addr) (la ca : Nat), v = .agg #[.slice xf first.length cf, .slice xa la ca] ∧ first.length ≤ cf ∧ StrsAt W xf first ∧ ActsIn W xa la := by
  obtain ⟨cs, rfl, _⟩ := okWide_struct Try.underlying44 hval
  obtain ⟨fuel, hf⟩ := h
  have hf : DataW.trod enc Try.prog W 0 (fun _ => true) true fuel 44 cs.toList = some (d, p) := hf
  obtain ⟨xs, k, _, _, hlen, hxs, hel⟩ := DataW.trod_struct Try.underlying44 hf
  have hc : Try.prog.cellsOf 44 = 2 := by kernel_rfl
  have c22 : Try.prog.cellsOf 22 = 1 := by kernel_rfl
  have c42 : Try.prog.cellsOf 42 = 1 := by kernel_rfl
  rw [hc] at hlen
  have hcs : cs = cs.toList.toArray := by simp
  rw [hcs]
  match hcl : cs.toList, hlen with
  | [v0, v1], _ =>
    rw [hcl] at hel
    match xs, hxs with
    | [y0, y1], _ =>
      have e0 := hel 0 _ rfl
      have e1 := hel 1 _ rfl
      have e0 : DataW.trod enc Try.prog W 0 (fun _ => true) true k 22 (List.take (Try.prog.cellsOf 22) [v0, v1]) = some y0 := e0
      have e1 : DataW.trod enc Try.prog W 0 (fun _ => true) true k 42 (List.take (Try.prog.cellsOf 42) [v1]) = some y1 := e1
      rw [c22] at e0; rw [c42] at e1
      have e0 : DataW.trod enc Try.prog W 0 (fun _ => true) true k 22 [v0] = some y0 := e0
      have e1 : DataW.trod enc Try.prog W 0 (fun _ => true) true k 42 [v1] = some y1 := e1
      have s0 : ∃ a l c, v0 = .slice a l c := by
        rcases Go.Deep.open_slice Try.underlying22 e0 with ⟨e, _⟩ | ⟨_, _, _, _, _, _, _, e, _⟩
        · exact ⟨_, _, _, List.head_eq_of_cons_eq e⟩
        · exact ⟨_, _, _, List.head_eq_of_cons_eq e⟩
      have s1 : ∃ a l c, v1 = .slice a l c := by
        rcases Go.Deep.open_slice Try.underlying42 e1 with ⟨e, _⟩ | ⟨_, _, _, _, _, _, _, e, _⟩
        · exact ⟨_, _, _, List.head_eq_of_cons_eq e⟩
        · exact ⟨_, _, _, List.head_eq_of_cons_eq e⟩
      obtain ⟨xf, lf, cf, rfl⟩ := s0
      obtain ⟨xa, la, ca, rfl⟩ := s1
      obtain ⟨first, rfl, hlc, hF, _⟩ := strs_of e0
      exact ⟨xf, first, cf, xa, la, ca, rfl, hlc, hF, acts_in e1⟩
end
end Go.Proofs.Ytkacocaekffdgaa
