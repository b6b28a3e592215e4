/- The laws' arguments as lists of texts. -/
import Derived.Test.YtkacocaekffdgaaG12
import Derived.Test.YtkacocaekffdgaaFr
namespace Go.Proofs.Ytkacocaekffdgaa
open Go.ChangeShapes Go.WideShapes Go.ChangeAt Go.RowKit Go.SX

theorem own_prog : ownKnob Try.prog.godebug = none := by kernel_rfl
theorem laid : laidOutB Try.prog = true := by kernel_rfl

section
variable {H : Type} {enc : TypeId × Value → H} {W : World}
theorem strs_of {x : DataW H × List MemPlace} {fuel : Nat} {a0 : Option Addr} {l c : Nat} (h : DataW.trod enc Try.prog W 0 (fun _ => true) true fuel 22 [.slice a0 l c] = some x) :
    ∃ ps : List ByteArray, ps.length = l ∧ l ≤ c ∧ StrsAt W a0 ps ∧ ∀ p ∈ ps, p.size ≤ maxLen := by
  rcases Go.Deep.open_slice1 Try.underlying22 (by kernel_rfl) h with ⟨e, _⟩ | ⟨a, len, cap, m, n, V, D, Pl, e, _, hl, _, hm, _, hx⟩
  · cases e; exact ⟨[], rfl, Nat.le_refl _, strsAt_nil W _, by simp⟩
  · cases e
    have key : ∀ i, ∃ s : ByteArray, i < l → W.cell? (a.add i) = some (.string s) ∧ s.size ≤ maxLen := by
      intro i
      by_cases hi : i < l
      · obtain ⟨h1, h2⟩ := hx i (by rw [hm]; simp; omega)
        obtain ⟨s, q, _, hs⟩ := DataW.trod_string Try.underlying9 h2
        rw [List.head_eq_of_cons_eq q] at h1
        exact ⟨s, fun _ => ⟨h1, hs⟩⟩
      · exact ⟨ByteArray.empty, fun h => (hi h).elim⟩
    refine ⟨(List.range l).map fun i => (key i).choose, by simp, hl, fun i hi => ?_, fun p hp => ?_⟩
    · have hi' : i < l := by simpa using hi
      refine ⟨a, rfl, ?_⟩
      rw [Nat.mul_one, ((key i).choose_spec hi').1]
      simp
    · obtain ⟨i, hi, rfl⟩ := List.mem_map.1 hp
      exact ((key i).choose_spec (by simpa using hi)).2

theorem imps_of {x : DataW H × List MemPlace} {fuel : Nat} {a0 : Option Addr} {l c : Nat} (h : DataW.trod enc Try.prog W 0 (fun _ => true) true fuel 23 [.slice a0 l c] = some x) :
    ∃ imps : List (List ByteArray), imps.length = l ∧ l ≤ c ∧ ImpsIn W a0 imps ∧ ∀ m ∈ imps, ∀ p ∈ m, p.size ≤ maxLen := by
  rcases Go.Deep.open_slice1 Try.underlying23 (by kernel_rfl) h with ⟨e, _⟩ | ⟨a, len, cap, m, n, V, D, Pl, e, _, hl, _, hm, _, hx⟩
  · cases e; exact ⟨[], rfl, Nat.le_refl _, fun i hi => absurd hi (by simp), by simp⟩
  · cases e
    have key : ∀ i, ∃ ps : List ByteArray, i < l → (∃ (p : Option Addr) (c : Nat), W.cell? (a.add i) = some (.slice p ps.length c) ∧ StrsAt W p ps ∧ ps.length ≤ c) ∧ ∀ p ∈ ps, p.size ≤ maxLen := by
      intro i
      by_cases hi : i < l
      · obtain ⟨h1, h2⟩ := hx i (by rw [hm]; simp; omega)
        have : ∃ p n' c', V i = .slice p n' c' := by
          rcases Go.Deep.open_slice Try.underlying22 h2 with ⟨e, _⟩ | ⟨_, _, _, _, _, _, _, e, _⟩
          · exact ⟨_, _, _, List.head_eq_of_cons_eq e⟩
          · exact ⟨_, _, _, List.head_eq_of_cons_eq e⟩
        obtain ⟨p, n', c', e⟩ := this
        rw [e] at h1 h2
        obtain ⟨ps, rfl, hc, hs, hz⟩ := strs_of h2
        exact ⟨ps, fun _ => ⟨⟨p, c', h1, hs, hc⟩, hz⟩⟩
      · exact ⟨[], fun h => (hi h).elim⟩
    refine ⟨(List.range l).map fun i => (key i).choose, by simp, hl, fun i hi => ?_, fun m hm => ?_⟩
    · have hi' : i < l := by simpa using hi
      obtain ⟨p, c, h1, h2, h3⟩ := ((key i).choose_spec hi').1
      refine ⟨a, p, c, rfl, ?_, ?_, ?_⟩
      · rw [Nat.mul_one, h1]; simp
      · simpa using h2
      · simpa using h3
    · obtain ⟨i, hi, rfl⟩ := List.mem_map.1 hm
      exact ((key i).choose_spec (by simpa using hi)).2
end
end Go.Proofs.Ytkacocaekffdgaa
