/- Order's closure; slices.ContainsFunc at it. -/
import Derived.Test.YtkacocaekffdgaaG6
namespace Go.Proofs.Ytkacocaekffdgaa
open Go.SX

set_option maxRecDepth 100000 in
theorem inv_waits {x c0 : Value} {w : World} {K : Value → World → Prop} (h : callC Try.prog 45 #[x, c0] w K) : invC Try.prog (.func (.func 45) #[] #[c0]) #[x] w K :=
  of_eq h (by kernel_rfl)

theorem waits_spec {w : World} {b mb : Nat} {M : List ByteArray} (hc : w.cell? ⟨b, 0, none⟩ = some (.map (some mb))) (hM : MapF .string w mb (strs M) one) (s : ByteArray) :
    callC Try.prog 45 #[.string s, .pointer (some ⟨b, 0, none⟩)] w fun v w' => v = .bool (decide (s ∈ M)) ∧ w = w' := by
  refine gorder1 _ _ _ _ _ ⟨_, hc, runR_of (met_look hM s) ⟨_, rfl, ?_, rfl⟩⟩
  by_cases h : s ∈ M <;> simp [h]

/-- does one of l wait? -/
theorem containsF_spec {w : World} {b mb : Nat} {M : List ByteArray} (hc : w.cell? ⟨b, 0, none⟩ = some (.map (some mb))) (hM : MapF .string w mb (strs M) one) {q : Option Addr} {l : List ByteArray} (hs : StrsAt w q l) (hl : l.length ≤ maxLen) (c : Nat) :
    callC Try.prog 44 #[.slice q l.length c, .func (.func 45) #[] #[.pointer (some ⟨b, 0, none⟩)]] w fun v w' => ∃ r, v = .bool r ∧ (r = true ↔ ∃ x ∈ l, x ∈ M) ∧ w = w' := by
  simp only [maxLen] at hl
  refine containsF _ _ _ _ _ _ (callC_of (R := fun v w' => ∃ n : Int, v = .int .i64 n ∧ (0 ≤ n ↔ ∃ x ∈ l, x ∈ M) ∧ w = w') ?_ fun v w1 ⟨n, hv, hn, e⟩ => ⟨_, hv, _, rfl, by simpa using hn, e⟩)
  refine indexF _ _ _ _ _ _ ⟨fun n w' => ∃ i : Nat, n = i ∧ i ≤ l.length ∧ w = w' ∧ ∀ x ∈ l.take i, x ∉ M, fun n _ => (l.length - n).toNat, ⟨0, rfl, Nat.zero_le _, rfl, by simp⟩, ?_⟩
  rintro n w3 ⟨i, rfl, hi, rfl, hno⟩ d
  refine brC_intro (fun hlt => ?_) fun hge => ?_
  · have hlt : i < l.length := by simpa using hlt
    obtain ⟨a, rfl, ha⟩ := hs i hlt
    refine ⟨by omega, by omega, ptrC_some ⟨_, by rw [Int.toNat_natCast]; exact ha, inv_waits (callC_of (waits_spec hc hM l[i]) fun v w8 ⟨hv, e⟩ => ⟨_, hv, ?_⟩)⟩⟩
    subst e
    refine brC_intro (fun h => ?_) fun h => ?_
    · refine ⟨_, rfl, ⟨fun _ => ⟨_, List.getElem_mem hlt, by simpa using h⟩, fun _ => by omega⟩, rfl⟩
    · have hw : IntKind.wrap .i64 ((i : Int) + 1) = i + 1 := Go.SX.wrap_small (by omega) (by omega)
      rw [hw]
      refine ⟨⟨i + 1, by omega, hlt, rfl, fun x hx => ?_⟩, by dsimp only; omega⟩
      rw [List.take_succ_eq_append_getElem hlt, List.mem_append, List.mem_singleton] at hx
      rcases hx with hx | rfl
      · exact hno x hx
      · simpa using h
  · have : i = l.length := by
      have : ¬ ((i : Int) < (l.length : Int)) := by simpa using hge
      omega
    subst this
    rw [List.take_length] at hno
    exact ⟨_, rfl, ⟨fun h => by omega, fun ⟨x, hx, hm⟩ => (hno x hx hm).elim⟩, rfl⟩
end Go.Proofs.Ytkacocaekffdgaa
