/- A map's keys, rising. -/
import Derived.Test.YtkacocaekffdgaaG4
import Derived.Test.YtkacocaekffdgaaIter
namespace Go.Proofs.Ytkacocaekffdgaa
open Go.SX Go.RowKit Go.Maps Go.Sort Go.Shelf

def bs (l : List UInt8) : ByteArray := ⟨l.toArray⟩
/-- the texts of a list, rising. -/
def sortB (l : List ByteArray) : List ByteArray := ((l.map (fun s => s.data.toList)).mergeSort (fun x y => decide (x ≤ y))).map bs

theorem upd_of_below {w w' : World} (h : Below w.heap.size w w') : Upd No w w' := ⟨h.os, h.tape, h.output, h.size, fun k hk _ => h.block k hk⟩

/-- how a value reads: as nothing. -/
def R0 : Value → Option (DataW Unit × List MemPlace) := fun _ => some (.nil, [])
theorem owns_of {w : World} {b : Nat} {ks : List ByteArray} {f : Value → Value} (h : MapF .string w b (strs ks) f) (hl : ks.length ≤ maxLen) (hs : ∀ k ∈ ks, k.size ≤ maxLen) :
    ∃ nn D0, w.ownsMap Try.prog 9 R0 b nn D0 ∧ (strKeys D0).Perm (ks.map fun s => s.data.toList) ∧ Maps.size D0 = ks.length := by
  obtain ⟨es, clock, hb, hk, hv, hst, _⟩ := h
  have hlen : es.size = ks.length := by
    have := congrArg List.length hk
    simpa [strs] using this
  have hrd : ∀ x ∈ es.toList, ∃ s : ByteArray, s ∈ ks ∧ x.key = .string s ∧ WideElems.rd Try.prog 9 R0 x = some (.string s.data.toList, .nil) := by
    intro x hx
    have : x.key ∈ strs ks := by rw [← hk]; exact List.mem_map_of_mem hx
    obtain ⟨s, hs', e⟩ := List.mem_map.1 this
    refine ⟨s, hs', e.symm, ?_⟩
    unfold WideElems.rd
    rw [← e, WideMaps.keyOf_string_mk Try.underlying9 (hs s hs')]
    rfl
  have F : WideElems.Fit Try.prog 9 R0 es clock := ⟨by omega, hst, fun x hx => let ⟨s, _, _, h⟩ := hrd x hx; ⟨_, h⟩⟩
  refine ⟨es.size, _, World.ownsMap_of_fit hb F (fun _ _ _ h => h), ?_, ?_⟩
  · have hm : es.toList.map (WideElems.rg Try.prog 9 R0) = ks.map fun s => (Lit.string s.data.toList, DataW.nil) := by
      have : es.toList.map (WideElems.rg Try.prog 9 R0) = es.toList.map fun x => ((match x.key with | .string s => Lit.string s.data.toList | _ => .bool false), DataW.nil) := by
        refine List.map_congr_left fun x hx => ?_
        obtain ⟨s, _, e, h⟩ := hrd x hx
        simp [WideElems.rg, h, e]
      rw [this]
      have e2 : (es.toList.map fun x => ((match x.key with | .string s => Lit.string s.data.toList | _ => .bool false), (DataW.nil : DataW Unit))) =
          (es.toList.map (·.key)).map fun k => ((match k with | .string s => Lit.string s.data.toList | _ => .bool false), (DataW.nil : DataW Unit)) := by rw [List.map_map]; rfl
      rw [e2, hk]
      simp [strs]
    have hp := (WideShapes.sorted_perm (es.toList.map (WideElems.rg Try.prog 9 R0))).map fun p => strOf p.1
    rw [hm] at hp ⊢
    refine hp.trans ?_
    rw [List.map_map]
    exact List.Perm.refl _
  · show List.length _ = _
    rw [(WideShapes.sorted_perm _).length_eq, List.length_map]
    simpa using hlen

theorem callC_of_calls {P : Program} {f : FuncId} {args : Array Value} {w : World} {R : Ending → World → Prop} {K : Value → World → Prop} (h : Calls P f args w R) (hk : ∀ e w', R e w' → ∃ v, e = .returned v ∧ K v w') : callC P f args w K :=
  Calls.mono h fun e w' x => by
    obtain ⟨v, rfl, k⟩ := hk e w' x
    exact k
theorem RowAt.of_owns {w : World} {base : Nat} {e : TypeId} {size : Nat} {v : Value} {n : Nat} {xs : List Value} (h : w.ownsRow base e size v n xs) : RowAt w e size v xs := by
  obtain ⟨hl, ⟨rfl, rfl⟩ | ⟨g, cap, cur, rfl, hb, hg, hn, hc, hs, ht⟩⟩ := h
  · exact ⟨0, hl, .inl ⟨rfl, rfl⟩⟩
  · exact ⟨n, hl, .inr ⟨g, 0, cap, cur, rfl, hg, hn, hc, by omega, by simpa using ht⟩⟩

theorem leB_total (a b : List UInt8) : (decide (a ≤ b) || decide (b ≤ a)) = true := by
  rcases List.le_total a b with h | h <;> simp [h]
theorem leB_trans (a b c : List UInt8) : decide (a ≤ b) = true → decide (b ≤ c) = true → decide (a ≤ c) = true := by
  simp only [decide_eq_true_eq]
  exact List.le_trans
theorem sort_perm {l m : List (List UInt8)} (h : l.Perm m) : l.mergeSort (fun x y => decide (x ≤ y)) = m.mergeSort (fun x y => decide (x ≤ y)) := by
  refine List.Perm.eq_of_pairwise (le := fun x y => decide (x ≤ y) = true) ?_ (List.pairwise_mergeSort leB_trans leB_total l) (List.pairwise_mergeSort leB_trans leB_total m) (((List.mergeSort_perm l _).trans h).trans (List.mergeSort_perm m _).symm)
  intro a b _ _ h1 h2
  simp only [decide_eq_true_eq] at h1 h2
  exact List.le_antisymm h1 h2

theorem rising_spec {w : World} {b : Nat} {ks : List ByteArray} {f : Value → Value} (h : MapF .string w b (strs ks) f) (hl : ks.length ≤ 1000000) (hs : ∀ k ∈ ks, k.size ≤ maxLen) :
    callC Try.prog 42 #[.map (some b)] w fun v w' => RowAt w' 9 1 v (strs (sortB ks)) ∧ Upd No w w' ∧ ∀ k, InRow v k → w.heap.size ≤ k := by
  obtain ⟨nn, D0, hown, hperm, hsize⟩ := owns_of h (by simp only [maxLen]; omega) hs
  refine rising _ _ _ (callC_of_calls (callsIn_wide.1 (Try.maps_Keys_53 (some b) w)) fun e w1 ⟨he, hw⟩ => ⟨_, he, _, rfl, ?_⟩)
  subst hw
  refine callC_of_calls (callsIn_wide.1 (Try.slices_Sorted_keys_52_53 b nn D0 R0 w hown (by rw [hsize]; simp only [maxLen]; omega) (by rw [hsize]; omega))) fun e w2 ⟨v, ss, he, hp, hrow, hnil, hb⟩ => ⟨v, he, ?_⟩
  have hr := RowAt.of_owns hrow
  have e1 : (ss.mergeSort (fun x y => decide (x ≤ y))).map encStr = strs (sortB ks) := by
    rw [sort_perm (hp.trans hperm)]
    simp [strs, sortB, bs]
  rw [e1] at hr
  have u2 : Upd No w w2 := (upd_alloc w _).trans (upd_of_below hb) fun _ _ => id
  have hge : ∀ k, InRow v k → w.heap.size ≤ k := by
    intro k hk
    have := (hrow.lt k hk).1
    simp at this
    omega
  obtain ⟨p, n, c, rfl, _⟩ := hr.shape
  exact ⟨p, n, c, rfl, hr, u2, hge⟩
end Go.Proofs.Ytkacocaekffdgaa
