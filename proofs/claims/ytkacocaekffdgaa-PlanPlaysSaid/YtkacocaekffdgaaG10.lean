/- The order: each path once, behind what it imports; those that lead to themselves first, rising. -/
import Derived.Test.YtkacocaekffdgaaG9
namespace Go.Proofs.Ytkacocaekffdgaa
open Go.SX

theorem idxAt_out {l : List ByteArray} {s : ByteArray} : ∀ {i}, s ∉ l → idxAt l s i = -1 := by
  induction l with
  | nil => intro i _; rfl
  | cons x l ih =>
    intro i h
    unfold idxAt
    rw [if_neg (fun e => h (by rw [e]; simp))]
    exact ih fun hx => h (by simp [hx])
theorem idxAt_in {l : List ByteArray} {s : ByteArray} : ∀ {i : Nat}, s ∈ l → (i : Int) ≤ idxAt l s i ∧ idxAt l s i < (i : Int) + l.length := by
  induction l with
  | nil => intro i h; cases h
  | cons x l ih =>
    intro i h
    unfold idxAt
    split
    · simp only [List.length_cons]; omega
    · rename_i hx
      have := ih (i := i + 1) ((List.mem_cons.1 h).resolve_left fun e => hx e.symm)
      simp only [List.length_cons]; omega
theorem idxAt_cons (x : ByteArray) (l : List ByteArray) (s : ByteArray) (i : Nat) : idxAt (x :: l) s i = if x = s then (i : Int) else idxAt l s (i + 1) := rfl
theorem idxAt_append {a b : List ByteArray} {s : ByteArray} : ∀ {i : Nat}, idxAt (a ++ b) s i = if s ∈ a then idxAt a s i else idxAt b s (i + a.length) := by
  induction a with
  | nil => intro i; simp
  | cons x a ih =>
    intro i
    rw [List.cons_append, idxAt_cons, idxAt_cons]
    by_cases hx : x = s
    · rw [if_pos hx, if_pos hx, if_pos (by simp [hx])]
    · rw [if_neg hx, if_neg hx, ih]
      have : (s ∈ x :: a) ↔ s ∈ a := by simp [Ne.symm hx]
      by_cases h : s ∈ a
      · rw [if_pos h, if_pos (this.2 h)]
      · rw [if_neg h, if_neg (fun e => h (this.1 e))]
        have : i + 1 + a.length = i + (x :: a).length := by simp only [List.length_cons]; omega
        rw [this]

theorem pick_some {adj : ByteArray → List ByteArray} {W : List ByteArray} (h0 : W ≠ []) (hc : ∀ p ∈ W, ¬ Reach adj p p) : ∃ p, pick adj W = some p ∧ p ∈ W ∧ ∀ q ∈ adj p, q ∉ W := by
  cases h : pick adj W with
  | some p =>
    unfold pick at h
    have h1 := List.mem_of_find?_eq_some h
    have h2 := List.find?_some h
    rw [List.all_eq_true] at h2
    exact ⟨p, rfl, mem_sortB.1 h1, fun q hq => by simpa using h2 q hq⟩
  | none =>
    unfold pick at h
    rw [List.find?_eq_none] at h
    obtain ⟨p, hp, hr⟩ := ring_of (adj := adj) W.length W (Nat.le_refl _) h0 fun p hp => by
      refine Classical.byContradiction fun hn => h p (mem_sortB.2 hp) ?_
      rw [List.all_eq_true]
      intro q hq
      have : q ∉ W := fun hw => hn ⟨q, hq, hw⟩
      simpa using this
    exact (hc p hp hr).elim

theorem place_spec0 {adj : ByteArray → List ByteArray} : ∀ (n : Nat) (W : List ByteArray), W.length = n → W.Nodup → (∀ p ∈ W, ¬ Reach adj p p) →
    (place adj n W).Perm W ∧ ∀ i, ∀ x ∈ W, ∀ y ∈ W, y ∈ adj x → idxAt (place adj n W) y i < idxAt (place adj n W) x i := by
  intro n
  induction n with
  | zero =>
    intro W hl _ _
    have : W = [] := List.eq_nil_of_length_eq_zero hl
    subst this
    exact ⟨List.Perm.refl _, fun i x hx => by cases hx⟩
  | succ n ih =>
    intro W hl hn hc
    obtain ⟨p, hp, hpW, hfree⟩ := pick_some (adj := adj) (W := W) (by rintro rfl; cases hl) hc
    have hpl : place adj (n + 1) W = p :: place adj n (W.filter fun x => decide (x ≠ p)) := by
      show (match pick adj W with | none => [] | some p => p :: place adj n (W.filter fun x => decide (x ≠ p))) = _
      rw [hp]
    have hperm : (p :: W.filter fun x => decide (x ≠ p)).Perm W := by
      refine (List.perm_ext_iff_of_nodup (List.nodup_cons.2 ⟨by simp, hn.filter _⟩) hn).2 fun x => ?_
      rw [List.mem_cons, List.mem_filter, decide_eq_true_eq]
      constructor
      · rintro (rfl | ⟨h, _⟩)
        · exact hpW
        · exact h
      · intro h
        by_cases e : x = p
        · exact .inl e
        · exact .inr ⟨h, e⟩
    have hlen := hperm.length_eq
    simp only [List.length_cons] at hlen
    obtain ⟨h1, h2⟩ := ih (W.filter fun x => decide (x ≠ p)) (by omega) (hn.filter _) fun x hx => hc x (List.mem_filter.1 hx).1
    rw [hpl]
    refine ⟨(h1.cons p).trans hperm, fun i x hx y hy hxy => ?_⟩
    have hxp : x ≠ p := by rintro rfl; exact hfree y hxy hy
    have hxf : x ∈ W.filter fun x => decide (x ≠ p) := List.mem_filter.2 ⟨hx, by simpa using hxp⟩
    rw [idxAt_cons, idxAt_cons, if_neg (Ne.symm hxp)]
    have hx2 := idxAt_in (i := i + 1) (h1.mem_iff.2 hxf)
    split
    · omega
    · rename_i hyp
      exact h2 (i + 1) x hxf y (List.mem_filter.2 ⟨hy, by simpa using Ne.symm hyp⟩) hxy

theorem order_perm {ps : List ByteArray} (adj : ByteArray → List ByteArray) (hn : ps.Nodup) : (orderOf ps adj).Perm ps := by
  unfold orderOf
  have h1 := (place_spec0 (adj := adj) _ _ rfl (hn.filter fun p => !cyc adj p) fun p hp => by
    have := (List.mem_filter.1 hp).2
    rw [Bool.not_eq_true', ← Bool.not_eq_true, cyc_iff] at this
    exact this).1
  refine ((sortB_self _).append h1).trans ?_
  exact List.filter_append_perm (fun p => cyc adj p) ps
theorem order_before {ps : List ByteArray} {adj : ByteArray → List ByteArray} (hn : ps.Nodup) {p q : ByteArray} (hp : p ∈ ps) (hc : ¬ Reach adj p p) (hq : q ∈ ps) (hqp : q ∈ adj p) : idxAt (orderOf ps adj) q 0 < idxAt (orderOf ps adj) p 0 := by
  have hc' : cyc adj p = false := by rw [← Bool.not_eq_true, cyc_iff]; exact hc
  have hpW : p ∈ ps.filter fun p => !cyc adj p := List.mem_filter.2 ⟨hp, by simp [hc']⟩
  obtain ⟨h1, h2⟩ := place_spec0 (adj := adj) _ _ rfl (hn.filter fun p => !cyc adj p) fun p hp => by
    have := (List.mem_filter.1 hp).2
    rw [Bool.not_eq_true', ← Bool.not_eq_true, cyc_iff] at this
    exact this
  unfold orderOf
  rw [idxAt_append, idxAt_append, if_neg (show p ∉ sortB _ by rw [mem_sortB, List.mem_filter, hc']; simp)]
  split
  · rename_i h
    have a := idxAt_in (i := 0) h
    have b := idxAt_in (i := 0 + (sortB (ps.filter fun p => cyc adj p)).length) (h1.mem_iff.2 hpW)
    omega
  · rename_i h
    rw [mem_sortB, List.mem_filter] at h
    exact h2 _ p hpW q (List.mem_filter.2 ⟨hq, by simpa using fun e => h ⟨hq, e⟩⟩) hqp

theorem sortB_sorted (l : List ByteArray) : (sortB l).Pairwise fun a b => a.data.toList ≤ b.data.toList := by
  unfold sortB
  rw [List.pairwise_map]
  have h := List.pairwise_mergeSort leB_trans leB_total (l.map (fun s => s.data.toList))
  refine h.imp fun h => ?_
  simpa [bs] using h
theorem data_inj {a b : ByteArray} (h : a.data.toList = b.data.toList) : a = b := by
  cases a; cases b; congr 1; exact Array.toList_inj.1 h
theorem sortB_strict {l : List ByteArray} (hn : l.Nodup) : (sortB l).Pairwise fun a b => a.data.toList < b.data.toList := by
  have h1 := sortB_sorted l
  have h2 : (sortB l).Nodup := (sortB_self l).nodup_iff.2 hn
  rw [List.nodup_iff_pairwise_ne] at h2
  refine (h1.and h2).imp fun ⟨h, hne⟩ => ?_
  rcases List.le_iff_lt_or_eq.1 h with h | h
  · exact h
  · exact (hne (data_inj h)).elim
/-- what rises and holds the same is the sorted list. -/
theorem sortB_eq {l m : List ByteArray} (hp : m.Perm l) (hs : m.Pairwise fun a b => a.data.toList ≤ b.data.toList) : sortB l = m := by
  refine List.Perm.eq_of_pairwise (le := fun a b => a.data.toList ≤ b.data.toList) ?_ (sortB_sorted l) hs ((sortB_self l).trans hp.symm)
  intro a b _ _ h1 h2
  exact data_inj (List.le_antisymm h1 h2)

theorem order_rising {ps : List ByteArray} {adj : ByteArray → List ByteArray} (hn : ps.Nodup) {i : Nat} (hi : i + 1 < (orderOf ps adj).length) (hc : Reach adj (orderOf ps adj)[i + 1] (orderOf ps adj)[i + 1]) :
    Reach adj (orderOf ps adj)[i] (orderOf ps adj)[i] ∧ (orderOf ps adj)[i].data.toList < (orderOf ps adj)[i + 1].data.toList := by
  have h1 := (place_spec0 (adj := adj) _ _ rfl (hn.filter fun p => !cyc adj p) fun p hp => by
    have := (List.mem_filter.1 hp).2
    rw [Bool.not_eq_true', ← Bool.not_eq_true, cyc_iff] at this
    exact this).1
  have hlt : i + 1 < (sortB (ps.filter fun p => cyc adj p)).length := by
    refine Nat.lt_of_not_le fun hle => ?_
    have key : ∀ (L A B : List ByteArray) (h : L = A ++ B) (j : Nat) (hj : j < L.length), A.length ≤ j → L[j] ∈ B := by
      intro L A B h j hj hle
      subst h
      rw [List.getElem_append_right hle]
      exact List.getElem_mem _
    have : (orderOf ps adj)[i + 1] ∈ place adj (ps.filter fun p => !cyc adj p).length (ps.filter fun p => !cyc adj p) := key (orderOf ps adj) _ _ rfl (i + 1) hi hle
    have := (List.mem_filter.1 (h1.mem_iff.1 this)).2
    rw [Bool.not_eq_true', ← Bool.not_eq_true, cyc_iff] at this
    exact this hc
  have key : ∀ (L A B : List ByteArray) (h : L = A ++ B) (j : Nat) (hj : j < A.length) (hj' : j < L.length), L[j] = A[j] := by
    intro L A B h j hj hj'
    subst h
    exact List.getElem_append_left hj
  have e1 : (orderOf ps adj)[i] = (sortB (ps.filter fun p => cyc adj p))[i] := key (orderOf ps adj) _ _ rfl i (by omega) (by omega)
  have e2 : (orderOf ps adj)[i + 1] = (sortB (ps.filter fun p => cyc adj p))[i + 1] := key (orderOf ps adj) _ _ rfl (i + 1) hlt hi
  rw [e1, e2]
  refine ⟨?_, List.pairwise_iff_getElem.1 (sortB_strict (hn.filter _)) i (i + 1) (by omega) hlt (by omega)⟩
  have : (sortB (ps.filter fun p => cyc adj p))[i] ∈ ps.filter fun p => cyc adj p := mem_sortB.1 (List.getElem_mem _)
  exact cyc_iff.1 (List.mem_filter.1 this).2

/-! ### of given graphs -/
/-- what S leads to, in n steps. -/
def clos (adj : ByteArray → List ByteArray) : Nat → List ByteArray → List ByteArray
  | 0, S => S
  | n + 1, S => clos adj n (S ++ S.flatMap adj)
theorem clos_sound {adj : ByteArray → List ByteArray} {p : ByteArray} : ∀ (n : Nat) (S : List ByteArray), (∀ x ∈ S, Reach adj p x) → ∀ x ∈ clos adj n S, Reach adj p x
  | 0, S, h => h
  | n + 1, S, h => clos_sound n _ fun x hx => by
    rcases List.mem_append.1 hx with hx | hx
    · exact h x hx
    · obtain ⟨y, hy, hx⟩ := List.mem_flatMap.1 hx
      exact (h y hy).trans (.one hx)
theorem clos_sub {adj : ByteArray → List ByteArray} : ∀ (n : Nat) (S : List ByteArray), ∀ x ∈ S, x ∈ clos adj n S
  | 0, S, x, h => h
  | n + 1, S, x, h => clos_sub n _ x (List.mem_append_left _ h)
/-- where no more comes, all is there. -/
theorem reach_clos {adj : ByteArray → List ByteArray} {p : ByteArray} (n : Nat) (hc : ∀ x ∈ clos adj n (adj p), ∀ y ∈ adj x, y ∈ clos adj n (adj p)) (q : ByteArray) : Reach adj p q ↔ q ∈ clos adj n (adj p) :=
  ⟨fun h => h.closed (S := fun x => x ∈ clos adj n (adj p)) (fun x hx => clos_sub n _ x hx) hc, fun h => clos_sound n _ (fun x hx => .one hx) q h⟩
theorem orderOf_eq {ps : List ByteArray} {adj : ByteArray → List ByteArray} {c : ByteArray → Bool} (h : ∀ p ∈ ps, c p = true ↔ Reach adj p p) :
    orderOf ps adj = sortB (ps.filter c) ++ place adj (ps.filter fun p => !c p).length (ps.filter fun p => !c p) := by
  have e : ∀ p ∈ ps, cyc adj p = c p := fun p hp => by rw [Bool.eq_iff_iff, cyc_iff, h p hp]
  unfold orderOf
  rw [List.filter_congr fun p hp => e p hp, List.filter_congr (p := fun p => !cyc adj p) (q := fun p => !c p) fun p hp => by rw [e p hp]]
end Go.Proofs.Ytkacocaekffdgaa
