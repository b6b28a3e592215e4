/- small; PlanWhole: the walk. -/
import Derived.Test.YtkacocaekffdgaaP4
namespace Go.Proofs.Ytkacocaekffdgaa
open Go.SX

def smallN (a b : Nat) : Nat := min (min a b) 12
theorem smallN_eq (a b : Nat) : (if (12 : Int) < (if (b : Int) < (a : Int) then (b : Int) else (a : Int)) then (12 : Int) else (if (b : Int) < (a : Int) then (b : Int) else (a : Int))) = ((smallN a b : Nat) : Int) := by
  unfold smallN
  split <;> split <;> omega
theorem min12 (n : Nat) : (if (12 : Int) < (n : Int) then (12 : Int) else (n : Int)) = ((min n 12 : Nat) : Int) := by
  split <;> omega
theorem min20 (n : Nat) : (if (20 : Int) < (n : Int) then (20 : Int) else (n : Int)) = ((min n 20 : Nat) : Int) := by
  split <;> omega
/-- at most n lists, the first twelve of each. -/
def cut12 (n : Nat) (imps : List (List ByteArray)) : List (List ByteArray) := (imps.take n).map fun l => l.take 12

theorem small_spec {w : World} {x0 x1 : Option Addr} {ps : List ByteArray} {imps : List (List ByteArray)} (hI : ImpsIn w x1 imps) (c0 c1 : Nat) (h0 : ps.length ≤ c0) :
    callC Try.prog 25 #[.slice x0 ps.length c0, .slice x1 imps.length c1] w fun v w' => Upd No w w' ∧ ∃ p q c, v = .tuple #[.slice x0 (smallN ps.length imps.length) c0, .slice p q c] ∧ q = (cut12 (smallN ps.length imps.length) imps).length ∧ q ≤ c ∧ ImpsRow w w' (.slice p q c) (cut12 (smallN ps.length imps.length) imps) := by
  refine psmall _ _ _ _ _ _ _ _ ?_
  rw [smallN_eq]
  have hn1 : smallN ps.length imps.length ≤ ps.length ∧ smallN ps.length imps.length ≤ imps.length ∧ smallN ps.length imps.length ≤ 12 := by unfold smallN; omega
  generalize smallN ps.length imps.length = N at hn1
  have hcl : (cut12 N imps).length = N := by simp [cut12]; omega
  refine ⟨fun p q c n w' => ∃ i : Nat, n = i ∧ i ≤ N ∧ Upd No w w' ∧ i = q ∧ q ≤ c ∧ ImpsRow w w' (.slice p q c) ((cut12 N imps).take i) ∧ ∀ k, InRow (.slice p q c) k → w.heap.size ≤ k, fun _ _ _ n _ => (N - n).toNat,
    ⟨0, rfl, Nat.zero_le _, Upd.refl _ _, rfl, Nat.le_refl _, ⟨[], RowAt.nil _ _ _, by simp, by simp⟩, fun k hk => (by cases hk)⟩, ?_⟩
  rintro p q c n w12 ⟨i, rfl, hi, u12, rfl, hqc, hrow, hge⟩ d
  refine brC_intro (fun hlt => ?_) fun hge2 => ?_
  · have hlt : i < N := by have := of_decide_eq_true hlt; omega
    have hltI : i < imps.length := by omega
    refine ⟨fun p q c w' => Upd No w w' ∧ q = i + 1 ∧ q ≤ c ∧ ImpsRow w w' (.slice p q c) ((cut12 N imps).take (i + 1)) ∧ ∀ k, InRow (.slice p q c) k → w.heap.size ≤ k, ?_, ?_⟩
    · rintro p q c w21 ⟨u, rfl, hc, hr, hg⟩ d
      have hw : IntKind.wrap .i64 ((i : Int) + 1) = ((i + 1 : Nat) : Int) := Go.SX.wrap_small (by omega) (by omega)
      rw [hw]
      exact ⟨⟨i + 1, rfl, hlt, u, rfl, hc, hr, hg⟩, by dsimp only; omega⟩
    · refine drawC_mk fun w23 u23 s23 => ?_
      have u023 : Upd No w w23 := u12.trans u23 fun _ _ => id
      obtain ⟨a, p', c', rfl, hc, hs, hlc⟩ := hI i hltI
      have hc23 := cell_keep hc u023
      refine ⟨fun w' => Upd No w w', by omega, by omega, ptrC_some ⟨_, _, _, by rw [Int.toNat_natCast]; exact hc23, fun w' u => lds_slice22 (by rw [Int.toNat_natCast]; exact cell_keep hc u), by omega, by omega, ptrC_some ⟨_, _, _, by rw [Int.toNat_natCast]; exact hc23, fun w' u => lds_slice22 (by rw [Int.toNat_natCast]; exact cell_keep hc u), ?_⟩⟩⟩
      rw [min12]
      refine ⟨by omega, by omega, by omega, ?_, trivial⟩
      rw [subP_zero, Int.toNat_natCast, Nat.sub_zero, Nat.sub_zero]
      refine newC_mk fun w36 h36 u36 s36 => ⟨u023.trans u36 fun _ _ => id, ?_, trivial⟩
      obtain ⟨hds, hr, hlen, hj⟩ := hrow
      have hli : ((cut12 N imps).take i).length = i := by rw [List.length_take]; omega
      rw [hli] at hlen
      have hr36 := (hr.upd u23 fun _ _ => id).upd u36 fun _ _ => id
      obtain ⟨io, hi1, hi2, hi3, hi4⟩ := info_get (P := Try.prog) (e := 22) (s := 1) (b := 24) (z := .slice none 0 0) (by kernel_rfl)
      refine append_row (P := Try.prog) (e := 22) (news := [.slice p' (min imps[i].length 12) c']) Try.underlying23 hi1 hi2 hi3 hi4 rfl hr36 (n := i) (by rw [hlen, Nat.mul_one]) _ 1 1 (by omega) (by omega) rfl ?_ (by simp [Value.oneCell']) (by simp only [maxLen]; omega) (by omega)
        fun v' w38 r38 u38 f38 => ?_
      · intro j u hj
        match j, hj with
        | 0, hj => cases hj; exact h36.cell rfl
      have u38 : Upd (InRow (.slice p i c)) w36 w38 := u38
      have u038 : Upd No w w38 := (u023.trans u36 fun _ _ => id).trans u38 fun k hk e => by have := hge k e; omega
      have hz := u023.size
      obtain ⟨pn, nn, cn, rfl, hnl, hcc, _⟩ := r38.shape
      have hnn : nn = i + 1 := by
        rw [List.length_append, hlen, Nat.mul_one, List.length_singleton] at hnl
        omega
      subst hnn
      have htk : (cut12 N imps).take (i + 1) = (cut12 N imps).take i ++ [imps[i].take 12] := by
        rw [List.take_succ_eq_append_getElem (by omega)]
        simp [cut12]
      refine ⟨_, _, _, rfl, u038, u038, rfl, hcc, ⟨_, r38, by rw [htk]; simp [hlen]; omega, fun j hj' => ?_⟩, fun k hk => ?_⟩
      · have hcj : ∀ (M : List (List ByteArray)) (e : M = (cut12 N imps).take i ++ [imps[i].take 12]) (h : j < M.length), ∃ p c, (hds ++ [.slice p' (min imps[i].length 12) c'])[j]? = some (.slice p M[j].length c) ∧ StrsAt w p M[j] ∧ M[j].length ≤ 1000000 := by
          intro M e h
          subst e
          by_cases hji : j < i
          · obtain ⟨p1, c1, e1, e2, e3⟩ := hj j (by omega)
            have hg : ((cut12 N imps).take i ++ [imps[i].take 12])[j] = ((cut12 N imps).take i)[j]'(by omega) := List.getElem_append_left (by omega)
            refine ⟨p1, c1, ?_, ?_, ?_⟩
            · rw [List.getElem?_append_left (by omega), e1, hg]
            · rw [hg]; exact e2
            · rw [hg]; exact e3
          · have hji : j = i := by simp [hli] at h; omega
            subst hji
            have hg : ((cut12 N imps).take j ++ [imps[j].take 12])[j] = imps[j].take 12 := by
              rw [List.getElem_append_right (by omega)]; simp
            refine ⟨p', c', ?_, ?_, ?_⟩
            · rw [List.getElem?_append_right (by omega), hg, List.length_take, Nat.min_comm]; simp [hlen]
            · rw [hg]; exact strsAt_take hs 12
            · rw [hg, List.length_take]; omega
        exact hcj _ htk hj'
      · rcases f38 k hk with h | h
        · exact hge k h
        · omega
  · have : i = N := by have := of_decide_eq_false hge2; omega
    subst this
    have e1 : (cut12 i imps).take i = cut12 i imps := List.take_of_length_le (by omega)
    rw [e1] at hrow
    refine ⟨by omega, by omega, by omega, ?_⟩
    rw [subP_zero, Int.toNat_natCast, Nat.sub_zero, Nat.sub_zero]
    exact ⟨u12, _, _, _, rfl, hcl.symm, hqc, hrow⟩

/-! ### what a play of a plan holds -/
/-- Pd was passed, Cg: it changed. -/
structure Play (O : List ByteArray) (adj : ByteArray → List ByteArray) (first : List ByteArray) (Wt Ps : Nat → Bool) (Pd : List ByteArray) (Cg : List Bool) : Prop where
  len : Cg.length = Pd.length
  nodup : Pd.Nodup
  sub : ∀ x ∈ Pd, x ∈ O
  ps : ∀ j, (h : j < O.length) → Ps j = decide (O[j] ∈ Pd)
  excl : ∀ j, j < O.length → Wt j = true → Ps j = false
  must : ∀ j, (h : j < O.length) → ((Wt j = true ∨ Ps j = true) ↔ (O[j] ∈ first ∨ ∃ (t : Nat) (y : ByteArray), Cg[t]? = some true ∧ Pd[t]? = some y ∧ y ∈ adj O[j]))
  up : (∀ p ∈ O, ¬ Reach adj p p) → (∀ j, j < O.length → Wt j = true → ∀ x ∈ Pd, num O x < j) ∧ Pd.Pairwise fun x y => num O x < num O y

theorem play_zero (O : List ByteArray) (adj : ByteArray → List ByteArray) (first : List ByteArray) : Play O adj first (firstW O first) (fun _ => false) [] [] := by
  refine ⟨rfl, by simp, by simp, fun j h => by simp, fun j _ _ => rfl, fun j h => ?_, fun _ => ⟨by simp, by simp⟩⟩
  unfold firstW
  rw [List.getElem?_eq_getElem h]
  simp

theorem play_step {O : List ByteArray} {adj : ByteArray → List ByteArray} {first : List ByteArray} {Wt Ps : Nat → Bool} {Pd : List ByteArray} {Cg : List Bool} (h : Play O adj first Wt Ps Pd Cg) (hN : O.Nodup) {i : Nat} (hi : i < O.length) (hW : Wt i = true) (hm : ∀ j, j < i → Wt j = false)
    (hord : (∀ p ∈ O, ¬ Reach adj p p) → ∀ j, (h : j < O.length) → O[i] ∈ adj O[j] → i < j) (b : Bool) :
    Play O adj first (fun j => (Wt j && !decide (j = i)) || (actB O (fun j => Ps j || decide (j = i)) O[i] b && impB O adj O[i] j && !(Ps j || decide (j = i)))) (fun j => Ps j || decide (j = i)) (Pd ++ [O[i]]) (Cg ++ [b]) := by
  have hnum : num O O[i] = i := num_at hN hi
  have hact : actB O (fun j => Ps j || decide (j = i)) O[i] b = b := by
    unfold actB
    rw [hnum]
    have : O[i] ∈ O := List.getElem_mem hi
    simp [this]
  have himp : ∀ j, (hj : j < O.length) → impB O adj O[i] j = decide (O[i] ∈ adj O[j]) := fun j hj => by unfold impB; rw [List.getElem?_eq_getElem hj]
  have hnin : O[i] ∉ Pd := fun hp => by
    have := h.excl i hi hW
    rw [h.ps i hi] at this
    simp [hp] at this
  have hps' : ∀ j, (hj : j < O.length) → (Ps j || decide (j = i)) = decide (O[j] ∈ Pd ++ [O[i]]) := fun j hj => by
    rw [h.ps j hj, Bool.eq_iff_iff, Bool.or_eq_true, decide_eq_true_eq, decide_eq_true_eq, decide_eq_true_eq, List.mem_append, List.mem_singleton]
    exact ⟨fun x => x.elim .inl fun e => .inr (by subst e; rfl), fun x => x.elim .inl fun e => .inr ((List.getElem_inj hN).1 e)⟩
  refine ⟨by simp [h.len], List.nodup_append.2 ⟨h.nodup, by simp, fun x hx y hy e => hnin ((e.trans (List.mem_singleton.1 hy)) ▸ hx)⟩, fun x hx => ?_, hps', fun j hj hw => ?_, fun j hj => ?_, fun hac => ⟨fun j hj hw x hx => ?_, ?_⟩⟩
  · rcases List.mem_append.1 hx with hx | hx
    · exact h.sub x hx
    · rw [List.mem_singleton.1 hx]; exact List.getElem_mem hi
  · rw [Bool.or_eq_true, Bool.and_eq_true, Bool.and_eq_true] at hw
    rcases hw with ⟨h1, h2⟩ | ⟨_, h2⟩
    · have h2 : ¬ j = i := by simpa using h2
      rw [h.excl j hj h1]; simp [h2]
    · simpa using h2
  · rw [hact, himp j hj]
    have h0 := h.must j hj
    have hr : (∃ (t : Nat) (y : ByteArray), (Cg ++ [b])[t]? = some true ∧ (Pd ++ [O[i]])[t]? = some y ∧ y ∈ adj O[j]) ↔ (∃ (t : Nat) (y : ByteArray), Cg[t]? = some true ∧ Pd[t]? = some y ∧ y ∈ adj O[j]) ∨ (b = true ∧ O[i] ∈ adj O[j]) := by
      constructor
      · rintro ⟨t, y, h1, h2, h3⟩
        by_cases ht : t < Pd.length
        · rw [List.getElem?_append_left (by rw [h.len]; exact ht)] at h1
          rw [List.getElem?_append_left ht] at h2
          exact .inl ⟨t, y, h1, h2, h3⟩
        · have hlt := (List.getElem?_eq_some_iff.1 h2).1
          have : t = Pd.length := by simp at hlt; omega
          subst this
          rw [List.getElem?_append_right (by rw [h.len]; exact Nat.le_refl _)] at h1
          rw [List.getElem?_append_right (Nat.le_refl _)] at h2
          simp [h.len] at h1
          simp at h2
          exact .inr ⟨h1, h2 ▸ h3⟩
      · rintro (⟨t, y, h1, h2, h3⟩ | ⟨h1, h2⟩)
        · have hlt := (List.getElem?_eq_some_iff.1 h2).1
          exact ⟨t, y, by rw [List.getElem?_append_left (by rw [h.len]; exact hlt)]; exact h1, by rw [List.getElem?_append_left hlt]; exact h2, h3⟩
        · refine ⟨Pd.length, O[i], ?_, ?_, h2⟩
          · rw [List.getElem?_append_right (by rw [h.len]; exact Nat.le_refl _)]; simp [h.len, h1]
          · rw [List.getElem?_append_right (Nat.le_refl _)]; simp
    rw [hr, ← or_assoc, ← h0]
    by_cases e : j = i
    · subst e
      simp [hW]
    · cases hWj : Wt j <;> cases hPj : Ps j <;> simp [e]
  · have hup := (h.up hac).1
    rw [Bool.or_eq_true, Bool.and_eq_true] at hw
    rcases List.mem_append.1 hx with hx | hx
    · rcases hw with ⟨h1, _⟩ | h2
      · exact hup j hj h1 x hx
      · rw [hact, himp j hj] at h2
        have h2 : O[i] ∈ adj O[j] := by
          rw [Bool.and_eq_true, Bool.and_eq_true] at h2
          simpa using h2.1.2
        exact Nat.lt_trans (hup i hi hW x hx) (hord hac j hj h2)
    · rw [List.mem_singleton.1 hx, hnum]
      rcases hw with ⟨h1, h2⟩ | h2
      · have h2 : ¬ j = i := by simpa using h2
        rcases Nat.lt_or_ge j i with h3 | h3
        · rw [hm j h3] at h1; cases h1
        · omega
      · rw [hact, himp j hj] at h2
        have h2 : O[i] ∈ adj O[j] := by
          rw [Bool.and_eq_true, Bool.and_eq_true] at h2
          simpa using h2.1.2
        exact hord hac j hj h2
  · have hup := h.up hac
    refine List.pairwise_append.2 ⟨hup.2, by simp, fun x hx y hy => ?_⟩
    rw [List.mem_singleton.1 hy, hnum]
    exact hup.1 i hi hW x hx

theorem order_idx {ps : List ByteArray} {adj : ByteArray → List ByteArray} (hn : ps.Nodup) (hsub : ∀ p, ∀ q ∈ adj p, q ∈ ps) (hac : ∀ p ∈ orderOf ps adj, ¬ Reach adj p p) {i j : Nat} (hi : i < (orderOf ps adj).length) (hj : j < (orderOf ps adj).length) (h : (orderOf ps adj)[i] ∈ adj (orderOf ps adj)[j]) : i < j := by
  have hp := order_perm adj hn
  have hON := hp.nodup_iff.2 hn
  have hjm : (orderOf ps adj)[j] ∈ orderOf ps adj := List.getElem_mem hj
  have him : (orderOf ps adj)[i] ∈ orderOf ps adj := List.getElem_mem hi
  have := order_before hn (hp.mem_iff.1 hjm) (hac _ hjm) (hp.mem_iff.1 him) h
  rw [(num_spec him).1, (num_spec hjm).1, num_at hON hi, num_at hON hj] at this
  omega
end Go.Proofs.Ytkacocaekffdgaa
