/- Unions do not mind order, nor turns; records do not mind the order of their fields. Plain Lean. -/
import Derived.Test.YtpddhbdjcgkjcaaGreatDoorTm
namespace Go.Ty

/-- a list of types that may be. -/
def Goods (l : List T) : Prop := ∀ a ∈ l, good a ∧ check a = 0
theorem goods_of {l : List T} (hd : ∀ a ∈ l, Dm a) (hc : ∀ a ∈ l, check a = 0) : Goods l := fun a ha => ⟨⟨(check_iff.1 (hc a ha)).1, hd a ha (check_iff.1 (hc a ha)).1⟩, hc a ha⟩

def Tells (l : List T) : Prop := ∀ x ∈ flatT l, ∀ y ∈ flatT l, write x = write y → x = y
theorem good_args {t x : T} (h : good t) (hx : x ∈ t.args) : good x := by
  cases t with
  | nil => cases hx
  | mk => exact (good_parts h).1 x hx
theorem flat_good {l : List T} (h : ∀ a ∈ l, good a) : ∀ x ∈ flatT l, good x := by
  intro x hx
  obtain ⟨a, ha, hu⟩ := List.mem_flatMap.1 hx
  split at hu
  · exact good_args (h a ha) hu
  · obtain rfl : x = a := by simpa using hu
    exact h x ha
theorem tells_good {l : List T} (h : ∀ a ∈ l, good a) : Tells l := fun x hx y hy e => write_inj (flat_good h x hx) (flat_good h y hy) e
theorem out_iff {l : List T} (h : Tells l) {u : T} : u ∈ outT l ↔ u ∈ flatT l := by
  obtain ⟨_, h2, h3⟩ := outT_spec l
  refine ⟨h2 u, fun hu => ?_⟩
  obtain ⟨v, hv, e⟩ := h3 u hu
  rwa [h v (h2 v hv) u hu e] at hv
theorem sortedT_nodup {l : List T} (h : SortedT l) : l.Nodup := List.Pairwise.imp (R := fun x y => write x < write y) (S := (· ≠ ·)) (fun {a b} hab e => by subst e; exact lt_irr hab) h
theorem sortedT_ext {l m : List T} (hl : SortedT l) (hm : SortedT m) (h : ∀ x, x ∈ l ↔ x ∈ m) : l = m :=
  List.Perm.eq_of_pairwise (le := fun x y => write x < write y) (fun _ _ _ _ k k' => (lt_irr (lt_trans' k k')).elim) hl hm ((List.perm_ext_iff_of_nodup (sortedT_nodup hl) (sortedT_nodup hm)).2 h)

theorem unionF_ext {l m : List T} (hl : Goods l) (hm : Goods m) (nl : l ≠ []) (nm : m ≠ []) (h1 : (∃ a ∈ l, a.kind = 1) ↔ ∃ a ∈ m, a.kind = 1) (hf : (∀ a ∈ l, a.kind ≠ 1) → ∀ x, x ∈ flatT l ↔ x ∈ flatT m) : unionF l = unionF m := by
  have cond : ∀ {l : List T}, Goods l → l ≠ [] → (l.isEmpty || !allOk l) = false := by
    intro l h hn
    rw [allOk_iff.2 fun a ha => (h a ha).2]
    cases l with
    | nil => exact (hn rfl).elim
    | cons => rfl
  unfold unionF
  rw [cond hl nl, cond hm nm]
  simp only [Bool.false_eq_true, if_false]
  by_cases h : ∃ a ∈ l, a.kind = 1
  · rw [if_pos (by simpa using h), if_pos (by simpa using h1.1 h)]
  · rw [if_neg (by simpa using h), if_neg (by simpa using mt h1.2 h)]
    have e : outT l = outT m := sortedT_ext (outT_spec l).1 (outT_spec m).1 fun x => by
      rw [out_iff (tells_good fun a ha => (hl a ha).1), out_iff (tells_good fun a ha => (hm a ha).1)]
      exact hf (fun a ha e => h ⟨a, ha, e⟩) x
    rw [e]

/-- what a union is made of is what was handed in. -/
theorem flat_union {l : List T} (hl : Goods l) (h : (unionF l).2 = 0) (h1 : ∀ a ∈ l, a.kind ≠ 1) : (unionF l).1.kind ≠ 1 ∧ ∀ x, x ∈ flatT [(unionF l).1] ↔ x ∈ flatT l := by
  have hg : ∀ a ∈ l, good a := fun a ha => (hl a ha).1
  have hm : ∀ a ∈ l, may a = true := fun a ha => (hg a ha).1
  have ht := tells_good hg
  obtain ⟨_, _, _, hx⟩ := unionF_ok h
  rcases hx with ⟨⟨a, ha, e⟩, _⟩ | ⟨_, ⟨t, ho, e⟩ | ⟨h2, e⟩⟩
  · exact (h1 a ha e).elim
  · have htm : t ∈ flatT l := (out_iff ht).1 (by rw [ho]; simp)
    obtain ⟨_, _, k9, k1⟩ := flat_mem htm hm
    rw [e]
    refine ⟨k1 h1, fun x => ?_⟩
    rw [← out_iff ht, ho]
    simp [flatT, k9]
  · rw [e]
    refine ⟨by show (9 : Int) ≠ 1; omega, fun x => ?_⟩
    rw [← out_iff ht]
    simp [flatT, T.kind, T.args]
theorem flat_append (l m : List T) : flatT (l ++ m) = flatT l ++ flatT m := List.flatMap_append

theorem union_goods {l : List T} (hl : Goods l) (h : (unionF l).2 = 0) : Goods [(unionF l).1] := by
  intro a ha
  obtain rfl : a = (unionF l).1 := by simpa using ha
  have hc := (unionF_ok h).1
  exact ⟨⟨(check_iff.1 hc).1, unionF_dotted fun a ha => (hl a ha).1.2⟩, hc⟩
/-- IN WHICH TURNS A UNION IS MADE DOES NOT MATTER. -/
theorem union_turns {l m : List T} (hl : Goods (l ++ m)) (hn : l ≠ []) (h : (unionF l).2 = 0) : unionF ((unionF l).1 :: m) = unionF (l ++ m) := by
  have gl : Goods l := fun a ha => hl a (by simp [ha])
  have gm : Goods m := fun a ha => hl a (by simp [ha])
  have gu := union_goods gl h
  have key : (unionF l).1.kind = 1 ↔ ∃ a ∈ l, a.kind = 1 := by
    constructor
    · intro e
      refine Classical.byContradiction fun hx => ?_
      exact (flat_union gl h fun a ha e => hx ⟨a, ha, e⟩).1 e
    · rintro ⟨a, ha, e⟩
      obtain ⟨_, _, _, hx⟩ := unionF_ok h
      rcases hx with ⟨_, e'⟩ | ⟨h1, _⟩
      · rw [e']; rfl
      · exact (h1 a ha e).elim
  refine unionF_ext (fun a ha => ?_) hl (by simp) (by simp [hn]) ?_ fun h1 x => ?_
  · rcases List.mem_cons.1 ha with rfl | ha
    · exact gu _ (by simp)
    · exact gm a ha
  · constructor
    · rintro ⟨a, ha, e⟩
      rcases List.mem_cons.1 ha with rfl | ha
      · obtain ⟨b, hb, e⟩ := key.1 e
        exact ⟨b, by simp [hb], e⟩
      · exact ⟨a, by simp [ha], e⟩
    · rintro ⟨a, ha, e⟩
      rcases List.mem_append.1 ha with ha | ha
      · exact ⟨_, List.mem_cons_self, key.2 ⟨a, ha, e⟩⟩
      · exact ⟨a, by simp [ha], e⟩
  · have hk : ∀ a ∈ l, a.kind ≠ 1 := fun a ha e => h1 _ List.mem_cons_self (key.2 ⟨a, ha, e⟩)
    have e1 : flatT ((unionF l).1 :: m) = flatT [(unionF l).1] ++ flatT m := flat_append [_] m
    rw [e1, flat_append, List.mem_append, List.mem_append, (flat_union gl h hk).2 x]

/-- THE ORDER OF A RECORD's FIELDS DOES NOT MATTER. -/
theorem recF_perm {ns ms : List ByteArray} {as bs : List T} (h1 : ns.length = as.length) (h2 : ms.length = bs.length) (hp : (ms.zip bs).Perm (ns.zip as)) : recF ms bs = recF ns as := by
  have pn : ms.Perm ns := by
    have := hp.map (·.1)
    rwa [(fst_zip h1).1, (fst_zip h2).1] at this
  have pa : bs.Perm as := by
    have := hp.map (·.2)
    rwa [(fst_zip h1).2, (fst_zip h2).2] at this
  have c : (ms.length = bs.length ∧ allOk bs = true ∧ (ms.all fun n => fieldL (txt n)) = true ∧ ms.Nodup) ↔ (ns.length = as.length ∧ allOk as = true ∧ (ns.all fun n => fieldL (txt n)) = true ∧ ns.Nodup) := by
    rw [allOk_iff, allOk_iff, List.all_eq_true, List.all_eq_true, pn.nodup_iff]
    constructor
    · rintro ⟨_, a, b, d⟩; exact ⟨h1, fun x hx => a x (pa.mem_iff.2 hx), fun x hx => b x (pn.mem_iff.2 hx), d⟩
    · rintro ⟨_, a, b, d⟩; exact ⟨h2, fun x hx => a x (pa.mem_iff.1 hx), fun x hx => b x (pn.mem_iff.1 hx), d⟩
  unfold recF
  by_cases h : ns.length = as.length ∧ allOk as = true ∧ (ns.all fun n => fieldL (txt n)) = true ∧ ns.Nodup
  · rw [if_pos h, if_pos (c.2 h)]
    obtain ⟨s1, s2⟩ := sortP_spec (l := ns.zip as) (by rw [(fst_zip h1).1]; exact h.2.2.2)
    have : sortP (ms.zip bs) = sortP (ns.zip as) := sortP_eq (s2.trans hp.symm) s1 (by rw [(fst_zip h2).1]; exact pn.nodup_iff.2 h.2.2.2)
    rw [this]
  · rw [if_neg h, if_neg (mt c.1 h)]
theorem same_refl {t : T} (h : size t ≤ 60) : same t t = true := by
  unfold same
  simp [h, (alike_iff t t).2 rfl]
end Go.Ty
