/- Records, functions and unions: what is made may be. Plain Lean. -/
import Derived.Test.YtpddhbdjcgkjcaaGreatDoorTz
namespace Go.Ty

theorem size_args {a x : T} (h : x ∈ a.args) : size x < size a := by
  cases a with
  | nil => cases h
  | mk => exact size_arg h
theorem size_ret' {a : T} (h : a.kind = 8) : size a.ret < size a := by
  cases a with
  | nil => simp [T.kind] at h
  | mk => exact size_ret

theorem may_args {a : T} (h : may a = true) : (∀ x ∈ a.args, may x = true) ∧ (a.kind = 8 → may a.ret = true) ∧ size a = 1 + sizes a.args + size a.ret := by
  cases a with
  | nil => cases h
  | mk k nm ns as r =>
    have hs := shape h
    unfold may at h
    simp only [Bool.and_eq_true, mays_all, List.all_eq_true] at h
    refine ⟨h.1.2, fun e => ?_, by rw [size]; rfl⟩
    have e : k = 8 := e
    have := h.2
    rw [if_neg (by omega), if_neg (by omega), if_pos e] at this
    exact this

theorem lt_trans' {a b c : List UInt8} (h : a < b) (k : b < c) : a < c := List.lt_trans h k
theorem lt_irr {a : List UInt8} : ¬ a < a := List.lt_irrefl a
theorem lt_of_ne {a b : List UInt8} (h : ¬ a < b) (hn : a ≠ b) : b < a := by
  refine Classical.byContradiction fun k => hn ?_
  exact List.le_antisymm (List.not_lt.1 k) (List.not_lt.1 h)
theorem rising_iff : ∀ {l : List (List UInt8)}, rising l = true ↔ l.Pairwise (· < ·)
  | [] => by simp [rising]
  | [a] => by simp [rising]
  | a :: b :: l => by
    rw [rising, Bool.and_eq_true, decide_eq_true_eq, rising_iff]
    constructor
    · rintro ⟨h1, h2⟩
      refine List.pairwise_cons.2 ⟨fun x hx => ?_, h2⟩
      rcases List.mem_cons.1 hx with rfl | hx
      · exact h1
      · exact lt_trans' h1 ((List.pairwise_cons.1 h2).1 x hx)
    · intro h
      obtain ⟨h1, h2⟩ := List.pairwise_cons.1 h
      exact ⟨h1 b (by simp), h2⟩

/-! ### pairs by name -/
abbrev SortedP (l : List (ByteArray × T)) : Prop := l.Pairwise fun x y => txt x.1 < txt y.1
theorem insP_perm (n : ByteArray) (a : T) : ∀ l, (insP n a l).Perm ((n, a) :: l)
  | [] => List.Perm.refl _
  | (m, b) :: l => by
    unfold insP
    split
    · exact ((insP_perm n a l).cons _).trans (List.Perm.swap _ _ _)
    · exact List.Perm.refl _
theorem insP_sorted {n : ByteArray} {a : T} : ∀ {l}, SortedP l → (∀ x ∈ l, x.1 ≠ n) → SortedP (insP n a l)
  | [], _, _ => by simp [insP]
  | (m, b) :: l, h, hn => by
    obtain ⟨h1, h2⟩ := List.pairwise_cons.1 h
    unfold insP
    split
    · rename_i hlt
      refine List.pairwise_cons.2 ⟨fun x hx => ?_, insP_sorted h2 fun x hx => hn x (by simp [hx])⟩
      rcases List.mem_cons.1 ((insP_perm n a l).mem_iff.1 hx) with rfl | hx
      · exact hlt
      · exact h1 x hx
    · rename_i hlt
      have hnm : txt n < txt m := lt_of_ne hlt fun e => hn (m, b) (by simp) (txt_inj e)
      refine List.pairwise_cons.2 ⟨fun x hx => ?_, h⟩
      rcases List.mem_cons.1 hx with rfl | hx
      · exact hnm
      · exact lt_trans' hnm (h1 x hx)
theorem foldP : ∀ (l m : List (ByteArray × T)), SortedP m → ((m ++ l).map (·.1)).Nodup → SortedP (l.foldl (fun m x => insP x.1 x.2 m) m) ∧ (l.foldl (fun m x => insP x.1 x.2 m) m).Perm (m ++ l)
  | [], m, h, _ => ⟨h, by simp⟩
  | x :: l, m, h, hn => by
    have hp : (insP x.1 x.2 m ++ l).Perm (m ++ x :: l) := ((insP_perm x.1 x.2 m).append_right l).trans (by simpa using List.perm_middle.symm)
    have hx : ∀ y ∈ m, y.1 ≠ x.1 := by
      intro y hy e
      rw [List.map_append, List.nodup_append] at hn
      exact hn.2.2 y.1 (List.mem_map_of_mem hy) x.1 (List.mem_map_of_mem (by simp)) e
    obtain ⟨h1, h2⟩ := foldP l (insP x.1 x.2 m) (insP_sorted h hx) ((hp.map _).nodup_iff.2 hn)
    exact ⟨h1, h2.trans hp⟩
theorem sortP_spec {l : List (ByteArray × T)} (hn : (l.map (·.1)).Nodup) : SortedP (sortP l) ∧ (sortP l).Perm l := by
  have := foldP l [] List.Pairwise.nil (by simpa using hn)
  exact ⟨this.1, this.2.trans (by simp)⟩
theorem sortP_eq {l m : List (ByteArray × T)} (hp : m.Perm l) (hs : SortedP m) (hn : (l.map (·.1)).Nodup) : sortP l = m := by
  obtain ⟨h1, h2⟩ := sortP_spec hn
  refine List.Perm.eq_of_pairwise (le := fun x y => txt x.1 < txt y.1) (fun a b _ _ k k' => (lt_irr (lt_trans' k k')).elim) h1 hs (h2.trans hp.symm)
theorem fst_zip {α β : Type} : ∀ {a : List α} {b : List β}, a.length = b.length → (a.zip b).map (·.1) = a ∧ (a.zip b).map (·.2) = b
  | [], [], _ => ⟨rfl, rfl⟩
  | x :: a, y :: b, h => by
    obtain ⟨h1, h2⟩ := fst_zip (a := a) (b := b) (by simpa using h)
    exact ⟨by simp [h1], by simp [h2]⟩
theorem zip_map {α β : Type} (l : List (α × β)) : (l.map (·.1)).zip (l.map (·.2)) = l := by
  induction l with
  | nil => rfl
  | cons x l ih => simp [ih]

theorem check_iff {t : T} : check t = 0 ↔ may t = true ∧ size t ≤ 60 := by
  unfold check
  cases t with
  | nil => simp [T.isNil, may]
  | mk k nm ns as r =>
    simp only [T.isNil, Bool.false_eq_true, if_false]
    split
    · rename_i h; constructor
      · intro e; cases e
      · intro e; omega
    · rename_i h
      cases hm : may (.mk k nm ns as r) <;> simp <;> omega
theorem fits_ok {t : T} (h : may t = true) : (fits t).2 = 0 → (fits t).1 = t ∧ check t = 0 := by
  unfold fits
  split
  · intro e; cases e
  · intro _; exact ⟨rfl, check_iff.2 ⟨h, by omega⟩⟩
theorem allOk_iff {l : List T} : allOk l = true ↔ ∀ a ∈ l, check a = 0 := by simp [allOk]

theorem rec_may {ns : List ByteArray} {as : List T} (hl : ns.length = as.length) (ha : ∀ a ∈ as, may a = true) (hf : (ns.all fun n => fieldL (txt n)) = true) (hr : (ns.map txt).Pairwise (· < ·)) : may (.mk 7 .empty ns as .nil) = true := by
  rw [may, mays_all, if_neg (by omega), if_pos rfl]
  simp only [Bool.and_eq_true, List.all_eq_true]
  simp only [List.all_eq_true] at hf
  refine ⟨⟨⟨⟨⟨⟨⟨by decide, by decide⟩, by simp⟩, by simp⟩, by simp⟩, by simp [T.isNil]⟩, ha⟩, ⟨by simp [hl], hf⟩, rising_iff.2 hr⟩
theorem fun_may {as : List T} {r : T} (ha : ∀ a ∈ as, may a = true) (hr : may r = true) : may (.mk 8 .empty [] as r) = true := by
  have hn : r.isNil = false := by
    cases r with
    | nil => cases hr
    | mk => rfl
  rw [may, mays_all, if_neg (by omega), if_neg (by omega), if_pos rfl]
  simp only [Bool.and_eq_true, List.all_eq_true]
  exact ⟨⟨⟨⟨⟨⟨⟨by decide, by decide⟩, by simp⟩, by simp⟩, by simp⟩, by simp [hn]⟩, ha⟩, hr⟩
theorem union_may {as : List T} (hl : 2 ≤ as.length) (ha : ∀ a ∈ as, may a = true) (hk : ∀ a ∈ as, a.kind ≠ 9 ∧ a.kind ≠ 1) (hr : (as.map write).Pairwise (· < ·)) : may (.mk 9 .empty [] as .nil) = true := by
  rw [may, mays_all, writes_map, if_neg (by omega), if_neg (by omega), if_neg (by omega), if_pos rfl]
  simp only [Bool.and_eq_true, List.all_eq_true, decide_eq_true_eq, Bool.not_eq_true', beq_eq_false_iff_ne]
  exact ⟨⟨⟨⟨⟨⟨⟨by decide, by decide⟩, by simp⟩, by simp⟩, by simp⟩, by simp [T.isNil]⟩, ha⟩, ⟨hl, hk⟩, rising_iff.2 hr⟩

theorem names_sorted {ns : List ByteArray} {as : List T} (hl : ns.length = as.length) (hn : ns.Nodup) : (((sortP (ns.zip as)).map (·.1)).map txt).Pairwise (· < ·) ∧ (sortP (ns.zip as)).Perm (ns.zip as) := by
  obtain ⟨h1, h2⟩ := sortP_spec (l := ns.zip as) (by rw [(fst_zip hl).1]; exact hn)
  refine ⟨?_, h2⟩
  rw [List.map_map, List.pairwise_map]
  exact h1
theorem recF_ok {ns : List ByteArray} {as : List T} (h : (recF ns as).2 = 0) : check (recF ns as).1 = 0 ∧ ns.length = as.length ∧ (∀ a ∈ as, check a = 0) ∧ ns.Nodup ∧ (∀ n ∈ ns, fieldL (txt n) = true) ∧ (recF ns as).1 = .mk 7 .empty ((sortP (ns.zip as)).map (·.1)) ((sortP (ns.zip as)).map (·.2)) .nil := by
  unfold recF at h ⊢
  split at h
  · rename_i hc
    rw [if_pos hc]
    obtain ⟨hl, ha, hf, hn⟩ := hc
    obtain ⟨h1, h2⟩ := names_sorted hl hn
    rw [allOk_iff] at ha
    have hm : may (.mk 7 .empty ((sortP (ns.zip as)).map (·.1)) ((sortP (ns.zip as)).map (·.2)) .nil) = true := by
      refine rec_may (by simp) (fun a hx => ?_) ?_ h1
      · obtain ⟨x, hy, rfl⟩ := List.mem_map.1 hx
        exact (check_iff.1 (ha _ (List.of_mem_zip (h2.mem_iff.1 hy)).2)).1
      · simp only [List.all_eq_true] at hf ⊢
        intro n hx
        obtain ⟨x, hy, rfl⟩ := List.mem_map.1 hx
        exact hf _ (List.of_mem_zip (h2.mem_iff.1 hy)).1
    obtain ⟨e1, e2⟩ := fits_ok hm h
    exact ⟨by rw [e1]; exact e2, hl, ha, hn, by simpa using hf, e1⟩
  · cases h
theorem funF_ok {as : List T} {r : T} (h : (funF as r).2 = 0) : check (funF as r).1 = 0 ∧ (∀ a ∈ as, check a = 0) ∧ check r = 0 ∧ (funF as r).1 = .mk 8 .empty [] as r := by
  unfold funF at h ⊢
  split at h
  · rename_i hc
    rw [if_pos hc]
    simp only [Bool.and_eq_true, beq_iff_eq, allOk_iff] at hc
    obtain ⟨e1, e2⟩ := fits_ok (fun_may (fun a ha => (check_iff.1 (hc.1 a ha)).1) (check_iff.1 hc.2).1) h
    exact ⟨by rw [e1]; exact e2, hc.1, hc.2, e1⟩
  · cases h

/-! ### by text -/
abbrev SortedT (l : List T) : Prop := l.Pairwise fun x y => write x < write y
theorem insT_sub (t : T) : ∀ l, (∀ u ∈ insT t l, u = t ∨ u ∈ l) ∧ (∀ u ∈ l, u ∈ insT t l) ∧ (∃ u ∈ insT t l, write u = write t)
  | [] => by simp [insT]
  | v :: l => by
    obtain ⟨h1, h2, w, h3, h4⟩ := insT_sub t l
    unfold insT
    split
    · refine ⟨fun u hu => ?_, fun u hu => ?_, w, by simp [h3], h4⟩
      · rcases List.mem_cons.1 hu with rfl | hu
        · simp
        · rcases h1 u hu with h | h <;> simp [h]
      · rcases List.mem_cons.1 hu with rfl | hu
        · simp
        · simp [h2 u hu]
    · split
      · rename_i he
        exact ⟨fun u hu => .inr hu, fun u hu => hu, v, by simp, he⟩
      · exact ⟨fun u hu => by simpa using hu, fun u hu => by simp at hu ⊢; exact .inr hu, t, by simp, rfl⟩
theorem insT_sorted {t : T} : ∀ {l}, SortedT l → SortedT (insT t l)
  | [], _ => by simp [insT]
  | v :: l, h => by
    obtain ⟨h1, h2⟩ := List.pairwise_cons.1 h
    unfold insT
    split
    · rename_i hlt
      refine List.pairwise_cons.2 ⟨fun x hx => ?_, insT_sorted h2⟩
      rcases (insT_sub t l).1 x hx with rfl | hx
      · exact hlt
      · exact h1 x hx
    · split
      · exact h
      · rename_i hlt hne
        have hlt := lt_of_ne hlt hne
        refine List.pairwise_cons.2 ⟨fun x hx => ?_, h⟩
        rcases List.mem_cons.1 hx with rfl | hx
        · exact hlt
        · exact lt_trans' hlt (h1 x hx)
theorem foldT : ∀ (l m : List T), SortedT m → SortedT (l.foldl (fun m t => insT t m) m) ∧ (∀ u ∈ l.foldl (fun m t => insT t m) m, u ∈ m ∨ u ∈ l) ∧ (∀ u ∈ m, u ∈ l.foldl (fun m t => insT t m) m) ∧ (∀ u ∈ l, ∃ v ∈ l.foldl (fun m t => insT t m) m, write v = write u)
  | [], m, h => ⟨h, fun u hu => .inl hu, fun u hu => hu, fun u hu => by cases hu⟩
  | t :: l, m, h => by
    obtain ⟨h1, h2, h3, h4⟩ := foldT l (insT t m) (insT_sorted h)
    obtain ⟨g1, g2, w, g3, g4⟩ := insT_sub t m
    refine ⟨h1, fun u hu => ?_, fun u hu => h3 u (g2 u hu), fun u hu => ?_⟩
    · rcases h2 u hu with hu | hu
      · rcases g1 u hu with rfl | hu
        · simp
        · exact .inl hu
      · exact .inr (by simp [hu])
    · rcases List.mem_cons.1 hu with rfl | hu
      · exact ⟨w, h3 w g3, g4⟩
      · exact h4 u hu
theorem outT_spec (l : List T) : SortedT (outT l) ∧ (∀ u ∈ outT l, u ∈ flatT l) ∧ (∀ u ∈ flatT l, ∃ v ∈ outT l, write v = write u) := by
  obtain ⟨h1, h2, _, h4⟩ := foldT (flatT l) [] List.Pairwise.nil
  exact ⟨h1, fun u hu => (h2 u hu).resolve_left (by simp), h4⟩
theorem flat_mem {l : List T} {u : T} (h : u ∈ flatT l) (hl : ∀ a ∈ l, may a = true) : (∃ a ∈ l, u = a ∧ a.kind ≠ 9 ∨ ∃ a ∈ l, a.kind = 9 ∧ u ∈ a.args) ∧ may u = true ∧ u.kind ≠ 9 ∧ ((∀ a ∈ l, a.kind ≠ 1) → u.kind ≠ 1) := by
  obtain ⟨a, ha, hu⟩ := List.mem_flatMap.1 h
  split at hu
  · rename_i h9
    have hs := shape (hl a ha)
    obtain ⟨hA, _⟩ := may_args (hl a ha)
    cases hs with
    | basic => simp only [T.kind] at h9; omega
    | name => simp [T.kind] at h9
    | record => simp [T.kind] at h9
    | fn => simp [T.kind] at h9
    | union as _ hk => exact ⟨⟨_, ha, .inr ⟨_, ha, rfl, hu⟩⟩, hA u hu, (hk u hu).1, fun _ => (hk u hu).2⟩
  · rename_i h9
    obtain rfl : u = a := by simpa using hu
    exact ⟨⟨u, ha, .inl ⟨rfl, h9⟩⟩, hl u ha, h9, fun h => h u ha⟩
theorem flat_ne {l : List T} (h : l ≠ []) (hl : ∀ a ∈ l, may a = true) : ∃ u, u ∈ flatT l := by
  cases l with
  | nil => exact (h rfl).elim
  | cons a l =>
    by_cases h9 : a.kind = 9
    · have hs := shape (hl a (by simp))
      cases hs with
      | basic => simp only [T.kind] at h9; omega
      | name => simp [T.kind] at h9
      | record => simp [T.kind] at h9
      | fn => simp [T.kind] at h9
      | union as hl2 =>
        match as, hl2 with
        | x :: y :: z, _ => exact ⟨x, List.mem_flatMap.2 ⟨_, List.mem_cons_self, by rw [if_pos h9]; exact List.mem_cons_self⟩⟩
    · exact ⟨a, List.mem_flatMap.2 ⟨a, by simp, by rw [if_neg h9]; simp⟩⟩
theorem unionF_ok {l : List T} (h : (unionF l).2 = 0) : check (unionF l).1 = 0 ∧ l ≠ [] ∧ (∀ a ∈ l, check a = 0) ∧
    (((∃ a ∈ l, a.kind = 1) ∧ (unionF l).1 = .mk 1 .empty [] [] .nil) ∨ ((∀ a ∈ l, a.kind ≠ 1) ∧ ((∃ t, outT l = [t] ∧ (unionF l).1 = t) ∨ (2 ≤ (outT l).length ∧ (unionF l).1 = .mk 9 .empty [] (outT l) .nil)))) := by
  unfold unionF at h ⊢
  split at h
  · cases h
  · rename_i hc
    rw [if_neg hc]
    simp only [Bool.or_eq_true, List.isEmpty_iff, Bool.not_eq_true', not_or, Bool.not_eq_false, allOk_iff] at hc
    obtain ⟨hne, hall⟩ := hc
    have hm : ∀ a ∈ l, may a = true := fun a ha => (check_iff.1 (hall a ha)).1
    split at h
    · rename_i h1
      rw [if_pos h1]
      refine ⟨by decide, hne, hall, .inl ⟨by simpa using h1, rfl⟩⟩
    · rename_i h1
      rw [if_neg h1]
      have h1 : ∀ a ∈ l, a.kind ≠ 1 := by simpa using h1
      obtain ⟨o1, o2, o3⟩ := outT_spec l
      split at h
      · rename_i t e
        have ht := o2 t (by rw [e]; simp)
        obtain ⟨hx, _⟩ := flat_mem ht hm
        refine ⟨?_, hne, hall, .inr ⟨h1, .inl ⟨t, e, rfl⟩⟩⟩
        obtain ⟨a, ha, ⟨rfl, _⟩ | ⟨b, hb, h9, hu⟩⟩ := hx
        · exact hall _ ha
        · refine check_iff.2 ⟨(may_args (hm b hb)).1 t hu, ?_⟩
          have := (check_iff.1 (hall b hb)).2
          have := size_args hu
          show size t ≤ 60
          omega
      · rename_i hn
        have h2 : 2 ≤ (outT l).length := by
          obtain ⟨u, hu⟩ := flat_ne hne hm
          obtain ⟨v, hv, _⟩ := o3 u hu
          match ho : outT l with
          | [] => rw [ho] at hv; cases hv
          | [t] => exact (hn t ho).elim
          | _ :: _ :: _ => simp
        have hmay : may (.mk 9 .empty [] (outT l) .nil) = true := union_may h2 (fun a ha => (flat_mem (o2 a ha) hm).2.1) (fun a ha => ⟨(flat_mem (o2 a ha) hm).2.2.1, (flat_mem (o2 a ha) hm).2.2.2 h1⟩) (by rw [List.pairwise_map]; exact o1)
        obtain ⟨e1, e2⟩ := fits_ok hmay h
        exact ⟨by rw [e1]; exact e2, hne, hall, .inr ⟨h1, .inr ⟨h2, e1⟩⟩⟩
/-! ### what all parts have, what is made has -/
theorem dotted_iff {k : Int} {nm : ByteArray} {ns : List ByteArray} {as : List T} {r : T} : dotted (.mk k nm ns as r) = true ↔ (k = 6 → (txt nm).contains 46 = true) ∧ (∀ a ∈ as, dotted a = true) ∧ dotted r = true := by
  rw [dotted]
  simp only [Bool.and_eq_true, Bool.or_eq_true, bne_iff_ne, dotteds_all, List.all_eq_true, and_assoc]
  refine and_congr_left fun _ => ?_
  constructor
  · rintro (h | h) e
    · exact (h e).elim
    · exact h
  · intro h
    by_cases e : k = 6
    · exact .inr (h e)
    · exact .inl e
/-- p: of all parts (dotted; noAny). -/
structure Parts (p : T → Prop) : Prop where
  leaf : p .nil
  node : ∀ k ns as, 7 ≤ k → (∀ a ∈ as, p a) → ∀ r, p r → p (.mk k .empty ns as r)
  args : ∀ a, p a → ∀ x ∈ a.args, p x
  ret : ∀ a, p a → p a.ret
theorem parts_dotted : Parts (fun t => dotted t = true) where
  leaf := rfl
  node k ns as hk ha r hr := dotted_iff.2 ⟨fun e => by omega, ha, hr⟩
  args a h x hx := by
    cases a with
    | nil => cases hx
    | mk => exact (dotted_iff.1 h).2.1 x hx
  ret a h := by
    cases a with
    | nil => rfl
    | mk => exact (dotted_iff.1 h).2.2
theorem recF_parts {p : T → Prop} (hp : Parts p) {ns : List ByteArray} {as : List T} (ha : ∀ a ∈ as, p a) : p (recF ns as).1 := by
  unfold recF
  split
  · rename_i hc
    unfold fits
    split
    · exact hp.leaf
    · refine hp.node 7 _ _ (by omega) (fun a hx => ?_) _ hp.leaf
      obtain ⟨x, hy, rfl⟩ := List.mem_map.1 hx
      exact ha _ (List.of_mem_zip ((names_sorted hc.1 hc.2.2.2).2.mem_iff.1 hy)).2
  · exact hp.leaf
theorem funF_parts {p : T → Prop} (hp : Parts p) {as : List T} {r : T} (ha : ∀ a ∈ as, p a) (hr : p r) : p (funF as r).1 := by
  unfold funF
  split
  · unfold fits
    split
    · exact hp.leaf
    · exact hp.node 8 _ _ (by omega) ha _ hr
  · exact hp.leaf
theorem unionF_parts {p : T → Prop} (hp : Parts p) {l : List T} (ha : ∀ a ∈ l, p a) (h1 : (∃ a ∈ l, a.kind = 1) → p (.mk 1 .empty [] [] .nil)) : p (unionF l).1 := by
  have ho : ∀ u ∈ outT l, p u := by
    intro u hu
    obtain ⟨a, ha', hu⟩ := List.mem_flatMap.1 ((outT_spec l).2.1 u hu)
    split at hu
    · exact hp.args a (ha a ha') u hu
    · obtain rfl : u = a := by simpa using hu
      exact ha u ha'
  unfold unionF
  split
  · exact hp.leaf
  · split
    · rename_i h
      exact h1 (by simpa using h)
    · split
      · rename_i t e
        exact ho t (by rw [e]; simp)
      · unfold fits
        split
        · exact hp.leaf
        · exact hp.node 9 _ _ (by omega) ho _ hp.leaf
theorem unionF_dotted {l : List T} (ha : ∀ a ∈ l, dotted a = true) : dotted (unionF l).1 = true := unionF_parts parts_dotted ha fun _ => rfl
end Go.Ty
