/- The plan: New, wait, Next, Done, Len. -/
import Derived.Test.YtkacocaekffdgaaP1
import Derived.Test.YtkacocaekffdgaaG20
namespace Go.Proofs.Ytkacocaekffdgaa
open Go.SX

def atV (O : List ByteArray) : Value → Value
  | .string s => .int .i64 (idxAt O s 0)
  | v => v

/-- block k is a plan: in W0, the world ahead of it, lay the graph g and the order O; it has made the blocks mb, k, bs. Wt: who waits; Ps: who was passed. -/
structure PlanAt (W0 w : World) (g mb k bs : Nat) (vO : Value) (O : List ByteArray) (Wt Ps : Nat → Bool) (nh : Nat) : Prop where
  old : Upd No W0 w
  s1 : W0.heap.size ≤ mb
  s2 : mb < k
  s3 : k < bs
  row : RowAt W0 9 1 vO (strs O)
  nodup : O.Nodup
  len : O.length ≤ 900000
  parts : ∃ vH a cs, Blk w k [vH, .slice (some ⟨bs, 0, none⟩) O.length O.length, .pointer (some ⟨g, 0, none⟩), vO, .map (some mb)].toArray 83 ∧ HeapAt w k vH nh a ∧ Heap nh a ∧ Inj nh a ∧ (∀ x, InTab nh a x ↔ x < O.length ∧ Wt x = true) ∧
    (∀ b, InRow vH b → bs < b) ∧ Blk w bs cs 89 ∧ cs.size = 2 * O.length ∧ ∀ i, i < O.length → cs[2 * i]? = some (.bool (Wt i)) ∧ cs[2 * i + 1]? = some (.bool (Ps i))
  at_ : MapF .string w mb (strs O) (atV O)

def cnt (n : Nat) (Wt : Nat → Bool) : Nat := ((List.range n).filter Wt).length
theorem tab_nodup {n : Nat} {a : Nat → Nat} (h : Inj n a) : (tab n a).Nodup := by
  unfold tab
  rw [List.nodup_iff_pairwise_ne, List.pairwise_map]
  refine List.pairwise_lt_range.imp_of_mem fun {i j} hi hj hij e => ?_
  have hi : i < n := by simpa using hi
  have hj : j < n := by simpa using hj
  have := h i j hi hj e
  omega
theorem tab_mem {n : Nat} {a : Nat → Nat} {x : Nat} : x ∈ tab n a ↔ InTab n a x := by
  unfold tab InTab
  rw [List.mem_map]
  exact ⟨fun ⟨t, ht, e⟩ => ⟨t, by simpa using ht, e⟩, fun ⟨t, ht, e⟩ => ⟨t, by simpa using ht, e⟩⟩
theorem cnt_eq {n nh : Nat} {a : Nat → Nat} {Wt : Nat → Bool} (h : Inj nh a) (hin : ∀ x, InTab nh a x ↔ x < n ∧ Wt x = true) : nh = cnt n Wt := by
  have hp : (tab nh a).Perm ((List.range n).filter Wt) := (List.perm_ext_iff_of_nodup (tab_nodup h) (List.nodup_range.filter _)).2 fun x => by
    rw [tab_mem, hin, List.mem_filter, List.mem_range]
  have := hp.length_eq
  rw [tab_len] at this
  exact this
theorem cnt_le (n : Nat) (Wt : Nat → Bool) : cnt n Wt ≤ n := by
  unfold cnt
  refine Nat.le_trans (List.length_filter_le _ _) ?_
  simp

theorem planAt_congr {W0 w : World} {g mb k bs : Nat} {vO : Value} {O : List ByteArray} {Wt Ps Wt' Ps' : Nat → Bool} {nh : Nat} (h : PlanAt W0 w g mb k bs vO O Wt Ps nh) (hw : ∀ j, j < O.length → Wt' j = Wt j) (hp : ∀ j, j < O.length → Ps' j = Ps j) : PlanAt W0 w g mb k bs vO O Wt' Ps' nh := by
  obtain ⟨vH, a, cs, h1, h2, h3, h4, h5, h6, h7, h8, h9⟩ := h.parts
  refine ⟨h.old, h.s1, h.s2, h.s3, h.row, h.nodup, h.len, ⟨vH, a, cs, h1, h2, h3, h4, fun x => ?_, h6, h7, h8, fun i hi => ?_⟩, h.at_⟩
  · rw [h5]
    constructor
    · rintro ⟨hx, e⟩; exact ⟨hx, by rw [hw x hx]; exact e⟩
    · rintro ⟨hx, e⟩; exact ⟨hx, by rw [← hw x hx]; exact e⟩
  · rw [hw i hi, hp i hi]; exact h9 i hi
theorem planAt_keep {W0 w w' : World} {g mb k bs : Nat} {vO : Value} {O : List ByteArray} {Wt Ps : Nat → Bool} {nh : Nat} (h : PlanAt W0 w g mb k bs vO O Wt Ps nh) (u : Upd No w w') : PlanAt W0 w' g mb k bs vO O Wt Ps nh := by
  obtain ⟨vH, a, cs, h1, h2, h3, h4, h5, h6, h7, h8, h9⟩ := h.parts
  exact ⟨h.old.trans u fun _ _ => id, h.s1, h.s2, h.s3, h.row, h.nodup, h.len, ⟨vH, a, cs, h1.upd u id, heapAt_upd h2 u id fun _ _ => id, h3, h4, h5, h6, h7.upd u id, h8, h9⟩, h.at_.upd u id⟩
/-- the blocks that a plan writes. -/
def PFt (w : World) (k bs : Nat) : Nat → Prop := fun b => b = k ∨ b = bs ∨ ∃ v, w.cell? ⟨k, 0, none⟩ = some v ∧ InRow v b
/-- a plan's step: it writes its own blocks, and new ones. -/
structure PStep (k bs : Nat) (w w' : World) : Prop where
  upd : Upd (PFt w k bs) w w'
  foot : ∀ b, PFt w' k bs b → PFt w k bs b ∨ w.heap.size ≤ b
theorem pstep_refl (k bs : Nat) (w : World) : PStep k bs w w := ⟨Upd.refl _ _, fun _ h => .inl h⟩
theorem pstep_trans {k bs : Nat} {a b c : World} (h : PStep k bs a b) (g : PStep k bs b c) : PStep k bs a c :=
  ⟨h.upd.trans g.upd fun x hx hf => (h.foot x hf).elim id fun hs => by omega, fun x hf => (g.foot x hf).elim (h.foot x) fun hs => .inr (Nat.le_trans h.upd.size hs)⟩
theorem pstep_no {k bs : Nat} {w w' : World} (u : Upd No w w') (hk : k < w.heap.size) : PStep k bs w w' := by
  refine ⟨u.no, fun b hb => .inl ?_⟩
  rcases hb with h | h | ⟨v, hc, hi⟩
  · exact .inl h
  · exact .inr (.inl h)
  · refine .inr (.inr ⟨v, ?_, hi⟩)
    have := u.block k hk id
    unfold World.cell? at *
    rw [this] at hc
    exact hc
theorem planAt_foot {W0 w : World} {g mb k bs : Nat} {vO : Value} {O : List ByteArray} {Wt Ps : Nat → Bool} {nh : Nat} (h : PlanAt W0 w g mb k bs vO O Wt Ps nh) {b : Nat} (hb : PFt w k bs b) : k ≤ b ∧ W0.heap.size ≤ b ∧ b < w.heap.size := by
  obtain ⟨vH, a, cs, h1, h2, h3, h4, h5, h6, h7, h8, h9⟩ := h.parts
  have a1 := h.s1; have a2 := h.s2; have a3 := h.s3
  have b1 := h1.lt; have b2 := h7.lt
  rcases hb with h | h | ⟨v, hc, hi⟩
  · omega
  · omega
  · rw [h2.cell] at hc
    cases hc
    have := h6 b hi
    have := h2.row.lt hi
    omega
theorem planAt_lt {W0 w : World} {g mb k bs : Nat} {vO : Value} {O : List ByteArray} {Wt Ps : Nat → Bool} {nh : Nat} (h : PlanAt W0 w g mb k bs vO O Wt Ps nh) : k < w.heap.size := (planAt_foot h (.inl rfl)).2.2

theorem at_look {w : World} {mb : Nat} {O : List ByteArray} (h : MapF .string w mb (strs O) (atV O)) (s : ByteArray) :
    (Instr.lookup 69 (.map (some mb)) (.string s) true).run Try.prog w = .ok (.tuple #[.int .i64 ((if s ∈ O then num O s else 0 : Nat) : Int), .bool (decide (s ∈ O))]) w := by
  by_cases hq : s ∈ O
  · have := run_lookup_in (P := Try.prog) (t := 69) (kt := 9) (et := 3) Try.underlying69 Try.underlying9 (k := .string s) trivial h (strs_mem.2 hq) true
    rw [this]
    simp [hq, atV, (num_spec hq).1]
  · have := run_lookup_out (P := Try.prog) (t := 69) (kt := 9) (et := 3) Try.underlying69 Try.underlying9 (k := .string s) trivial h (fun e => hq (strs_mem.1 e)) (zero3 w) true
    rw [this]
    simp [hq]

theorem num_iff {O : List ByteArray} (hn : O.Nodup) {s : ByteArray} {j : Nat} : O[j]? = some s ↔ s ∈ O ∧ j = num O s := by
  constructor
  · intro h
    have hs := List.mem_of_getElem? h
    have hj := (List.getElem?_eq_some_iff.1 h)
    obtain ⟨hj1, hj2⟩ := hj
    exact ⟨hs, by rw [← hj2, num_at hn hj1]⟩
  · rintro ⟨hs, rfl⟩
    exact (num_spec hs).2

set_option maxRecDepth 20000 in
theorem wait_spec {W0 w : World} {g mb k bs : Nat} {vO : Value} {O : List ByteArray} {Wt Ps : Nat → Bool} {nh : Nat} (h : PlanAt W0 w g mb k bs vO O Wt Ps nh) (s : ByteArray) :
    callC Try.prog 47 #[.pointer (some ⟨k, 0, none⟩), .string s] w fun r w' => r = .tuple #[] ∧ (∃ nh', PlanAt W0 w' g mb k bs vO O (fun j => Wt j || (decide (O[j]? = some s) && !Ps j)) Ps nh') ∧ PStep k bs w w' := by
  obtain ⟨vH, a, cs, h1, h2, h3, h4, h5, h6, h7, h8, h9⟩ := h.parts
  have hs3 := h.s3
  have hnh : nh ≤ 900000 := by
    have := cnt_eq h4 h5
    have h' := cnt_le O.length Wt
    have := h.len
    omega
  have c1 : w.cell? (Addr.add ⟨k, 0, none⟩ 1) = some (.slice (some ⟨bs, 0, none⟩) O.length O.length) := by rw [add_mk]; exact h1.cell rfl
  have c4 : w.cell? (Addr.add ⟨k, 0, none⟩ 4) = some (.map (some mb)) := by rw [add_mk]; exact h1.cell rfl
  refine pwait _ _ _ _ (ptrC_some ⟨_, c4, runR_of (at_look h.at_ s) ⟨_, _, rfl, ?_⟩⟩)
  by_cases hs : s ∈ O
  · have hi := num_lt hs
    rw [if_pos hs]
    obtain ⟨q1, q2⟩ := h9 _ hi
    have e1 : ∀ n : Nat, Addr.add ⟨bs, 0, none⟩ (Int.toNat ((n : Nat) : Int) * 2) = ⟨bs, 2 * n, none⟩ := fun n => by rw [add_mk, Int.toNat_natCast]; simp [Nat.mul_comm]
    refine ⟨fun w' => w = w' ∧ Wt (num O s) = false ∧ Ps (num O s) = false, ?_, brC_ff (by simp [hs]) (ptrC_some ⟨_, _, _, c1, by omega, by omega, ptrC_some ⟨Wt (num O s), by rw [e1]; exact h7.cell q1, ?_⟩⟩)⟩
    · rintro w6 ⟨rfl, hw0, hp0⟩ d
      refine ptrC_some ⟨_, _, _, c1, by omega, by omega, ptrC_some ?_⟩
      rw [e1]
      refine stC_mk h7 (by omega) fun w13 h13 u13 s13 => ptrC_some ?_
      have u13 : Upd (· = bs) w w13 := u13
      have hB13 := h1.upd u13 (by omega)
      have hH13 := heapAt_upd h2 u13 (by omega) fun b hb e => by have := h6 b hb; omega
      refine callC_of (push_spec hB13 hH13 (by omega) h3 h4 (x := num O s) fun hx => by rw [(h5 _).1 hx |>.2] at hw0; cases hw0) fun r w16 ⟨hr, vH', a', hN, hB16, hin⟩ => ⟨hr, rfl, ?_⟩
      have hkb := h1.lt
      have hlt13 := h7.lt
      have hown' : ∀ b, InRow vH' b → bs < b := fun b hb => (hN.row b hb).elim (h6 b) fun h => by omega
      have u016 : Upd (PFt w k bs) w w16 := (u13.mono fun b _ e => .inr (.inl e)).trans hN.upd fun b _ hb => hb.elim .inl fun hb => .inr (.inr ⟨vH, h2.cell, hb⟩)
      have st : PStep k bs w w16 := ⟨u016, fun b hb => by
        rcases hb with e | e | ⟨v, hc, hi⟩
        · exact .inl (.inl e)
        · exact .inl (.inr (.inl e))
        · rw [hN.at_.cell] at hc
          cases hc
          rcases hN.row b hi with h | h
          · exact .inl (.inr (.inr ⟨vH, h2.cell, h⟩))
          · exact .inr (by omega)⟩
      refine ⟨⟨_, h.old.trans u016 fun b hb hk => ?_, h.s1, h.s2, h.s3, h.row, h.nodup, h.len, ⟨vH', a', _, hB16, hN.at_, hN.heap, hN.inj, fun x => ?_, hown', h13.upd hN.upd ?_, by simpa using h8, fun i hi' => ?_⟩, h.at_.upd u016 ?_⟩, st⟩
      · have := (planAt_foot h hk).2.1
        omega
      · rw [hin, h5]
        constructor
        · rintro (⟨hx, e⟩ | rfl)
          · exact ⟨hx, by rw [e]; rfl⟩
          · exact ⟨hi, by rw [(num_iff h.nodup).2 ⟨hs, rfl⟩, hp0]; simp⟩
        · rintro ⟨hx, e⟩
          rw [Bool.or_eq_true, Bool.and_eq_true, decide_eq_true_eq] at e
          rcases e with e | ⟨e, _⟩
          · exact .inl ⟨hx, e⟩
          · exact .inr ((num_iff h.nodup).1 e).2
      · rintro (e | hb)
        · omega
        · have := h6 bs hb; omega
      · obtain ⟨r1, r2⟩ := h9 i hi'
        constructor
        · rw [Array.getElem?_setIfInBounds]
          by_cases e : i = num O s
          · subst e
            rw [if_pos rfl, if_pos (by omega), (num_iff h.nodup).2 ⟨hs, rfl⟩, hp0]
            simp
          · rw [if_neg (by omega), r1]
            have : ¬ O[i]? = some s := fun he => e ((num_iff h.nodup).1 he).2
            simp [this]
        · rw [Array.getElem?_setIfInBounds, if_neg (by omega)]; exact r2
      · intro hf
        have h2 := h.s2
        have := (planAt_foot h hf).1
        omega
    · have hsame : (Wt (num O s) = true ∨ Ps (num O s) = true) → (∃ nh', PlanAt W0 w g mb k bs vO O (fun j => Wt j || (decide (O[j]? = some s) && !Ps j)) Ps nh') ∧ PStep k bs w w := fun hor => by
        refine ⟨⟨nh, planAt_congr h (fun j hj => ?_) fun _ _ => rfl⟩, pstep_refl _ _ _⟩
        by_cases e : O[j]? = some s
        · have := ((num_iff h.nodup).1 e).2
          subst this
          rcases hor with hor | hor <;> simp [hor]
        · simp [e]
      refine brC_intro (fun hb => ⟨rfl, hsame (.inl hb)⟩) fun hb => ?_
      refine ptrC_some ⟨_, _, _, c1, by omega, by omega, ptrC_some ⟨Ps (num O s), by rw [e1, add_mk]; exact h7.cell q2, brC_intro (fun hb2 => ⟨rfl, hsame (.inr hb2)⟩) fun hb2 => ⟨rfl, hb, hb2⟩⟩⟩
  · rw [if_neg hs]
    refine ⟨fun _ => False, fun _ h => h.elim, brC_tt (by simp [hs]) ⟨rfl, ⟨nh, planAt_congr h (fun j hj => ?_) fun _ _ => rfl⟩, pstep_refl _ _ _⟩⟩
    have : ¬ O[j]? = some s := fun he => hs (List.mem_of_getElem? he)
    simp [this]

theorem plen_spec {W0 w : World} {g mb k bs : Nat} {vO : Value} {O : List ByteArray} {Wt Ps : Nat → Bool} {nh : Nat} (h : PlanAt W0 w g mb k bs vO O Wt Ps nh) :
    callC Try.prog 29 #[.pointer (some ⟨k, 0, none⟩)] w fun r w' => r = .int .i64 (cnt O.length Wt : Int) ∧ w = w' := by
  obtain ⟨vH, a, cs, h1, h2, h3, h4, h5, h6, h7, h8, h9⟩ := h.parts
  refine plen _ _ _ (brC_ff rfl (ptrC_some (callC_of (len_spec h2) fun r w2 ⟨hr, e⟩ => ⟨_, hr, ?_, e⟩)))
  rw [← cnt_eq h4 h5]
theorem plen_nil (w : World) : callC Try.prog 29 #[.pointer none] w fun r w' => r = .int .i64 0 ∧ w = w' := plen _ _ _ (brC_tt rfl ⟨rfl, rfl⟩)

set_option maxRecDepth 20000 in
theorem next_spec {W0 w : World} {g mb k bs : Nat} {vO : Value} {O : List ByteArray} {Wt Ps : Nat → Bool} {nh : Nat} (h : PlanAt W0 w g mb k bs vO O Wt Ps nh) :
    callC Try.prog 31 #[.pointer (some ⟨k, 0, none⟩)] w fun r w' =>
      (r = .tuple #[.string (ByteArray.mk #[]), .bool false] ∧ (∀ j, j < O.length → Wt j = false) ∧ w = w') ∨
      ∃ i, ∃ hi : i < O.length, r = .tuple #[.string O[i], .bool true] ∧ Wt i = true ∧ (∀ j, j < i → Wt j = false) ∧ (∃ nh', PlanAt W0 w' g mb k bs vO O (fun j => Wt j && !decide (j = i)) (fun j => Ps j || decide (j = i)) nh') ∧ PStep k bs w w' := by
  have hlenP := plen_spec h
  obtain ⟨vH, a, cs, h1, h2, h3, h4, h5, h6, h7, h8, h9⟩ := h.parts
  have hs3 := h.s3
  have hnhc := cnt_eq h4 h5
  have hnh : nh ≤ 900000 := by
    have h' := cnt_le O.length Wt
    have := h.len
    omega
  rw [← hnhc] at hlenP
  refine pnext _ _ _ (callC_of hlenP fun r w1 ⟨hr, e⟩ => ⟨_, hr, ?_⟩)
  subst e
  refine brC_intro (fun hz => ?_) fun hnz => ?_
  · have hz : nh = 0 := by have : (nh : Int) = 0 := by simpa using hz
                           omega
    refine .inl ⟨rfl, fun j hj => ?_, rfl⟩
    cases hW : Wt j with
    | false => rfl
    | true =>
      obtain ⟨t, ht, _⟩ := (h5 j).2 ⟨hj, hW⟩
      omega
  · obtain ⟨n, rfl⟩ : ∃ n, nh = n + 1 := ⟨nh - 1, by have : (nh : Int) ≠ 0 := by simpa using hnz
                                                     omega⟩
    refine ptrC_some (callC_of (pop_spec h1 h2 (by omega) h3 h4) fun r w5 ⟨hr, vH', a', hN, hB5, hin⟩ => ⟨_, hr, _, _, run_assert _ _, _, rfl, ?_⟩)
    have hx0 := (h5 (a 0)).1 ⟨0, by omega, rfl⟩
    generalize hi : a 0 = i at hin hx0
    obtain ⟨hiO, hWi⟩ := hx0
    have hmin : ∀ j, j < i → Wt j = false := fun j hj => by
      cases hW : Wt j with
      | false => rfl
      | true =>
        obtain ⟨t, ht, e⟩ := (h5 j).2 ⟨by omega, hW⟩
        have := heap_least h3 t ht
        omega
    have hkb := h1.lt
    have hlt := h7.lt
    have hown' : ∀ b, InRow vH' b → bs < b := fun b hb => (hN.row b hb).elim (h6 b) fun h => by omega
    have u5 : Upd (PFt w k bs) w w5 := hN.upd.mono fun b _ hb => hb.elim .inl fun hb => .inr (.inr ⟨vH, h2.cell, hb⟩)
    have c1 : w5.cell? (Addr.add ⟨k, 0, none⟩ 1) = some (.slice (some ⟨bs, 0, none⟩) O.length O.length) := by rw [add_mk]; exact hB5.cell rfl
    have hbs5 : Blk w5 bs cs 89 := h7.upd hN.upd fun hb => hb.elim (fun e => by omega) fun hb => by have := h6 bs hb; omega
    refine ptrC_some ⟨_, _, _, c1, by omega, by omega, ptrC_some ?_⟩
    have e1 : Addr.add ⟨bs, 0, none⟩ (Int.toNat ((i : Nat) : Int) * 2) = ⟨bs, 2 * i, none⟩ := by rw [add_mk, Int.toNat_natCast]; simp [Nat.mul_comm]
    rw [e1, add_mk]
    refine stC_mk hbs5 (by omega) fun w15 h15 u15 s15 => stC_mk h15 (by simp; omega) fun w16 h16 u16 s16 => ?_
    have u15 : Upd (· = bs) w5 w15 := u15
    have u16 : Upd (· = bs) w15 w16 := u16
    have u516 : Upd (· = bs) w5 w16 := u15.trans u16 fun _ _ x => x
    have hB16 := hB5.upd u516 (by omega)
    have u016 : Upd (PFt w k bs) w w16 := u5.trans u516 fun b _ e => .inr (.inl e)
    have hH16 := heapAt_upd hN.at_ u516 (by omega) fun b hb e => by have := hown' b hb; omega
    have st : PStep k bs w w16 := ⟨u016, fun b hb => by
      rcases hb with e | e | ⟨v, hc, hi⟩
      · exact .inl (.inl e)
      · exact .inl (.inr (.inl e))
      · rw [hH16.cell] at hc
        cases hc
        rcases hN.row b hi with h | h
        · exact .inl (.inr (.inr ⟨vH, h2.cell, h⟩))
        · exact .inr h⟩
    have hold : Upd No W0 w16 := h.old.trans u016 fun b hb hk => by
      have := (planAt_foot h hk).2.1
      omega
    obtain ⟨pO, nO, cO, e, _⟩ := h.row.shape
    have hrow := h.row
    have hnO : nO = O.length := by
      rw [e] at hrow
      exact rowAt_len hrow
    subst hnO
    have hO := hrow
    rw [e] at hO
    have c3 : w16.cell? (Addr.add ⟨k, 0, none⟩ 3) = some (.slice pO O.length cO) := by rw [add_mk, ← e]; exact hB16.cell rfl
    obtain ⟨aO, rfl, haO⟩ := (StrsAt.of_row (hO.upd hold fun _ _ => id)) i hiO
    refine ptrC_some ⟨_, _, _, c3, by omega, by omega, ptrC_some ⟨_, by rw [Int.toNat_natCast]; exact haO, .inr ⟨i, hiO, rfl, hWi, hmin, ⟨n, hold, h.s1, h.s2, h.s3, h.row, h.nodup, h.len, ⟨vH', a', _, hB16, hH16, hN.heap, hN.inj, fun x => ?_, hown', h16, by simpa using h8, fun j hj => ?_⟩, h.at_.upd u016 ?_⟩, st⟩⟩⟩
    · rw [hin, h5]
      constructor
      · rintro ⟨⟨h1, h2⟩, h3⟩; exact ⟨h1, by simp [h2, h3]⟩
      · rintro ⟨h1, h2⟩
        rw [Bool.and_eq_true, Bool.not_eq_true', decide_eq_false_iff_not] at h2
        exact ⟨⟨h1, h2.1⟩, h2.2⟩
    · obtain ⟨r1, r2⟩ := h9 j hj
      constructor
      · rw [Array.getElem?_setIfInBounds, if_neg (by omega), Array.getElem?_setIfInBounds]
        by_cases e : j = i
        · subst e; rw [if_pos rfl, if_pos (by omega)]; simp
        · rw [if_neg (by omega), r1]; simp [e]
      · rw [Array.getElem?_setIfInBounds]
        by_cases e : j = i
        · subst e; rw [if_pos (by omega), if_pos (by simp; omega)]; simp
        · rw [if_neg (by omega), Array.getElem?_setIfInBounds, if_neg (by omega), r2]; simp [e]
    · intro hf
      have h2 := h.s2
      have := (planAt_foot h hf).1
      omega
theorem next_nil (w : World) : callC Try.prog 31 #[.pointer none] w fun r w' => r = .tuple #[.string (ByteArray.mk #[]), .bool false] ∧ w = w' :=
  pnext _ _ _ (callC_of (plen_nil w) fun r w1 ⟨hr, e⟩ => ⟨_, hr, brC_tt rfl ⟨rfl, e⟩⟩)

/-- does the j-th of O import s? -/
def impB (O : List ByteArray) (adj : ByteArray → List ByteArray) (s : ByteArray) (j : Nat) : Bool := match O[j]? with | some x => decide (s ∈ adj x) | none => false
def actB (O : List ByteArray) (Ps : Nat → Bool) (s : ByteArray) (ch : Bool) : Bool := ch && (decide (s ∈ O) && Ps (num O s))

set_option maxRecDepth 20000 in
theorem done_spec {W0 w : World} {g mb k bs : Nat} {vO : Value} {O : List ByteArray} {Wt Ps : Nat → Bool} {nh : Nat} (h : PlanAt W0 w g mb k bs vO O Wt Ps nh)
    {ps : List ByteArray} {adj : ByteArray → List ByteArray} {m : Nat} {f : Value → Value} (G : GraphAt W0 g ps adj m f) (hO : O.Perm ps) (hs : ∀ p ∈ ps, p.size ≤ maxLen) (s : ByteArray) (ch : Bool) :
    callC Try.prog 33 #[.pointer (some ⟨k, 0, none⟩), .string s, .bool ch] w fun r w' => r = .tuple #[] ∧ (∃ nh', PlanAt W0 w' g mb k bs vO O (fun j => Wt j || (actB O Ps s ch && impB O adj s j && !Ps j)) Ps nh') ∧ PStep k bs w w' := by
  have hsame : actB O Ps s ch = false → (∃ nh', PlanAt W0 w g mb k bs vO O (fun j => Wt j || (actB O Ps s ch && impB O adj s j && !Ps j)) Ps nh') ∧ PStep k bs w w := fun ha => by
    refine ⟨⟨nh, planAt_congr h (fun j hj => ?_) fun _ _ => rfl⟩, pstep_refl _ _ _⟩
    rw [ha]; simp
  obtain ⟨vH, a, cs, h1, h2, h3, h4, h5, h6, h7, h8, h9⟩ := h.parts
  have c1 : w.cell? (Addr.add ⟨k, 0, none⟩ 1) = some (.slice (some ⟨bs, 0, none⟩) O.length O.length) := by rw [add_mk]; exact h1.cell rfl
  have c4 : w.cell? (Addr.add ⟨k, 0, none⟩ 4) = some (.map (some mb)) := by rw [add_mk]; exact h1.cell rfl
  have c2 : w.cell? (Addr.add ⟨k, 0, none⟩ 2) = some (.pointer (some ⟨g, 0, none⟩)) := by rw [add_mk]; exact h1.cell rfl
  refine pdone _ _ _ _ _ ⟨fun w' => w = w' ∧ ch = true, ?_, brC_ff rfl (brC_intro (fun hc => ?_) fun hc => ?_)⟩
  · rintro w1 ⟨rfl, hch⟩ d
    refine ⟨fun w' => w = w' ∧ s ∈ O ∧ Ps (num O s) = true, ?_, ?_⟩
    · rintro w4 ⟨rfl, hsO, hps⟩ d
      have hact : actB O Ps s ch = true := by unfold actB; simp [hch, hsO, hps]
      have hlen := h.len
      have hpl : ps.length ≤ 1000000 := by rw [← hO.length_eq]; omega
      refine ptrC_some ⟨_, c2, callC_of (above_spec (G.keep h.old) hpl hs s) fun r w9 ⟨hA, u9, gA⟩ => ?_⟩
      obtain ⟨p10, k11, k12, rfl, _⟩ := hA.shape
      have hk := rowAt_len hA
      have hSA := StrsAt.of_row hA
      have hAm : ∀ x, x ∈ sortB (ps.filter fun p => decide (s ∈ adj p)) ↔ x ∈ ps ∧ s ∈ adj x := fun x => by rw [mem_sortB, List.mem_filter, decide_eq_true_eq]
      have hAl : (sortB (ps.filter fun p => decide (s ∈ adj p))).length ≤ 1000000 := by rw [length_sortB]; exact Nat.le_trans (List.length_filter_le _ _) hpl
      generalize sortB (ps.filter fun p => decide (s ∈ adj p)) = A at hA hk hSA hAm hAl
      subst hk
      have st9 : PStep k bs w w9 := pstep_no u9 (planAt_lt h)
      have hf9 : ∀ b, InRow (.slice p10 A.length k12) b → b < w9.heap.size ∧ ¬ PFt w9 k bs b := fun b hb => ⟨hA.lt hb, fun hf => by
        have a1 := gA b hb
        rcases (pstep_no (k := k) (bs := bs) u9 (planAt_lt h)).foot b hf with h' | h'
        · have := (planAt_foot h h').2.2; omega
        · have := (planAt_foot (planAt_keep h u9) hf).1
          rcases hf with e | e | ⟨v, hc, hi⟩
          · have := planAt_lt h; omega
          · have := (planAt_foot h (.inr (.inl rfl))).2.2; omega
          · rw [cell_upd h2.cell u9 id] at hc
            cases hc
            have := h2.row.lt hi; omega⟩
      have hOlen := hO.length_eq
      refine ⟨_, _, _, rfl, fun n w' => ∃ i : Nat, n = i ∧ i ≤ A.length ∧ (∃ nh', PlanAt W0 w' g mb k bs vO O (fun j => Wt j || ((match O[j]? with | some x => decide (x ∈ A.take i) | none => false) && !Ps j)) Ps nh') ∧ PStep k bs w w' ∧ RowAt w' 9 1 (.slice p10 A.length k12) (strs A) ∧ ∀ b, InRow (.slice p10 A.length k12) b → ¬ PFt w' k bs b,
        fun n _ => (A.length - n).toNat, ⟨0, rfl, Nat.zero_le _, ⟨nh, planAt_congr (planAt_keep h u9) (fun j hj => by cases O[j]? <;> simp) fun _ _ => rfl⟩, st9, hA, fun b hb => (hf9 b hb).2⟩, ?_⟩
      rintro n15 w16 ⟨i, rfl, hi, ⟨nh', P16⟩, st16, R16, f16⟩ d
      refine brC_intro (fun hlt => ?_) fun hge => ?_
      · have hlt : i < A.length := by have := of_decide_eq_true hlt; omega
        obtain ⟨ax, e, hax⟩ := StrsAt.of_row R16 i hlt
        have htk : A.take (i + 1) = A.take i ++ [A[i]] := List.take_succ_eq_append_getElem hlt
        subst e
        refine ⟨by omega, by omega, ptrC_some ⟨_, by rw [Int.toNat_natCast]; exact hax, callC_of (wait_spec P16 A[i]) fun r w21 ⟨hr, ⟨nh2, P21⟩, st21⟩ => ⟨hr, ?_⟩⟩⟩
        have hw : IntKind.wrap .i64 ((i : Int) + 1) = ((i + 1 : Nat) : Int) := Go.SX.wrap_small (by omega) (by omega)
        rw [hw]
        refine ⟨⟨i + 1, rfl, hlt, ⟨nh2, planAt_congr P21 (fun j hj => ?_) fun _ _ => rfl⟩, pstep_trans st16 st21, R16.upd st21.upd f16, fun b hb hf => (st21.foot b hf).elim (f16 b hb) fun h => by have := R16.lt hb; omega⟩, by dsimp only; omega⟩
        rw [htk, List.getElem?_eq_getElem hj]
        simp only [List.mem_append, List.mem_singleton, Option.some.injEq]
        by_cases c1 : O[j] ∈ A.take i
        · cases Wt j <;> cases Ps j <;> simp [c1]
        · by_cases c2 : O[j] = A[i]
          · cases Wt j <;> cases Ps j <;> simp [c2]
          · cases Wt j <;> cases Ps j <;> simp [c1, c2]
      · have : i = A.length := by have := of_decide_eq_false hge; omega
        subst this
        rw [List.take_length] at P16
        refine ⟨rfl, ⟨nh', planAt_congr P16 (fun j hj => ?_) fun _ _ => rfl⟩, st16⟩
        rw [hact]
        unfold impB
        rw [List.getElem?_eq_getElem hj]
        simp only
        have : O[j] ∈ A ↔ s ∈ adj O[j] := by
          rw [hAm]
          exact ⟨fun h => h.2, fun h => ⟨hO.mem_iff.1 (List.getElem_mem hj), h⟩⟩
        by_cases c : s ∈ adj O[j]
        · simp [c, this.2 c]
        · simp [c, mt this.1 c]
    · refine ptrC_some ⟨_, c4, runR_of (at_look h.at_ s) ⟨_, _, rfl, brC_intro (fun hn => ?_) fun hy => ?_⟩⟩
      · have hn : s ∉ O := by simpa using hn
        exact ⟨rfl, hsame (by unfold actB; simp [hn])⟩
      · have hy : s ∈ O := by simpa using hy
        have hi := num_lt hy
        rw [if_pos hy]
        obtain ⟨q1, q2⟩ := h9 _ hi
        have e1 : Addr.add ⟨bs, 0, none⟩ (Int.toNat ((num O s : Nat) : Int) * 2) = ⟨bs, 2 * num O s, none⟩ := by rw [add_mk, Int.toNat_natCast]; simp [Nat.mul_comm]
        refine ptrC_some ⟨_, _, _, c1, by omega, by omega, ptrC_some ⟨Ps (num O s), by rw [e1, add_mk]; exact h7.cell q2, brC_intro (fun hb => ?_) fun hb => ?_⟩⟩
        · have hb : Ps (num O s) = false := by simpa using hb
          exact ⟨rfl, hsame (by unfold actB; simp [hb])⟩
        · exact ⟨rfl, hy, by simpa using hb⟩
  · have hc : ch = false := by simpa using hc
    exact ⟨rfl, hsame (by unfold actB; simp [hc])⟩
  · exact ⟨rfl, by simpa using hc⟩
theorem done_nil (w : World) (s : ByteArray) (ch : Bool) : callC Try.prog 33 #[.pointer none, .string s, .bool ch] w fun r w' => r = .tuple #[] ∧ w = w' :=
  pdone _ _ _ _ _ ⟨fun _ => False, fun _ h => h.elim, brC_tt rfl ⟨rfl, rfl⟩⟩
end Go.Proofs.Ytkacocaekffdgaa
