/- The document's plan: marks. -/
import Derived.Test.YtkacocaekffdgaaP6
namespace Go.Proofs.Ytkacocaekffdgaa
open Go.SX

/-- block b is n marks. -/
def FlagAt (w : World) (b n : Nat) (D : Nat → Bool) : Prop := ∃ cs, Blk w b cs 4 ∧ cs.size = n ∧ ∀ i, i < n → cs[i]? = some (.bool (D i))
theorem flag_upd {w w' : World} {b n : Nat} {D : Nat → Bool} (h : FlagAt w b n D) {S : Nat → Prop} (u : Upd S w w') (hn : ¬ S b) : FlagAt w' b n D := by
  obtain ⟨cs, h1, h2, h3⟩ := h
  exact ⟨cs, h1.upd u hn, h2, h3⟩
theorem flag_congr {w : World} {b n : Nat} {D D' : Nat → Bool} (h : FlagAt w b n D) (e : ∀ i, i < n → D' i = D i) : FlagAt w b n D' := by
  obtain ⟨cs, h1, h2, h3⟩ := h
  exact ⟨cs, h1, h2, fun i hi => by rw [e i hi]; exact h3 i hi⟩
theorem flag_lt {w : World} {b n : Nat} {D : Nat → Bool} (h : FlagAt w b n D) : b < w.heap.size := by
  obtain ⟨cs, h1, _⟩ := h
  exact h1.lt
theorem flag_get {w : World} {b n : Nat} {D : Nat → Bool} (h : FlagAt w b n D) {i : Nat} (hi : i < n) : w.cell? (Addr.add ⟨b, 0, none⟩ (Int.toNat ((i : Nat) : Int) * 1)) = some (.bool (D i)) := by
  obtain ⟨cs, h1, h2, h3⟩ := h
  rw [Int.toNat_natCast, Nat.mul_one, add_mk, Nat.zero_add]
  exact h1.cell (h3 i hi)
theorem flag_st {w : World} {b n : Nat} {D : Nat → Bool} (h : FlagAt w b n D) {i : Nat} (hi : i < n) (x : Bool) {K : World → Prop} (hK : ∀ w', FlagAt w' b n (fun j => if j = i then x else D j) → Upd (· = b) w w' → w'.heap.size = w.heap.size → K w') :
    stC w (Addr.add ⟨b, 0, none⟩ (Int.toNat ((i : Nat) : Int) * 1)) (.bool x) K := by
  obtain ⟨cs, h1, h2, h3⟩ := h
  rw [Int.toNat_natCast, Nat.mul_one, add_mk, Nat.zero_add]
  refine stC_mk h1 (by omega) fun w' h' u' s' => hK w' ⟨_, h', by simpa using h2, fun j hj => ?_⟩ u' s'
  rw [Array.getElem?_setIfInBounds]
  by_cases e : j = i
  · subst e; rw [if_pos rfl, if_pos (by omega)]; simp
  · rw [if_neg (Ne.symm e), h3 j hj]; simp [e]
theorem flag_made {w : World} {n : Nat} (hn : n ≤ 1000000) {K : Value → World → Prop} (hK : ∀ w', FlagAt w' w.heap.size n (fun _ => false) → Upd No w w' → w'.heap.size = w.heap.size + 1 → K (.slice (some ⟨w.heap.size, 0, none⟩) n n) w') :
    runC Try.prog (Instr.makeSlice 56 (.int .i64 (n : Int)) (.int .i64 (n : Int))) w K := by
  obtain ⟨io2, hj1, hj2, hj3, hj4⟩ := info_get (P := Try.prog) (e := 4) (s := 1) (b := 1) (z := .bool false) (by kernel_rfl)
  have hmk := run_makeSlice (P := Try.prog) w 56 4 io2 (.bool false) Try.underlying56 hj1 hj2 .i64 .i64 (n : Int) (n : Int) (by omega) (Int.le_refl _) (by rw [hj3]; omega) (by rw [hj4]; omega) (by omega)
  rw [Int.toNat_natCast, hj3] at hmk
  refine ⟨_, _, hmk, hK _ ⟨_, blk_alloc w _ 4, by rw [size_madeCells]; omega, fun i hi => ?_⟩ (upd_alloc w _) (by simp)⟩
  have h := madeBools n
  rw [← Array.getElem?_toList, h]
  simp [bools, hi]

theorem rowAt_type {w : World} {e : TypeId} {size : Nat} {v : Value} {xs : List Value} (h : RowAt w e size v xs) {b : Nat} {cs : Array Value} {t : TypeId} (hb : Blk w b cs t) (hi : InRow v b) : e = t := by
  obtain ⟨m, _, ⟨e0, _⟩ | ⟨g', o, cap, cur, e0, hg, _⟩⟩ := h
  · subst e0; cases hi
  · subst e0
    have hgb : g' = b := by simpa [InRow, Value.ownBlock] using hi
    subst hgb
    exact (hg.inj hb).2
/-- block kr is the document's plan. -/
structure RPlanAt (w : World) (gr kr bw bp : Nat) (vO : Value) (O : List ByteArray) (Wt Ps : Nat → Bool) : Prop where
  blk : Blk w kr #[.pointer (some ⟨gr, 0, none⟩), vO, .slice (some ⟨bw, 0, none⟩) O.length O.length, .slice (some ⟨bp, 0, none⟩) O.length O.length] 85
  row : RowAt w 9 1 vO (strs O)
  wt : FlagAt w bw O.length Wt
  ps : FlagAt w bp O.length Ps
  n1 : kr ≠ bw
  n2 : kr ≠ bp
  n3 : bw ≠ bp
  n4 : ∀ b, InRow vO b → b ≠ bw ∧ b ≠ bp
  nodup : O.Nodup
  len : O.length ≤ 900000
theorem rplan_upd {w w' : World} {gr kr bw bp : Nat} {vO : Value} {O : List ByteArray} {Wt Ps : Nat → Bool} (h : RPlanAt w gr kr bw bp vO O Wt Ps) {S : Nat → Prop} (u : Upd S w w') (h1 : ¬ S kr) (h2 : ¬ S bw) (h3 : ¬ S bp) (h4 : ∀ b, InRow vO b → ¬ S b) : RPlanAt w' gr kr bw bp vO O Wt Ps :=
  ⟨h.blk.upd u h1, h.row.upd u h4, flag_upd h.wt u h2, flag_upd h.ps u h3, h.n1, h.n2, h.n3, h.n4, h.nodup, h.len⟩
theorem rplan_keep {w w' : World} {gr kr bw bp : Nat} {vO : Value} {O : List ByteArray} {Wt Ps : Nat → Bool} (h : RPlanAt w gr kr bw bp vO O Wt Ps) (u : Upd No w w') : RPlanAt w' gr kr bw bp vO O Wt Ps := rplan_upd h u id id id fun _ _ => id
theorem rplan_congr {w : World} {gr kr bw bp : Nat} {vO : Value} {O : List ByteArray} {Wt Ps Wt' Ps' : Nat → Bool} (h : RPlanAt w gr kr bw bp vO O Wt Ps) (hw : ∀ j, j < O.length → Wt' j = Wt j) (hp : ∀ j, j < O.length → Ps' j = Ps j) : RPlanAt w gr kr bw bp vO O Wt' Ps' :=
  ⟨h.blk, h.row, flag_congr h.wt hw, flag_congr h.ps hp, h.n1, h.n2, h.n3, h.n4, h.nodup, h.len⟩
def RFt (bw bp : Nat) : Nat → Prop := fun b => b = bw ∨ b = bp
/-- a mark that waits is set. -/
theorem rplan_setW {w w' : World} {gr kr bw bp : Nat} {vO : Value} {O : List ByteArray} {Wt Ps Wt' : Nat → Bool} (h : RPlanAt w gr kr bw bp vO O Wt Ps) (u : Upd (· = bw) w w') (hf : FlagAt w' bw O.length Wt') : RPlanAt w' gr kr bw bp vO O Wt' Ps :=
  ⟨h.blk.upd u h.n1, h.row.upd u fun b hb e => (h.n4 b hb).1 e, hf, flag_upd h.ps u (Ne.symm h.n3), h.n1, h.n2, h.n3, h.n4, h.nodup, h.len⟩
theorem rplan_setP {w w' : World} {gr kr bw bp : Nat} {vO : Value} {O : List ByteArray} {Wt Ps Ps' : Nat → Bool} (h : RPlanAt w gr kr bw bp vO O Wt Ps) (u : Upd (· = bp) w w') (hf : FlagAt w' bp O.length Ps') : RPlanAt w' gr kr bw bp vO O Wt Ps' :=
  ⟨h.blk.upd u h.n2, h.row.upd u fun b hb e => (h.n4 b hb).2 e, flag_upd h.wt u h.n3, hf, h.n1, h.n2, h.n3, h.n4, h.nodup, h.len⟩

theorem rplace_spec {w : World} {gr kr bw bp : Nat} {vO : Value} {O : List ByteArray} {Wt Ps : Nat → Bool} (h : RPlanAt w gr kr bw bp vO O Wt Ps) (s : ByteArray) :
    callC Try.prog 48 #[.pointer (some ⟨kr, 0, none⟩), .string s] w fun v w' => v = .int .i64 (idxAt O s 0) ∧ w = w' := by
  obtain ⟨p, n, c, e, _⟩ := h.row.shape
  have hrow := h.row
  have hblk := h.blk
  have hlen := h.len
  rw [e] at hrow hblk
  have hn := rowAt_len hrow
  subst hn
  have hS := StrsAt.of_row hrow
  have hc : w.cell? (Addr.add ⟨kr, 0, none⟩ 1) = some (.slice p O.length c) := by rw [add_mk]; exact hblk.cell rfl
  refine prplace _ _ _ _ ⟨fun n w' => ∃ i : Nat, n = i ∧ w' = w ∧ i ≤ O.length ∧ idxAt O s 0 = idxAt (O.drop i) s i, fun n _ => (O.length - n).toNat, ⟨0, rfl, rfl, Nat.zero_le _, rfl⟩, ?_⟩
  rintro n w3 ⟨i, rfl, rfl, hi, he⟩ d
  refine ptrC_some ⟨_, _, _, hc, brC_intro (fun hlt => ?_) fun hge => ?_⟩
  · have hlt : i < O.length := by have := of_decide_eq_true hlt; omega
    obtain ⟨a, rfl, ha⟩ := hS i hlt
    have hd : O.drop i = O[i] :: O.drop (i + 1) := (List.getElem_cons_drop hlt).symm
    rw [hd, idxAt_cons] at he
    refine ptrC_some ⟨_, _, _, hc, by omega, by omega, ptrC_some ⟨_, by rw [Int.toNat_natCast]; exact ha, ?_⟩⟩
    rw [beq_bytes]
    refine brC_intro (fun hs => ?_) fun hs => ?_
    · rw [if_pos (by simpa using hs)] at he
      rw [← he]; exact ⟨rfl, rfl⟩
    · rw [if_neg (by simpa using hs)] at he
      have hw : IntKind.wrap .i64 ((i : Int) + 1) = ((i + 1 : Nat) : Int) := Go.SX.wrap_small (by omega) (by omega)
      rw [hw]
      exact ⟨⟨i + 1, rfl, rfl, hlt, he⟩, by dsimp only; omega⟩
  · have : i = O.length := by have := of_decide_eq_false hge; omega
    subst this
    rw [List.drop_length] at he
    have he : idxAt O s 0 = -1 := he
    rw [← he]; exact ⟨rfl, rfl⟩

theorem cnt_succ (n : Nat) (Wt : Nat → Bool) : cnt (n + 1) Wt = cnt n Wt + if Wt n = true then 1 else 0 := by
  unfold cnt
  rw [List.range_succ, List.filter_append, List.length_append]
  congr 1
  cases h : Wt n <;> simp [h]
theorem rlen_spec {w : World} {gr kr bw bp : Nat} {vO : Value} {O : List ByteArray} {Wt Ps : Nat → Bool} (h : RPlanAt w gr kr bw bp vO O Wt Ps) :
    callC Try.prog 30 #[.pointer (some ⟨kr, 0, none⟩)] w fun v w' => v = .int .i64 (cnt O.length Wt : Int) ∧ w = w' := by
  have hlen := h.len
  have hc : w.cell? (Addr.add ⟨kr, 0, none⟩ 2) = some (.slice (some ⟨bw, 0, none⟩) O.length O.length) := by rw [add_mk]; exact h.blk.cell rfl
  refine prlen _ _ _ ⟨fun c n w' => ∃ i : Nat, n = i ∧ c = (cnt i Wt : Int) ∧ w = w' ∧ i ≤ O.length, fun _ n _ => (O.length - n).toNat, ⟨0, rfl, rfl, rfl, Nat.zero_le _⟩, ?_⟩
  rintro c n w4 ⟨i, rfl, rfl, rfl, hi⟩ d
  refine ptrC_some ⟨_, _, _, hc, brC_intro (fun hlt => ?_) fun hge => ?_⟩
  · have hlt : i < O.length := by have := of_decide_eq_true hlt; omega
    have hw : IntKind.wrap .i64 ((i : Int) + 1) = ((i + 1 : Nat) : Int) := Go.SX.wrap_small (by omega) (by omega)
    have hcl := cnt_le i Wt
    have hw2 : IntKind.wrap .i64 ((cnt i Wt : Int) + 1) = ((cnt i Wt + 1 : Nat) : Int) := Go.SX.wrap_small (by omega) (by omega)
    rw [hw, hw2]
    refine ⟨fun c w' => c = (cnt (i + 1) Wt : Int) ∧ w = w', fun c w12 ⟨hc, e⟩ d => ⟨⟨i + 1, rfl, hc, e, hlt⟩, by dsimp only; omega⟩, ptrC_some ⟨_, _, _, hc, by omega, by omega, ptrC_some ⟨Wt i, flag_get h.wt hlt, brC_intro (fun hb => ⟨?_, rfl⟩) fun hb => ⟨?_, rfl⟩⟩⟩⟩
    · rw [cnt_succ, if_pos hb]
    · rw [cnt_succ, if_neg (by rw [hb]; simp)]; rfl
  · have : i = O.length := by have := of_decide_eq_false hge; omega
    subst this
    exact ⟨rfl, rfl⟩

theorem rnext_spec {w : World} {gr kr bw bp : Nat} {vO : Value} {O : List ByteArray} {Wt Ps : Nat → Bool} (h : RPlanAt w gr kr bw bp vO O Wt Ps) :
    callC Try.prog 32 #[.pointer (some ⟨kr, 0, none⟩)] w fun r w' =>
      (r = .tuple #[.string (ByteArray.mk #[]), .bool false] ∧ least O.length Wt = none ∧ w = w') ∨
      ∃ i, ∃ hi : i < O.length, r = .tuple #[.string O[i], .bool true] ∧ least O.length Wt = some i ∧ RPlanAt w' gr kr bw bp vO O (fun j => Wt j && !decide (j = i)) (fun j => Ps j || decide (j = i)) ∧ Upd (RFt bw bp) w w' := by
  have hlen := h.len
  obtain ⟨pO, nO, cO, e, _⟩ := h.row.shape
  have hrow := h.row
  have hblk := h.blk
  rw [e] at hrow hblk
  have hn := rowAt_len hrow
  subst hn
  have hS := StrsAt.of_row hrow
  have hc : w.cell? (Addr.add ⟨kr, 0, none⟩ 2) = some (.slice (some ⟨bw, 0, none⟩) O.length O.length) := by rw [add_mk]; exact h.blk.cell rfl
  refine prnext _ _ _ ⟨fun n w' => ∃ i : Nat, n = i ∧ w = w' ∧ i ≤ O.length ∧ ∀ j, j < i → Wt j = false, fun n _ => (O.length - n).toNat, ⟨0, rfl, rfl, Nat.zero_le _, fun j hj => absurd hj (by omega)⟩, ?_⟩
  rintro n w3 ⟨i, rfl, rfl, hi, hno⟩ d
  refine ptrC_some ⟨_, _, _, hc, brC_intro (fun hlt => ?_) fun hge => ?_⟩
  · have hlt : i < O.length := by have := of_decide_eq_true hlt; omega
    refine ptrC_some ⟨_, _, _, hc, by omega, by omega, ptrC_some ⟨Wt i, flag_get h.wt hlt, brC_intro (fun hb => ?_) fun hb => ?_⟩⟩
    · refine ptrC_some ⟨_, _, _, hc, by omega, by omega, ptrC_some (flag_st h.wt hlt false fun w20 f20 u20 s20 => ?_)⟩
      have h20 := rplan_setW h u20 f20
      have hc3 : w20.cell? (Addr.add ⟨kr, 0, none⟩ 3) = some (.slice (some ⟨bp, 0, none⟩) O.length O.length) := by rw [add_mk]; exact h20.blk.cell rfl
      refine ptrC_some ⟨_, _, _, hc3, by omega, by omega, ptrC_some (flag_st h20.ps hlt true fun w26 f26 u26 s26 => ?_)⟩
      have h26 := rplan_setP h20 u26 f26
      have hb26 := h26.blk
      have hr26 := h26.row
      rw [e] at hb26 hr26
      obtain ⟨aO, rfl, haO⟩ := StrsAt.of_row hr26 i hlt
      have hc1 : w26.cell? (Addr.add ⟨kr, 0, none⟩ 1) = some (.slice (some aO) O.length cO) := by rw [add_mk]; exact hb26.cell rfl
      refine ptrC_some ⟨_, _, _, hc1, by omega, by omega, ptrC_some ⟨_, by rw [Int.toNat_natCast]; exact haO, .inr ⟨i, hlt, rfl, least_some hlt hb hno, rplan_congr h26 (fun j hj => ?_) fun j hj => ?_, (u20.mono fun _ _ e => .inl e).trans u26 fun _ _ e => .inr e⟩⟩⟩
      · by_cases e : j = i
        · simp [e]
        · simp [e]
      · by_cases e : j = i
        · simp [e]
        · simp [e]
    · have hw : IntKind.wrap .i64 ((i : Int) + 1) = ((i + 1 : Nat) : Int) := Go.SX.wrap_small (by omega) (by omega)
      rw [hw]
      refine ⟨⟨i + 1, rfl, rfl, hlt, fun j hj => ?_⟩, by dsimp only; omega⟩
      by_cases e : j = i
      · rw [e]; exact hb
      · exact hno j (by omega)
  · have : i = O.length := by have := of_decide_eq_false hge; omega
    subst this
    exact .inl ⟨rfl, least_none hno, rfl⟩

theorem rdone_spec {w : World} {gr kr bw bp : Nat} {vO : Value} {O : List ByteArray} {Wt Ps : Nat → Bool} (h : RPlanAt w gr kr bw bp vO O Wt Ps)
    {ps : List ByteArray} {adj : ByteArray → List ByteArray} {tos : List (List Nat)} {vP vT : Value} (R : RGraphAt w gr ps tos vP vT) (L : Links ps adj tos) (hO : O.Perm ps) (hs : ∀ p ∈ ps, p.size ≤ maxLen) (s : ByteArray) (ch : Bool) :
    callC Try.prog 34 #[.pointer (some ⟨kr, 0, none⟩), .string s, .bool ch] w fun r w' => r = .tuple #[] ∧ RPlanAt w' gr kr bw bp vO O (fun j => Wt j || (actB O Ps s ch && impB O adj s j && !Ps j)) Ps ∧ Upd (RFt bw bp) w w' := by
  have hsame : actB O Ps s ch = false → RPlanAt w gr kr bw bp vO O (fun j => Wt j || (actB O Ps s ch && impB O adj s j && !Ps j)) Ps ∧ Upd (RFt bw bp) w w := fun ha => by
    refine ⟨rplan_congr h (fun j hj => ?_) fun _ _ => rfl, Upd.refl _ _⟩
    rw [ha]; simp
  have hlen := h.len
  have hc0 : w.cell? ⟨kr, 0, none⟩ = some (.pointer (some ⟨gr, 0, none⟩)) := h.blk.cell rfl
  have hc3 : w.cell? (Addr.add ⟨kr, 0, none⟩ 3) = some (.slice (some ⟨bp, 0, none⟩) O.length O.length) := by rw [add_mk]; exact h.blk.cell rfl
  refine prdone _ _ _ _ _ (callC_of (rplace_spec h s) fun v w1 ⟨hv, e⟩ => ⟨_, hv, ?_⟩)
  subst e
  refine ⟨fun w' => w = w' ∧ ch = true ∧ s ∈ O ∧ Ps (num O s) = true, ?_, brC_intro (fun hc => ?_) fun hc => ?_⟩
  · rintro w4 ⟨rfl, hch, hsO, hps⟩ d
    have hact : actB O Ps s ch = true := by unfold actB; simp [hch, hsO, hps]
    have hpl : ps.length ≤ 1000000 := by rw [← hO.length_eq]; omega
    refine ptrC_some ⟨_, hc0, callC_of (rabove_spec R L hpl hs s) fun r w9 ⟨hA, u9⟩ => ?_⟩
    obtain ⟨p10, k11, k12, rfl, _⟩ := hA.shape
    have hk := rowAt_len hA
    have hAm : ∀ x, x ∈ sortB (ps.filter fun p => decide (s ∈ adj p)) ↔ x ∈ ps ∧ s ∈ adj x := fun x => by rw [mem_sortB, List.mem_filter, decide_eq_true_eq]
    have hAl : (sortB (ps.filter fun p => decide (s ∈ adj p))).length ≤ 1000000 := by rw [length_sortB]; exact Nat.le_trans (List.length_filter_le _ _) hpl
    generalize sortB (ps.filter fun p => decide (s ∈ adj p)) = A at hA hk hAm hAl
    subst hk
    have h9 := rplan_keep h u9
    have hAr : ∀ b, InRow (.slice p10 A.length k12) b → ¬ RFt bw bp b := fun b hb hf => by
      obtain ⟨cs1, b1, _⟩ := h9.wt
      obtain ⟨cs2, b2, _⟩ := h9.ps
      rcases hf with e | e
      · subst e; exact absurd (rowAt_type hA b1 hb) (by decide)
      · subst e; exact absurd (rowAt_type hA b2 hb) (by decide)
    refine ⟨_, _, _, rfl, fun n w' => ∃ i : Nat, n = i ∧ i ≤ A.length ∧ RPlanAt w' gr kr bw bp vO O (fun j => Wt j || ((match O[j]? with | some x => decide (x ∈ A.take i) | none => false) && !Ps j)) Ps ∧ Upd (RFt bw bp) w9 w', fun n _ => (A.length - n).toNat,
      ⟨0, rfl, Nat.zero_le _, rplan_congr h9 (fun j hj => by cases O[j]? <;> simp) fun _ _ => rfl, Upd.refl _ _⟩, ?_⟩
    rintro n15 w16 ⟨i, rfl, hi, P16, u16⟩ d
    refine brC_intro (fun hlt => ?_) fun hge => ?_
    · have hlt : i < A.length := by have := of_decide_eq_true hlt; omega
      have hw : IntKind.wrap .i64 ((i : Int) + 1) = ((i + 1 : Nat) : Int) := Go.SX.wrap_small (by omega) (by omega)
      rw [hw]
      obtain ⟨ax, rfl, hax⟩ := StrsAt.of_row (hA.upd u16 hAr) i hlt
      have htk : A.take (i + 1) = A.take i ++ [A[i]] := List.take_succ_eq_append_getElem hlt
      have hxO : A[i] ∈ O := hO.mem_iff.2 ((hAm _).1 (List.getElem_mem hlt)).1
      have hnx := num_lt hxO
      refine ⟨fun w' => RPlanAt w' gr kr bw bp vO O (fun j => Wt j || ((match O[j]? with | some x => decide (x ∈ A.take (i + 1)) | none => false) && !Ps j)) Ps ∧ Upd (RFt bw bp) w9 w', fun w19 ⟨P19, u19⟩ d => ⟨⟨i + 1, rfl, hlt, P19, u19⟩, by dsimp only; omega⟩, by omega, by omega, ptrC_some ⟨_, by rw [Int.toNat_natCast]; exact hax, callC_of (rplace_spec P16 A[i]) fun v w24 ⟨hv, e⟩ => ⟨_, hv, ?_⟩⟩⟩
      subst e
      rw [(num_spec hxO).1]
      have c3 : w16.cell? (Addr.add ⟨kr, 0, none⟩ 3) = some (.slice (some ⟨bp, 0, none⟩) O.length O.length) := by rw [add_mk]; exact P16.blk.cell rfl
      have c2 : w16.cell? (Addr.add ⟨kr, 0, none⟩ 2) = some (.slice (some ⟨bw, 0, none⟩) O.length O.length) := by rw [add_mk]; exact P16.blk.cell rfl
      have hkey : ∀ j, j < O.length → j ≠ num O A[i] → (match O[j]? with | some x => decide (x ∈ A.take (i + 1)) | none => false) = (match O[j]? with | some x => decide (x ∈ A.take i) | none => false) := fun j hj hne => by
        rw [List.getElem?_eq_getElem hj, htk]
        simp only [List.mem_append, List.mem_singleton]
        have : ¬ O[j] = A[i] := fun e => hne (by rw [← e, num_at h.nodup hj])
        simp [this]
      have hOi : O[num O A[i]]? = some A[i] := (num_spec hxO).2
      refine ptrC_some ⟨_, _, _, c3, by omega, by omega, ptrC_some ⟨Ps (num O A[i]), flag_get P16.ps hnx, brC_intro (fun hb => ?_) fun hb => ?_⟩⟩
      · have hb : Ps (num O A[i]) = false := by simpa using hb
        refine ptrC_some ⟨_, _, _, c2, by omega, by omega, ptrC_some (flag_st P16.wt hnx true fun w37 f37 u37 s37 => ⟨rplan_congr (rplan_setW P16 u37 f37) (fun j hj => ?_) fun _ _ => rfl, u16.trans u37 fun _ _ e => .inl e⟩)⟩
        by_cases e : j = num O A[i]
        · subst e
          have hmem : A[i] ∈ A.take (i + 1) := by rw [htk]; exact List.mem_append_right _ (List.mem_singleton.2 rfl)
          rw [hOi, hb]
          simp [hmem]
        · rw [if_neg e, hkey j hj e]
      · have hb : Ps (num O A[i]) = true := by simpa using hb
        refine ⟨rplan_congr P16 (fun j hj => ?_) fun _ _ => rfl, u16⟩
        by_cases e : j = num O A[i]
        · subst e
          rw [hb]; simp
        · rw [hkey j hj e]
    · have : i = A.length := by have := of_decide_eq_false hge; omega
      subst this
      rw [List.take_length] at P16
      refine ⟨rfl, rplan_congr P16 (fun j hj => ?_) fun _ _ => rfl, u9.no.trans u16 fun _ _ x => x⟩
      rw [hact]
      unfold impB
      rw [List.getElem?_eq_getElem hj]
      simp only
      have : O[j] ∈ A ↔ s ∈ adj O[j] := by
        rw [hAm]
        exact ⟨fun h => h.2, fun h => ⟨hO.mem_iff.1 (List.getElem_mem hj), h⟩⟩
      by_cases c : s ∈ adj O[j]
      · simp [c, this.2 c]
      · simp [c, mt this.1 c]
  · have hc : ch = false := by simpa using hc
    exact ⟨rfl, hsame (by unfold actB; simp [hc])⟩
  · have hc : ch = true := by simpa using hc
    refine brC_intro (fun hn => ?_) fun hy => ?_
    · have hn := of_decide_eq_true hn
      have : s ∉ O := fun h => by have := (idxAt_mem O s 0).2 h; omega
      exact ⟨rfl, hsame (by unfold actB; simp [this])⟩
    · have hy := of_decide_eq_false hy
      have hsO : s ∈ O := (idxAt_mem O s 0).1 (by omega)
      rw [(num_spec hsO).1]
      have hnx := num_lt hsO
      refine ptrC_some ⟨_, _, _, hc3, by omega, by omega, ptrC_some ⟨Ps (num O s), flag_get h.ps hnx, brC_intro (fun hb => ?_) fun hb => ?_⟩⟩
      · have hb : Ps (num O s) = false := by simpa using hb
        exact ⟨rfl, hsame (by unfold actB; simp [hb])⟩
      · exact ⟨rfl, hc, hsO, by simpa using hb⟩

theorem rpnew_spec {w : World} {gr : Nat} {ps : List ByteArray} {adj : ByteArray → List ByteArray} {tos : List (List Nat)} {vP vT : Value} (R : RGraphAt w gr ps tos vP vT) (L : Links ps adj tos) (hn : ps.length ≤ 900000) (hs : ∀ p ∈ ps, p.size ≤ maxLen)
    {x1 : Option Addr} {first : List ByteArray} (hF : StrsAt w x1 first) (hfl : first.length ≤ 1000000) (c1 : Nat) :
    callC Try.prog 28 #[.pointer (some ⟨gr, 0, none⟩), .slice x1 first.length c1] w fun r w' => ∃ kr bw bp vO, r = .pointer (some ⟨kr, 0, none⟩) ∧ RPlanAt w' gr kr bw bp vO (orderOf ps adj) (firstW (orderOf ps adj) first) (fun _ => false) ∧ Upd No w w' ∧ w.heap.size ≤ kr ∧ w.heap.size ≤ bw ∧ w.heap.size ≤ bp ∧ ∀ b, InRow vO b → w.heap.size ≤ b := by
  refine prnew _ _ _ _ _ _ (callC_of (rorder_spec3 R L (by omega) hs) fun v w1 ⟨hO, u1, gO⟩ => ?_)
  obtain ⟨p2, k3, k4, rfl, _⟩ := hO.shape
  have hk3 := rowAt_len hO
  have hperm := order_perm adj L.nodup
  generalize orderOf ps adj = O at hO hk3 hperm
  subst hk3
  have hOl : O.length ≤ 900000 := by rw [hperm.length_eq]; exact hn
  have hON : O.Nodup := hperm.nodup_iff.2 L.nodup
  have hz1 := u1.size
  refine ⟨_, _, _, rfl, newC_mk fun w6 h6 u6 s6 => ⟨_, _, _, h6.cell rfl, flag_made (by omega) fun w11 f11 u11 s11 => ⟨_, _, _, rfl, stC_mk (h6.upd u11 id) (by simp) fun w15 h15 u15 s15 => ⟨_, _, _, h15.cell rfl, flag_made (by omega) fun w20 f20 u20 s20 => ⟨_, _, _, rfl, stC_mk (h15.upd u20 id) (by simp) fun w24 h24 u24 s24 => ?_⟩⟩⟩⟩⟩
  generalize hkr : w1.heap.size = kr at h6 h15 h24 s6 u15 u24 
  generalize hbw : w6.heap.size = bw at f11 s11 h15 h24
  generalize hbp : w15.heap.size = bp at f20 s20 h24
  have u15 : Upd (· = kr) w11 w15 := u15
  have u24 : Upd (· = kr) w20 w24 := u24
  have hlts : kr < bw ∧ bw < bp := by omega
  have u24' : Upd No w w24 := ((((u1.trans u6 fun _ _ => id).trans u11 fun _ _ => id).trans u15 fun b hb e => by omega).trans u20 fun _ _ => id).trans u24 fun b hb e => by omega
  have hOrow : ∀ b, InRow (.slice p2 O.length k4) b → b < kr := fun b hb => by rw [← hkr]; exact hO.lt hb
  have hrow24 := (((((hO.upd u6 fun _ _ => id).upd u11 fun _ _ => id).upd u15 fun b hb e => by have := hOrow b hb; omega).upd u20 fun _ _ => id).upd u24 fun b hb e => by have := hOrow b hb; omega)
  have P24 : RPlanAt w24 gr kr bw bp (.slice p2 O.length k4) O (fun _ => false) (fun _ => false) :=
    ⟨h24, hrow24, flag_upd (flag_upd (flag_upd f11 u15 (by omega)) u20 id) u24 (by omega), flag_upd f20 u24 (by omega), by omega, by omega, by omega, fun b hb => by have := hOrow b hb; omega, hON, hOl⟩
  refine ⟨fun n w' => ∃ i : Nat, n = i ∧ i ≤ first.length ∧ RPlanAt w' gr kr bw bp (.slice p2 O.length k4) O (firstW O (first.take i)) (fun _ => false) ∧ Upd No w w', fun n _ => (first.length - n).toNat,
    ⟨0, rfl, Nat.zero_le _, rplan_congr P24 (fun j hj => by unfold firstW; cases O[j]? <;> simp) fun _ _ => rfl, u24'⟩, ?_⟩
  rintro n27 w28 ⟨i, rfl, hi, P28, u28⟩ d
  refine brC_intro (fun hlt => ?_) fun hge => ?_
  · have hlt : i < first.length := by have := of_decide_eq_true hlt; omega
    have hw : IntKind.wrap .i64 ((i : Int) + 1) = ((i + 1 : Nat) : Int) := Go.SX.wrap_small (by omega) (by omega)
    rw [hw]
    have htk : first.take (i + 1) = first.take i ++ [first[i]] := List.take_succ_eq_append_getElem hlt
    refine ⟨fun w' => RPlanAt w' gr kr bw bp (.slice p2 O.length k4) O (firstW O (first.take (i + 1))) (fun _ => false) ∧ Upd No w w', fun w31 ⟨P31, u31⟩ d => ⟨⟨i + 1, rfl, hlt, P31, u31⟩, by dsimp only; omega⟩, ?_⟩
    obtain ⟨a, rfl, ha⟩ := hF.keep u28 i hlt
    refine ⟨by omega, by omega, ptrC_some ⟨_, by rw [Int.toNat_natCast]; exact ha, callC_of (rplace_spec P28 first[i]) fun v w36 ⟨hv, e⟩ => ⟨_, hv, ?_⟩⟩⟩
    subst e
    have hkey : ∀ j, j < O.length → O[j]? ≠ some first[i] → firstW O (first.take (i + 1)) j = firstW O (first.take i) j := fun j hj hne => by
      unfold firstW
      rw [List.getElem?_eq_getElem hj] at hne ⊢
      rw [htk]
      simp only [List.mem_append, List.mem_singleton]
      have : ¬ O[j] = first[i] := fun e => hne (by rw [e])
      simp [this]
    refine brC_intro (fun hin => ?_) fun hout => ?_
    · have hxO : first[i] ∈ O := (idxAt_mem O _ 0).1 (of_decide_eq_true hin)
      rw [(num_spec hxO).1]
      have hnx := num_lt hxO
      refine ⟨_, _, _, P28.blk.cell rfl, by omega, by omega, ptrC_some (flag_st P28.wt hnx true fun w42 f42 u42 s42 => ⟨rplan_congr (rplan_setW P28 u42 f42) (fun j hj => ?_) fun _ _ => rfl, u28.trans u42 fun b hb e => by omega⟩)⟩
      by_cases e : j = num O first[i]
      · rw [if_pos e]
        unfold firstW
        have hmem : first[i] ∈ first.take (i + 1) := by rw [htk]; exact List.mem_append_right _ (List.mem_singleton.2 rfl)
        rw [e, (num_spec hxO).2]
        simp [hmem]
      · rw [if_neg e]
        exact hkey j hj fun he => e ((num_iff hON).1 he).2
    · have hxO : first[i] ∉ O := fun h => by
        have h1 := (idxAt_mem O _ 0).2 h
        have h2 := of_decide_eq_false hout
        omega
      exact ⟨rplan_congr P28 (fun j hj => hkey j hj fun he => hxO (List.mem_of_getElem? he)) fun _ _ => rfl, u28⟩
  · have : i = first.length := by have := of_decide_eq_false hge; omega
    subst this
    rw [List.take_length] at P28
    exact ⟨kr, bw, bp, _, rfl, P28, u28, by omega, by omega, by omega, gO⟩
end Go.Proofs.Ytkacocaekffdgaa
