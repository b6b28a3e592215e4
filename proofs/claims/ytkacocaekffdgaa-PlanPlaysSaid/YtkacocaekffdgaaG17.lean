/- The document's graph: its numbers, its lists, its sorting. -/
import Derived.Test.YtkacocaekffdgaaG15
import Derived.Laws.OwnMore
namespace Go.Proofs.Ytkacocaekffdgaa
open Go.SX

/-- the numbers l lie at p, one behind the other. -/
def IntsAt (w : World) (p : Option Addr) (l : List Nat) : Prop := ∀ i, (h : i < l.length) → ∃ a : Addr, p = some a ∧ w.cell? (Addr.add a (i * 1)) = some (.int .i64 ((l[i] : Nat) : Int))
def ints (l : List Nat) : List Value := l.map fun (n : Nat) => Value.int .i64 (n : Int)
theorem ints_len (l : List Nat) : (ints l).length = l.length := by simp [ints]
theorem intsAt_row {w : World} {p : Option Addr} {n c : Nat} {l : List Nat} (h : RowAt w 3 1 (.slice p n c) (ints l)) : IntsAt w p l := fun i hi => by
  obtain ⟨g, o, rfl, hc⟩ := h.get (j := i) (by simpa [ints] using hi)
  refine ⟨_, rfl, ?_⟩
  rw [add_mk, Nat.mul_one, hc]
  simp [ints, hi]
theorem rowInt_len {w : World} {p : Option Addr} {n c : Nat} {l : List Nat} (h : RowAt w 3 1 (.slice p n c) (ints l)) : n = l.length := by
  obtain ⟨p', n', c', e, hl, _⟩ := h.shape
  cases e
  rw [ints_len, Nat.mul_one] at hl
  exact hl.symm

/-- a loop that looks for a thing in a list. -/
theorem has_spec {w : World} {p : Option Addr} {l : List Nat} (h : IntsAt w p l) (hl : l.length ≤ maxLen) (c : Nat) (n : Int) :
    callC Try.prog 38 #[.slice p l.length c, .int .i64 n] w fun v w' => (∃ b, v = .bool b ∧ (b = true ↔ ∃ m ∈ l, (m : Int) = n)) ∧ w = w' := by
  simp only [maxLen] at hl
  refine rhas _ _ _ _ _ _ ⟨fun m w' => ∃ i : Nat, m = i ∧ i ≤ l.length ∧ w = w' ∧ ∀ x ∈ l.take i, (x : Int) ≠ n, fun m _ => (l.length - m).toNat, ⟨0, rfl, Nat.zero_le _, rfl, by simp⟩, ?_⟩
  rintro m w3 ⟨i, rfl, hi, rfl, hno⟩ d
  refine brC_intro (fun hlt => ?_) fun hge => ?_
  · have hlt : i < l.length := by have := of_decide_eq_true hlt; omega
    obtain ⟨a, rfl, ha⟩ := h i hlt
    refine ⟨by omega, by omega, ptrC_some ⟨_, by rw [Int.toNat_natCast]; exact ha, brC_intro (fun he => ?_) fun hne => ?_⟩⟩
    · exact ⟨⟨true, rfl, fun _ => ⟨l[i], List.getElem_mem hlt, by simpa using he⟩, fun _ => rfl⟩, rfl⟩
    · have hw : IntKind.wrap .i64 ((i : Int) + 1) = ((i + 1 : Nat) : Int) := Go.SX.wrap_small (by omega) (by omega)
      rw [hw]
      refine ⟨⟨i + 1, rfl, hlt, rfl, fun x hx => ?_⟩, by dsimp only; omega⟩
      rw [List.take_succ_eq_append_getElem hlt, List.mem_append, List.mem_singleton] at hx
      rcases hx with hx | rfl
      · exact hno x hx
      · simpa using hne
  · have : i = l.length := by have := of_decide_eq_false hge; omega
    subst this
    rw [List.take_length] at hno
    exact ⟨⟨false, rfl, fun h => (by cases h), fun ⟨x, hx, e⟩ => (hno x hx e).elim⟩, rfl⟩

/-- the text's number. -/
theorem number_spec {w : World} {g : Nat} {x : Nat} {p : Option Addr} {c : Nat} {ps : List ByteArray} (hc : w.cell? ⟨g, x, none⟩ = some (.slice p ps.length c)) (h : StrsAt w p ps) (hl : ps.length ≤ 1000000) (s : ByteArray) :
    callC Try.prog 37 #[.pointer (some ⟨g, x, none⟩), .string s] w fun v w' => v = .int .i64 (idxAt ps s 0) ∧ w = w' := by
  refine rnumber _ _ _ _ ⟨fun n w' => ∃ i : Nat, n = i ∧ w' = w ∧ i ≤ ps.length ∧ idxAt ps s 0 = idxAt (ps.drop i) s i, fun n _ => (ps.length - n).toNat, ⟨0, rfl, rfl, Nat.zero_le _, rfl⟩, ?_⟩
  rintro n w3 ⟨i, rfl, rfl, hi, he⟩ d
  refine ptrC_some ⟨_, _, _, hc, brC_intro (fun hlt => ?_) fun hge => ?_⟩
  · have hlt : i < ps.length := by have := of_decide_eq_true hlt; omega
    obtain ⟨a, rfl, ha⟩ := h i hlt
    have hd : ps.drop i = ps[i] :: ps.drop (i + 1) := (List.getElem_cons_drop hlt).symm
    rw [hd, idxAt_cons] at he
    refine ptrC_some ⟨_, _, _, hc, by omega, by omega, ptrC_some ⟨_, by rw [Int.toNat_natCast]; exact ha, ?_⟩⟩
    rw [beq_bytes]
    refine brC_intro (fun hs => ?_) fun hs => ?_
    · rw [if_pos (by simpa using hs)] at he
      rw [← he]; exact ⟨rfl, rfl⟩
    · rw [if_neg (by simpa using hs)] at he
      have hw : IntKind.wrap .i64 ((i : Int) + 1) = ((i + 1 : Nat) : Int) := Go.SX.wrap_small (by omega) (by omega)
      rw [hw]
      exact ⟨⟨i + 1, rfl, rfl, hlt, he⟩, by dsimp only; omega⟩
  · have : i = ps.length := by have := of_decide_eq_false hge; omega
    subst this
    rw [List.drop_length] at he
    have he : idxAt ps s 0 = -1 := he
    rw [← he]; exact ⟨rfl, rfl⟩

/-! ### Less, Sorted -/
theorem byteAt_eq {s : ByteArray} {i : Nat} (h : i < s.data.toList.length) : byteAt s i = ((s.data.toList[i]).toNat : Int) := by
  have h' : i < s.size := by simpa using h
  unfold byteAt
  rw [getElem?_pos s i h']
  simp [ByteArray.getElem_eq_getElem_data]
theorem bytesLess_nil (y : List UInt8) : Op.bytesLess [] y = decide (0 < y.length) := by cases y <;> rfl
theorem bytesLess_drop (x y : List UInt8) : ∀ i, i ≤ x.length → i ≤ y.length → (∀ j, (h1 : j < x.length) → (h2 : j < y.length) → j < i → x[j] = y[j]) → Op.bytesLess x y = Op.bytesLess (x.drop i) (y.drop i) := by
  intro i
  induction i with
  | zero => intros; simp
  | succ i ih =>
    intro hx hy h
    rw [ih (by omega) (by omega) fun j h1 h2 hj => h j h1 h2 (by omega)]
    have e1 : x.drop i = x[i] :: x.drop (i + 1) := (List.getElem_cons_drop (by omega)).symm
    have e2 : y.drop i = y[i] :: y.drop (i + 1) := (List.getElem_cons_drop (by omega)).symm
    rw [e1, e2, h i (by omega) (by omega) (by omega), Op.bytesLess]
    simp
theorem less_spec (x y : ByteArray) (w : World) (hx : x.size ≤ maxLen) : callC Try.prog 46 #[.string x, .string y] w fun v w' => v = .bool (lessB x y) ∧ Upd No w w' := by
  simp only [maxLen] at hx
  have hxl : x.data.toList.length = x.size := by simp
  have hyl : y.data.toList.length = y.size := by simp
  refine rless _ _ _ _ ⟨fun w' => Upd No w w' ∧ lessB x y = decide ((x.size : Int) < (y.size : Int)), fun w1 ⟨u, e⟩ d => ⟨by rw [e], u⟩, ?_⟩
  refine ⟨fun n w' => ∃ i : Nat, n = i ∧ i ≤ x.size ∧ i ≤ y.size ∧ Upd No w w' ∧ ∀ j, (h1 : j < x.data.toList.length) → (h2 : j < y.data.toList.length) → j < i → x.data.toList[j] = y.data.toList[j], fun n _ => (x.size - n).toNat,
    ⟨0, rfl, Nat.zero_le _, Nat.zero_le _, Upd.refl _ _, fun j _ _ h => absurd h (by omega)⟩, ?_⟩
  rintro n w6 ⟨i, rfl, hi, hi', u6, hsame⟩ d
  have hdrop := bytesLess_drop x.data.toList y.data.toList i (by omega) (by omega) hsame
  have hend : ¬ (i < x.size ∧ i < y.size) → lessB x y = decide ((x.size : Int) < (y.size : Int)) := fun h => by
    unfold lessB
    rw [hdrop]
    by_cases hxi : i < x.size
    · have : i = y.size := by omega
      rw [List.drop_of_length_le (l := y.data.toList) (by omega)]
      have : ¬ ((x.size : Int) < (y.size : Int)) := by omega
      simp only [this, decide_false]
      cases x.data.toList.drop i <;> rfl
    · rw [List.drop_of_length_le (l := x.data.toList) (by omega), bytesLess_nil, List.length_drop, hyl, decide_eq_decide]
      omega
  refine ⟨fun w' => i < x.size ∧ i < y.size ∧ Upd No w w', ?_, ?_⟩
  · rintro w9 ⟨hx1, hy1, u9⟩ d
    refine drawC_mk fun w11 u11 s11 => ⟨by omega, by omega, by omega, by omega, ?_⟩
    have u11 : Upd No w w11 := u9.trans u11 fun _ _ => id
    rw [Int.toNat_natCast, byteAt_eq (by omega), byteAt_eq (by omega)]
    have e1 : x.data.toList.drop i = x.data.toList[i] :: x.data.toList.drop (i + 1) := (List.getElem_cons_drop (by omega)).symm
    have e2 : y.data.toList.drop i = y.data.toList[i] :: y.data.toList.drop (i + 1) := (List.getElem_cons_drop (by omega)).symm
    refine brC_intro (fun hne => ?_) fun heq => ?_
    · have hne : x.data.toList[i] ≠ y.data.toList[i] := fun e => by rw [e] at hne; simp at hne
      refine drawC_mk fun w12 u12 s12 => ⟨by omega, by omega, by omega, by omega, ?_, u11.trans u12 fun _ _ => id⟩
      congr 1
      unfold lessB
      rw [hdrop, e1, e2, Op.bytesLess]
      have : (x.data.toList[i] == y.data.toList[i]) = false := by simpa using hne
      rw [this, Bool.false_and, Bool.or_false, decide_eq_decide, UInt8.lt_iff_toNat_lt]
      omega
    · have heq : x.data.toList[i] = y.data.toList[i] := by
        have : ((x.data.toList[i]).toNat : Int) = ((y.data.toList[i]).toNat : Int) := by simpa using heq
        exact UInt8.toNat_inj.1 (by omega)
      have hw : IntKind.wrap .i64 ((i : Int) + 1) = ((i + 1 : Nat) : Int) := Go.SX.wrap_small (by omega) (by omega)
      rw [hw]
      refine ⟨⟨i + 1, rfl, hx1, hy1, u11, fun j h1 h2 hj => ?_⟩, by dsimp only; omega⟩
      by_cases e : j = i
      · subst e; exact heq
      · exact hsame j h1 h2 (by omega)
  · refine brC_intro (fun h1 => brC_intro (fun h2 => ?_) fun h2 => ?_) fun h1 => ?_
    · have h1 := of_decide_eq_true h1; have h2 := of_decide_eq_true h2
      exact ⟨by omega, by omega, u6⟩
    · have h2 := of_decide_eq_false h2
      exact ⟨u6, hend (by omega)⟩
    · have h1 := of_decide_eq_false h1
      exact ⟨u6, hend (by omega)⟩

theorem ins_at (x : ByteArray) : ∀ (l : List ByteArray) (k : Nat), k ≤ l.length → (∀ j, (h : j < l.length) → j < k → lessB x l[j] = false) → (∀ h : k < l.length, lessB x l[k] = true) → ins x l = l.take k ++ x :: l.drop k
  | [], k, hk, _, _ => by
    have : k = 0 := by simpa using hk
    subst this; rfl
  | y :: l, 0, hk, _, h => by
    have := h (by simp)
    simp only [List.getElem_cons_zero] at this
    simp [ins, this]
  | y :: l, k + 1, hk, h1, h2 => by
    have h0 := h1 0 (by simp) (by omega)
    simp only [List.getElem_cons_zero] at h0
    have ih := ins_at x l k (by simpa using hk) (fun j h hj => h1 (j + 1) (by simpa using h) (by omega)) (fun h => h2 (by simpa using h))
    simp [ins, h0, ih]
theorem isort_snoc (l : List ByteArray) (x : ByteArray) : isort (l ++ [x]) = ins x (isort l) := by simp [isort]

theorem sorted_spec {w : World} {x0 : Option Addr} {l : List ByteArray} (h : StrsAt w x0 l) (hl : l.length ≤ 1000000) (hs : ∀ p ∈ l, p.size ≤ maxLen) (c : Nat) :
    callC Try.prog 43 #[.slice x0 l.length c] w fun v w' => RowAt w' 9 1 v (strs (sortB l)) ∧ Upd No w w' ∧ ∀ k, InRow v k → w.heap.size ≤ k := by
  obtain ⟨io, hi1, hi2, hi3, hi4⟩ := info_get (P := Try.prog) (e := 9) (s := 1) (b := 16) (z := .string ByteArray.empty) (by kernel_rfl)
  refine rsorted _ _ _ _ _ ⟨fun p k c n w' => ∃ i : Nat, n = i ∧ i ≤ l.length ∧ Upd No w w' ∧ RowAt w' 9 1 (.slice p k c) (strs (isort (l.take i))) ∧ ∀ b, InRow (.slice p k c) b → w.heap.size ≤ b, fun _ _ _ n _ => (l.length - n).toNat,
    ⟨0, rfl, Nat.zero_le _, Upd.refl _ _, RowAt.nil _ _ _, fun b hb => (by cases hb)⟩, ?_⟩
  rintro p2 k3 k4 n5 w6 ⟨i, rfl, hi, u6, R6, g6⟩ d
  have hk3 := rowAt_len R6
  have hlen : (isort (l.take i)).length = i := by rw [← isort_eq, length_sortB, List.length_take]; omega
  refine brC_intro (fun hlt => ?_) fun hge => ?_
  · have hlt : i < l.length := by have := of_decide_eq_true hlt; omega
    have hsn : isort (l.take (i + 1)) = ins l[i] (isort (l.take i)) := by rw [List.take_succ_eq_append_getElem hlt, isort_snoc]
    have hx := hs l[i] (List.getElem_mem hlt)
    have hAt : ∀ w', Upd No w w' → ∃ a, x0 = some a ∧ w'.cell? (Addr.add a (Int.toNat (i : Int) * 1)) = some (.string l[i]) := fun w' u => by
      rw [Int.toNat_natCast]; exact h.keep u i hlt
    generalize l[i] = x at hsn hAt hx
    generalize hO : isort (l.take i) = O at hsn R6 hlen hk3
    subst hk3
    have hO1 := StrsAt.of_row R6
    obtain ⟨_, _, _, e4, _, hk4, _⟩ := R6.shape
    cases e4
    refine ⟨fun p k c w' => Upd No w w' ∧ RowAt w' 9 1 (.slice p k c) (strs (isort (l.take (i + 1)))) ∧ ∀ b, InRow (.slice p k c) b → w.heap.size ≤ b, ?_, ?_⟩
    · rintro p k c w' ⟨u, R, g⟩ d
      have hw : IntKind.wrap .i64 ((i : Int) + 1) = ((i + 1 : Nat) : Int) := Go.SX.wrap_small (by omega) (by omega)
      rw [hw]
      exact ⟨⟨i + 1, rfl, hlt, u, R, g⟩, by dsimp only; omega⟩
    refine ⟨fun n w' => ∃ k : Nat, n = k ∧ k ≤ O.length ∧ Upd No w6 w' ∧ (∀ j, (h : j < O.length) → j < k → lessB x O[j] = false) ∧ ∀ h : k < O.length, lessB x O[k] = true, ?_, ?_⟩
    · rintro n15 w16 ⟨k, rfl, hk, u16, hno, hyes⟩ d
      have R16 := R6.upd u16 fun _ _ => id
      rw [Int.toNat_natCast, Int.toNat_natCast, Nat.sub_zero, Nat.sub_zero, subP_zero]
      have u16w : Upd No w w16 := u6.trans u16 fun _ _ => id
      refine ⟨by omega, by omega, by omega, append_slice (P := Try.prog) (e := 9) (news := strs (O.take k)) Try.underlying22 hi1 hi2 hi3 hi4 rfl (RowAt.nil w16 9 1) (n := 0) rfl _ _ _ (by omega) (by rw [strs_len, List.length_take, Nat.mul_one]; omega)
        (strsAt_news (strsAt_take (StrsAt.of_row R16) k)) strs_one (by simp only [maxLen]; omega) (by omega) fun v' w19 r19 u19 f19 => ?_⟩
      have u19 : Upd No w16 w19 := u19.mono fun x _ h => by cases h
      have g19 : ∀ b, InRow v' b → w16.heap.size ≤ b := fun b hb => (f19 b hb).elim (fun h => by cases h) id
      obtain ⟨p20, k21, k22, rfl, _⟩ := r19.shape
      rw [List.nil_append] at r19
      have hk21 := rowAt_len r19
      obtain ⟨a, rfl, ha⟩ := hAt w19 (u16w.trans u19 fun _ _ => id)
      refine ⟨_, _, _, rfl, by omega, by omega, ptrC_some ⟨_, ha, newC_mk fun w26 h26 u26 s26 => ?_⟩⟩
      refine append_row (P := Try.prog) (e := 9) (news := [.string x]) Try.underlying22 hi1 hi2 hi3 hi4 rfl (r19.upd u26 fun _ _ => id) (n := (O.take k).length) (by rw [strs_len, Nat.mul_one]) _ 1 1 (by omega) (by omega) rfl ?_ (by simp [Value.oneCell']) (by simp only [maxLen, List.length_take]; omega) (by rw [List.length_take]; omega)
        fun v' w28 r28 u28 f28 => ?_
      · intro j u hj
        match j, hj with
        | 0, hj => cases hj; exact h26.cell rfl
      have hz16 := u19.size
      have hz26 := u26.size
      have u28 : Upd No w16 w28 := (u19.trans u26 fun _ _ => id).trans u28 fun b hb h => by have := g19 b h; omega
      have g28 : ∀ b, InRow v' b → w16.heap.size ≤ b := fun b hb => (f28 b hb).elim (g19 b) fun h => by omega
      obtain ⟨p29, k30, k31, rfl, _⟩ := r28.shape
      refine ⟨_, _, _, rfl, by omega, by omega, by omega, ?_⟩
      rw [Int.toNat_natCast]
      have hcut := (R16.upd u28 fun _ _ => id).cut (lo := k) (hi := O.length) hk (Nat.le_refl _)
      rw [Nat.mul_one, Nat.mul_one, List.take_of_length_le (by rw [List.length_drop, strs_len]; omega)] at hcut
      have ed : (strs O).drop k = strs (O.drop k) := by simp [strs]
      rw [ed] at hcut
      have er : strs (O.take k) ++ [Value.string x] = strs (O.take k ++ [x]) := by simp [strs]
      rw [er] at r28
      refine append_slice (P := Try.prog) (e := 9) (news := strs (O.drop k)) Try.underlying22 hi1 hi2 hi3 hi4 rfl r28 (n := k + 1) (by rw [strs_len, List.length_append, List.length_take, List.length_singleton]; omega) _ _ _ (by omega) (by rw [strs_len, List.length_drop, Nat.mul_one])
        (rowAt_news hcut) strs_one (by simp only [maxLen]; omega) (by omega) fun v' w33 r33 u33 f33 => ?_
      have u33 : Upd No w16 w33 := u28.trans u33 fun b hb h => by have := g28 b h; omega
      have g33 : ∀ b, InRow v' b → w16.heap.size ≤ b := fun b hb => (f33 b hb).elim (g28 b) fun h => Nat.le_trans u28.size h
      obtain ⟨p34, k35, k36, rfl, _⟩ := r33.shape
      have hz := u16w.size
      refine ⟨_, _, _, rfl, u16w.trans u33 fun _ _ => id, ?_, fun b hb => Nat.le_trans hz (g33 b hb)⟩
      rw [hsn, ins_at x O k hk hno hyes]
      have e2 : strs (O.take k ++ [x]) ++ strs (O.drop k) = strs (O.take k ++ x :: O.drop k) := by simp [strs]
      rw [e2] at r33
      exact r33
    · refine ⟨fun n w' => ∃ k : Nat, n = k ∧ k ≤ O.length ∧ Upd No w6 w' ∧ (∀ j, (h : j < O.length) → j < k → lessB x O[j] = false), fun n _ => (O.length - n).toNat, ⟨0, rfl, Nat.zero_le _, Upd.refl _ _, fun j _ h => absurd h (by omega)⟩, ?_⟩
      rintro n39 w40 ⟨k, rfl, hk, u40, hno⟩ d
      refine ⟨fun w' => k < O.length ∧ Upd No w6 w' ∧ (∀ j, (h : j < O.length) → j < k + 1 → lessB x O[j] = false), ?_, drawC_mk fun w45 u45 s45 => ?_⟩
      · rintro w43 ⟨hk2, u43, hno⟩ d
        have hw : IntKind.wrap .i64 ((k : Int) + 1) = ((k + 1 : Nat) : Int) := Go.SX.wrap_small (by omega) (by omega)
        rw [hw]
        exact ⟨⟨k + 1, rfl, hk2, u43, hno⟩, by dsimp only; omega⟩
      have u45 : Upd No w6 w45 := u40.trans u45 fun _ _ => id
      refine brC_intro (fun hlt2 => ?_) fun hge2 => ?_
      · have hlt2 : k < O.length := by have := of_decide_eq_true hlt2; omega
        obtain ⟨a, rfl, ha⟩ := hAt w45 (u6.trans u45 fun _ _ => id)
        obtain ⟨b, rfl, hb⟩ := hO1.keep u45 k hlt2
        refine ⟨by omega, by omega, ptrC_some ⟨_, ha, by omega, by omega, ptrC_some ⟨_, by rw [Int.toNat_natCast]; exact hb, callC_of (less_spec x O[k] w45 hx) fun v w51 ⟨hv, u51⟩ => ⟨_, hv, ?_⟩⟩⟩⟩
        have u51 : Upd No w6 w51 := u45.trans u51 fun _ _ => id
        refine brC_intro (fun hl => ?_) fun hl => ?_
        · have hl : lessB x O[k] = false := by simpa using hl
          refine ⟨hlt2, u51, fun j h hj => ?_⟩
          by_cases e : j = k
          · subst e; exact hl
          · exact hno j h (by omega)
        · have hl : lessB x O[k] = true := by simpa using hl
          exact ⟨k, rfl, hk, u51, hno, fun _ => hl⟩
      · have hge2 := of_decide_eq_false hge2
        exact ⟨k, rfl, hk, u45, hno, fun h => absurd h (by omega)⟩
  · have : i = l.length := by have := of_decide_eq_false hge; omega
    subst this
    rw [List.take_length] at R6
    rw [isort_eq]
    exact ⟨R6, u6, g6⟩
end Go.Proofs.Ytkacocaekffdgaa
