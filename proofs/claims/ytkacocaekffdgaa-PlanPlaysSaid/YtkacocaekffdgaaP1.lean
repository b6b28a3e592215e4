/- The plan's heap: a row of numbers; its methods; heap.Push, heap.Pop. -/
import Derived.Test.YtkacocaekffdgaaG19
import Derived.Test.YtkacocaekffdgaaVp
namespace Go.Proofs.Ytkacocaekffdgaa
open Go.SX

/-! ### calls through the interface -/
set_option maxRecDepth 100000 in
theorem m_less {a x y : Value} {w : World} {K : Value → World → Prop} (h : callC Try.prog 98 #[a, x, y] w K) : methC Try.prog (.iface 87 a) "Less" #[x, y] w K := of_eq h (by kernel_rfl)
set_option maxRecDepth 100000 in
theorem m_swap {a x y : Value} {w : World} {K : Value → World → Prop} (h : callC Try.prog 101 #[a, x, y] w K) : methC Try.prog (.iface 87 a) "Swap" #[x, y] w K := of_eq h (by kernel_rfl)
set_option maxRecDepth 100000 in
theorem m_push {a x : Value} {w : World} {K : Value → World → Prop} (h : callC Try.prog 100 #[a, x] w K) : methC Try.prog (.iface 87 a) "Push" #[x] w K := of_eq h (by kernel_rfl)
set_option maxRecDepth 100000 in
theorem m_pop {a : Value} {w : World} {K : Value → World → Prop} (h : callC Try.prog 99 #[a] w K) : methC Try.prog (.iface 87 a) "Pop" #[] w K := of_eq h (by kernel_rfl)
set_option maxRecDepth 100000 in
theorem m_len {a : Value} {w : World} {K : Value → World → Prop} (h : callC Try.prog 49 #[a] w K) : methC Try.prog (.iface 87 a) "Len" #[] w K := of_eq h (by kernel_rfl)
theorem run_assert (n : Int) (w : World) : (Instr.typeAssert (.iface 3 (.int .i64 n)) 20 3 false).run Try.prog w = .ok (.int .i64 n) w := by kernel_rfl

/-! ### a row that is stored into -/
theorem rowAt_store {w : World} {e : TypeId} {p : Option Addr} {n c : Nat} {xs : List Value} (h : RowAt w e 1 (.slice p n c) xs) {i : Nat} (hi : i < xs.length) (v : Value) {K : World → Prop}
    (hK : ∀ w', RowAt w' e 1 (.slice p n c) (xs.set i v) → Upd (InRow (.slice p n c)) w w' → w'.heap.size = w.heap.size → K w') : ∃ a, p = some a ∧ stC w (Addr.add a (i * 1)) v K := by
  obtain ⟨m, hl, ⟨e0, rfl⟩ | ⟨g, o, cap, cur, e0, hg, hnc, hcm, hfit, htk⟩⟩ := h
  · simp at hl; subst hl; simp at hi
  · cases e0
    have hix : i < n := by omega
    refine ⟨_, rfl, ?_⟩
    rw [add_mk, Nat.mul_one]
    refine stC_mk hg (by omega) fun w' h' u' s' => hK w' ⟨n, by simpa using hl, .inr ⟨g, o, c, _, rfl, h', hnc, hcm, by simpa using hfit, ?_⟩⟩ (u'.mono fun x _ hx => by simp [InRow, Value.ownBlock, hx]) s'
    rw [← htk]
    refine List.ext_getElem? fun j => ?_
    rw [List.getElem?_take, List.getElem?_drop, List.getElem?_set]
    simp only [Nat.mul_one, Array.toList_setIfInBounds, List.getElem?_set, List.length_take, List.length_drop, Array.length_toList]
    by_cases hj : j < n
    · rw [if_pos hj]
      by_cases hij : i = j
      · subst hij
        rw [if_pos rfl, if_pos rfl, if_pos (by omega), if_pos (by omega)]
      · rw [if_neg (by omega), if_neg hij, List.getElem?_take, if_pos hj, List.getElem?_drop]
    · rw [if_neg hj]
      split
      · rw [if_neg (by omega)]
      · rw [List.getElem?_take, if_neg hj]

def tab (n : Nat) (a : Nat → Nat) : List Nat := (List.range n).map a
theorem tab_len (n : Nat) (a : Nat → Nat) : (tab n a).length = n := by simp [tab]
theorem tab_get {n : Nat} {a : Nat → Nat} {i : Nat} (h : i < n) : (tab n a)[i]'(by rw [tab_len]; exact h) = a i := by simp [tab]
def swp (a : Nat → Nat) (i j : Nat) : Nat → Nat := fun t => if t = i then a j else if t = j then a i else a t

/-- block k's first cell is the row v of the n numbers a. -/
structure HeapAt (w : World) (k : Nat) (v : Value) (n : Nat) (a : Nat → Nat) : Prop where
  cell : w.cell? ⟨k, 0, none⟩ = some v
  row : RowAt w 3 1 v (ints (tab n a))
  out : ¬ InRow v k
theorem heapAt_shape {w : World} {k : Nat} {v : Value} {n : Nat} {a : Nat → Nat} (h : HeapAt w k v n a) : ∃ p c, v = .slice p n c ∧ n ≤ c := by
  obtain ⟨p, m, c, rfl, hl, hc, _⟩ := h.row.shape
  rw [ints_len, tab_len, Nat.mul_one] at hl
  subst hl
  exact ⟨p, c, rfl, hc⟩
theorem heapAt_upd {w w' : World} {k : Nat} {v : Value} {n : Nat} {a : Nat → Nat} (h : HeapAt w k v n a) {S : Nat → Prop} (u : Upd S w w') (h1 : ¬ S k) (h2 : ∀ b, InRow v b → ¬ S b) : HeapAt w' k v n a :=
  ⟨cell_upd h.cell u h1, h.row.upd u h2, h.out⟩
theorem heapAt_get {w : World} {k : Nat} {p : Option Addr} {n c : Nat} {a : Nat → Nat} (h : HeapAt w k (.slice p n c) n a) {i : Nat} (hi : i < n) : ∃ ad, p = some ad ∧ w.cell? (Addr.add ad (i * 1)) = some (.int .i64 (a i)) := by
  obtain ⟨ad, e, hc⟩ := intsAt_row h.row i (by rw [tab_len]; exact hi)
  exact ⟨ad, e, by rw [hc, tab_get hi]⟩

theorem len_spec {w : World} {k : Nat} {v : Value} {n : Nat} {a : Nat → Nat} (h : HeapAt w k v n a) : callC Try.prog 49 #[.pointer (some ⟨k, 0, none⟩)] w fun r w' => r = .int .i64 (n : Int) ∧ w = w' := by
  obtain ⟨p, c, rfl, _⟩ := heapAt_shape h
  exact plslen _ _ _ (ptrC_some ⟨_, _, _, h.cell, rfl, rfl⟩)
theorem lessI_spec {w : World} {k : Nat} {v : Value} {n : Nat} {a : Nat → Nat} (h : HeapAt w k v n a) {i j : Nat} (hi : i < n) (hj : j < n) :
    callC Try.prog 98 #[.pointer (some ⟨k, 0, none⟩), .int .i64 i, .int .i64 j] w fun r w' => r = .bool (decide (a i < a j)) ∧ Upd No w w' := by
  obtain ⟨p, c, rfl, _⟩ := heapAt_shape h
  refine plless _ _ _ _ _ (drawC_mk fun w0 u0 s0 => ?_)
  have h0 := heapAt_upd h u0 id fun _ _ => id
  obtain ⟨ad, rfl, hci⟩ := heapAt_get h0 hi
  obtain ⟨_, e, hcj⟩ := heapAt_get h0 hj
  cases e
  refine ptrC_some ⟨_, _, _, h0.cell, by omega, by omega, ptrC_some ⟨_, by rw [Int.toNat_natCast]; exact hci, ptrC_some ⟨_, _, _, h0.cell, by omega, by omega, ptrC_some ⟨_, by rw [Int.toNat_natCast]; exact hcj, ?_, u0⟩⟩⟩⟩
  congr 1
  rw [decide_eq_decide]; omega

set_option maxRecDepth 100000 in
theorem lds_slice66 {w : World} {a : Addr} {p : Option Addr} {n c : Nat} (h : w.cell? a = some (.slice p n c)) : Lds Try.prog 66 w a (.slice p n c) := by
  have key : (∃ p' n' c', w.cell? a = some (.slice p' n' c') ∧ .slice p' n' c' = Value.slice p n c) = ldVC Try.prog 66 w a (fun v => v = .slice p n c) := by kernel_rfl
  obtain ⟨v, rfl, hr⟩ := semR_out (ldVC_sound (of_eq ⟨_, _, _, h, rfl⟩ key))
  exact hr w rfl
set_option maxRecDepth 100000 in
theorem lds_int {w : World} {a : Addr} {n : Int} (h : w.cell? a = some (.int .i64 n)) : Lds Try.prog 3 w a (.int .i64 n) := by
  have key : (∃ n', w.cell? a = some (.int .i64 n') ∧ Value.int .i64 n' = Value.int .i64 n) = ldVC Try.prog 3 w a (fun v => v = .int .i64 n) := by kernel_rfl
  obtain ⟨v, rfl, hr⟩ := semR_out (ldVC_sound (of_eq ⟨_, h, rfl⟩ key))
  exact hr w rfl

theorem swap_spec {w : World} {k : Nat} {v : Value} {n : Nat} {a : Nat → Nat} (h : HeapAt w k v n a) {i j : Nat} (hi : i < n) (hj : j < n) :
    callC Try.prog 101 #[.pointer (some ⟨k, 0, none⟩), .int .i64 i, .int .i64 j] w fun r w' => r = .tuple #[] ∧ HeapAt w' k v n (swp a i j) ∧ Upd (InRow v) w w' := by
  obtain ⟨p, c, rfl, _⟩ := heapAt_shape h
  refine plswap _ _ _ _ _ (drawC_mk fun w0 u0 s0 => ⟨(w0 = ·), ?_⟩)
  have h0 := heapAt_upd h u0 id fun _ _ => id
  obtain ⟨ad, rfl, hci⟩ := heapAt_get h0 hi
  obtain ⟨_, e, hcj⟩ := heapAt_get h0 hj
  cases e
  have hL : ∀ w', w0 = w' → Lds Try.prog 66 w' ⟨k, 0, none⟩ (.slice (some ad) n c) := fun w' e => e ▸ lds_slice66 h0.cell
  have hLj : ∀ w', w0 = w' → Lds Try.prog 3 w' (Addr.add ad (Int.toNat (j : Int) * 1)) (.int .i64 (a j)) := fun w' e => by subst e; exact lds_int (by rw [Int.toNat_natCast]; exact hcj)
  have hLi : ∀ w', w0 = w' → Lds Try.prog 3 w' (Addr.add ad (Int.toNat (i : Int) * 1)) (.int .i64 (a i)) := fun w' e => by subst e; exact lds_int (by rw [Int.toNat_natCast]; exact hci)
  refine ptrC_some ⟨_, _, _, h0.cell, hL, ptrC_some ⟨_, _, _, h0.cell, hL, ptrC_some ⟨_, _, _, h0.cell, hL, by omega, by omega, ptrC_some ⟨_, by rw [Int.toNat_natCast]; exact hcj, hLj,
    ptrC_some ⟨_, _, _, h0.cell, hL, by omega, by omega, ptrC_some ⟨_, by rw [Int.toNat_natCast]; exact hci, hLi, by omega, by omega, ptrC_some ⟨?_, trivial⟩⟩⟩⟩⟩⟩⟩
  rw [Int.toNat_natCast, Int.toNat_natCast]
  have step2 : ∀ w29, RowAt w29 3 1 (.slice (some ad) n c) ((ints (tab n a)).set i (.int .i64 (a j))) → Upd (InRow (.slice (some ad) n c)) w0 w29 →
      stC w29 (Addr.add ad (j * 1)) (.int .i64 (a i)) fun w31 => (Value.tuple #[] = .tuple #[] ∧ HeapAt w31 k (.slice (some ad) n c) n (swp a i j) ∧ Upd (InRow (.slice (some ad) n c)) w w31) := fun w29 r29 u29 => by
    have key : ∃ ad', some ad = some ad' ∧ stC w29 (Addr.add ad' (j * 1)) (.int .i64 (a i)) fun w31 => (Value.tuple #[] = .tuple #[] ∧ HeapAt w31 k (.slice (some ad) n c) n (swp a i j) ∧ Upd (InRow (.slice (some ad) n c)) w w31) :=
      rowAt_store r29 (i := j) (by rw [List.length_set, ints_len, tab_len]; exact hj) (.int .i64 (a i)) fun w31 r31 u31 s31 => by
        have u031 : Upd (InRow (.slice (some ad) n c)) w0 w31 := u29.trans u31 fun _ _ x => x
        refine ⟨rfl, ⟨cell_upd h0.cell u031 h.out, ?_, h.out⟩, u0.no.trans u031 fun _ _ x => x⟩
        have e2 : ((ints (tab n a)).set i (.int .i64 (a j))).set j (.int .i64 (a i)) = ints (tab n (swp a i j)) := by
          refine List.ext_getElem? fun t => ?_
          rw [List.getElem?_set, List.getElem?_set]
          simp only [List.length_set, ints_len, tab_len]
          by_cases ht : t < n
          · have : (ints (tab n (swp a i j)))[t]? = some (.int .i64 (swp a i j t)) := by simp [ints, tab, ht]
            rw [this]
            have h2 : (ints (tab n a))[t]? = some (.int .i64 (a t)) := by simp [ints, tab, ht]
            rw [h2]
            unfold swp
            by_cases h1 : j = t
            · subst h1
              rw [if_pos rfl, if_pos hj]
              by_cases h3 : j = i
              · subst h3; rw [if_pos rfl]
              · rw [if_neg h3, if_pos rfl]
            · rw [if_neg h1]
              by_cases h3 : i = t
              · subst h3; rw [if_pos rfl, if_pos hi, if_pos rfl]
              · rw [if_neg h3, if_neg (Ne.symm h3), if_neg (Ne.symm h1)]
          · have : (ints (tab n (swp a i j)))[t]? = none := List.getElem?_eq_none (by rw [ints_len, tab_len]; omega)
            rw [this, if_neg (by omega), if_neg (by omega), List.getElem?_eq_none (by rw [ints_len, tab_len]; omega)]
        rw [e2] at r31
        exact r31
    obtain ⟨_, e, hst⟩ := key
    cases e
    exact hst
  have step1 : ∃ ad', some ad = some ad' ∧ stC w0 (Addr.add ad' (i * 1)) (.int .i64 (a j)) fun w29 => idxC j n (ptrC (some ad) fun a30 => (stC w29 (Addr.add a30 (j * 1)) (.int .i64 (a i)) fun w31 => (Value.tuple #[] = .tuple #[] ∧ HeapAt w31 k (.slice (some ad) n c) n (swp a i j) ∧ Upd (InRow (.slice (some ad) n c)) w w31)) ∧ True) :=
    rowAt_store h0.row (i := i) (by rw [ints_len, tab_len]; exact hi) (.int .i64 (a j)) fun w29 r29 u29 s29 => ⟨by omega, by omega, ptrC_some ⟨step2 w29 r29 u29, trivial⟩⟩
  obtain ⟨_, e, hst⟩ := step1
  cases e
  exact hst

/-! ### heaps -/
/-- whatever number x: it is one of the n numbers a. -/
def InTab (n : Nat) (a : Nat → Nat) (x : Nat) : Prop := ∃ t, t < n ∧ a t = x
def Inj (n : Nat) (a : Nat → Nat) : Prop := ∀ s t, s < n → t < n → a s = a t → s = t
def Heap (n : Nat) (a : Nat → Nat) : Prop := ∀ t, 0 < t → t < n → a ((t - 1) / 2) ≤ a t
theorem swp_in {n : Nat} {a : Nat → Nat} {i j : Nat} (hi : i < n) (hj : j < n) (x : Nat) : InTab n (swp a i j) x ↔ InTab n a x := by
  unfold InTab swp
  constructor
  · rintro ⟨t, ht, e⟩
    by_cases h1 : t = i
    · rw [if_pos h1] at e; exact ⟨j, hj, e⟩
    · rw [if_neg h1] at e
      by_cases h2 : t = j
      · rw [if_pos h2] at e; exact ⟨i, hi, e⟩
      · rw [if_neg h2] at e; exact ⟨t, ht, e⟩
  · rintro ⟨t, ht, e⟩
    by_cases h1 : t = i
    · refine ⟨j, hj, ?_⟩
      by_cases h3 : j = i
      · rw [if_pos h3]; subst h1; subst h3; exact e
      · rw [if_neg h3, if_pos rfl]; subst h1; exact e
    · by_cases h2 : t = j
      · exact ⟨i, hi, by rw [if_pos rfl]; subst h2; exact e⟩
      · exact ⟨t, ht, by rw [if_neg h1, if_neg h2]; exact e⟩
theorem swp_inj {n : Nat} {a : Nat → Nat} (h : Inj n a) {i j : Nat} (hi : i < n) (hj : j < n) : Inj n (swp a i j) := by
  intro s t hs ht e
  unfold swp at e
  by_cases h1 : s = i
  · rw [if_pos h1] at e
    by_cases h2 : t = i
    · omega
    · rw [if_neg h2] at e
      by_cases h3 : t = j
      · rw [if_pos h3] at e
        have := h _ _ hj hi e; omega
      · rw [if_neg h3] at e
        have := h _ _ hj ht e; omega
  · rw [if_neg h1] at e
    by_cases h2 : s = j
    · rw [if_pos h2] at e
      by_cases h3 : t = i
      · rw [if_pos h3] at e
        have := h _ _ hi hj e; omega
      · rw [if_neg h3] at e
        by_cases h4 : t = j
        · omega
        · rw [if_neg h4] at e
          have := h _ _ hi ht e; omega
    · rw [if_neg h2] at e
      by_cases h3 : t = i
      · rw [if_pos h3] at e
        have := h _ _ hs hj e; omega
      · rw [if_neg h3] at e
        by_cases h4 : t = j
        · rw [if_pos h4] at e
          have := h _ _ hs hi e; omega
        · rw [if_neg h4] at e
          exact h _ _ hs ht e
theorem heap_least {n : Nat} {a : Nat → Nat} (h : Heap n a) : ∀ t, t < n → a 0 ≤ a t := by
  intro t
  induction t using Nat.strongRecOn with
  | _ t ih =>
    intro ht
    rcases Nat.eq_zero_or_pos t with rfl | hp
    · exact Nat.le_refl _
    · exact Nat.le_trans (ih ((t - 1) / 2) (by omega) (by omega)) (h t hp ht)

/-- a heap but at j, which may be too small for its place. -/
structure HeapUp (n : Nat) (a : Nat → Nat) (j : Nat) : Prop where
  other : ∀ t, 0 < t → t < n → t ≠ j → a ((t - 1) / 2) ≤ a t
  below : ∀ t, 0 < t → t < n → (t - 1) / 2 = j → 0 < j → a ((j - 1) / 2) ≤ a t
theorem heapUp_swap {n : Nat} {a : Nat → Nat} {j : Nat} (h : HeapUp n a j) (hj : j < n) (h0 : 0 < j) (hlt : a j < a ((j - 1) / 2)) : HeapUp n (swp a ((j - 1) / 2) j) ((j - 1) / 2) := by
  have hne : (j - 1) / 2 ≠ j := by omega
  refine ⟨fun t ht0 ht hti => ?_, fun t ht0 ht hti hi0 => ?_⟩
  · unfold swp
    rw [if_neg hti]
    by_cases htj : t = j
    · subst htj
      rw [if_pos rfl, if_pos rfl]; omega
    · rw [if_neg htj]
      by_cases h1 : (t - 1) / 2 = (j - 1) / 2
      · rw [if_pos h1]
        have := h.other t ht0 ht htj
        rw [h1] at this; omega
      · rw [if_neg h1]
        by_cases h2 : (t - 1) / 2 = j
        · rw [if_pos h2]
          exact h.below t ht0 ht h2 h0
        · rw [if_neg h2]
          exact h.other t ht0 ht htj
  · unfold swp
    have h3 : ((j - 1) / 2 - 1) / 2 ≠ (j - 1) / 2 := by omega
    have h4 : ((j - 1) / 2 - 1) / 2 ≠ j := by omega
    rw [if_neg h3, if_neg h4]
    have h5 := h.other ((j - 1) / 2) hi0 (by omega) hne
    by_cases h1 : t = (j - 1) / 2
    · omega
    · rw [if_neg h1]
      by_cases h2 : t = j
      · rw [if_pos h2]; exact h5
      · rw [if_neg h2]
        have := h.other t ht0 ht h2
        rw [hti] at this; omega

set_option maxRecDepth 20000 in
theorem up_spec {w : World} {k : Nat} {v : Value} {n : Nat} {a : Nat → Nat} (h : HeapAt w k v n a) (hn : n ≤ 1000000) {j : Nat} (hj : j < n) (hu : HeapUp n a j) (hi : Inj n a) :
    callC Try.prog 60 #[.iface 87 (.pointer (some ⟨k, 0, none⟩)), .int .i64 j] w fun r w' => r = .tuple #[] ∧ ∃ a', HeapAt w' k v n a' ∧ Heap n a' ∧ Inj n a' ∧ (∀ x, InTab n a' x ↔ InTab n a x) ∧ Upd (InRow v) w w' := by
  refine hup _ _ _ _ ⟨fun m w' => ∃ (t : Nat) (a' : Nat → Nat), m = t ∧ t < n ∧ HeapAt w' k v n a' ∧ HeapUp n a' t ∧ Inj n a' ∧ (∀ x, InTab n a' x ↔ InTab n a x) ∧ Upd (InRow v) w w', fun m _ => m.toNat,
    ⟨j, a, rfl, hj, h, hu, hi, fun _ => Iff.rfl, Upd.refl _ _⟩, ?_⟩
  rintro n2 w3 ⟨t, a', rfl, ht, h3, hu3, hi3, hin3, u3⟩ d
  have ew : IntKind.wrap .i64 ((t : Int) - 1) = (t : Int) - 1 := Go.SX.wrap_small (by omega) (by omega)
  rcases Nat.eq_zero_or_pos t with rfl | hpos
  · have e2 : IntKind.wrap .i64 (Int.tdiv (IntKind.wrap .i64 (((0 : Nat) : Int) - 1)) 2) = ((0 : Nat) : Int) := by decide +kernel
    rw [e2]
    refine ⟨fun _ => False, fun _ h => h.elim, brC_tt (by simp) ⟨rfl, a', h3, fun s hs hsn => hu3.other s hs hsn (by omega), hi3, hin3, u3⟩⟩
  · have e2 : IntKind.wrap .i64 (Int.tdiv (IntKind.wrap .i64 ((t : Int) - 1)) 2) = (((t - 1) / 2 : Nat) : Int) := by
      rw [ew]
      have : Int.tdiv ((t : Int) - 1) 2 = (((t - 1) / 2 : Nat) : Int) := by
        have : (t : Int) - 1 = ((t - 1 : Nat) : Int) := by omega
        rw [this]; exact (Int.ofNat_tdiv (t - 1) 2).symm
      rw [this, Go.SX.wrap_small (by omega) (by omega)]
    rw [e2]
    refine ⟨fun w' => a' t < a' ((t - 1) / 2) ∧ HeapAt w' k v n a' ∧ Upd (InRow v) w w', ?_, brC_ff (by simp; omega) ?_⟩
    · rintro w6 ⟨hlt, h6, u6⟩ d
      refine m_swap (callC_of (swap_spec h6 (by omega) ht) fun r w9 ⟨hr, h9, u9⟩ => ⟨hr, ⟨(t - 1) / 2, _, rfl, by omega, h9, heapUp_swap hu3 ht hpos hlt, swp_inj hi3 (by omega) ht, fun x => (swp_in (by omega) ht x).trans (hin3 x), u6.trans u9 fun _ _ x => x⟩, ?_⟩)
      dsimp only; omega
    · refine m_less (callC_of (lessI_spec h3 ht (by omega)) fun r w11 ⟨hr, u11⟩ => ⟨_, hr, ?_⟩)
      have h11 := heapAt_upd h3 u11 id fun _ _ => id
      have u11 : Upd (InRow v) w w11 := u3.trans u11.no fun _ _ x => x
      refine brC_intro (fun hnl => ?_) fun hl => ?_
      · have hnl : ¬ a' t < a' ((t - 1) / 2) := by simpa using hnl
        refine ⟨rfl, a', h11, fun s hs hsn => ?_, hi3, hin3, u11⟩
        by_cases e : s = t
        · subst e; omega
        · exact hu3.other s hs hsn e
      · exact ⟨by simpa using hl, h11, u11⟩

/-- a heap of n, but below i. -/
structure HeapDown (n : Nat) (a : Nat → Nat) (i : Nat) : Prop where
  other : ∀ t, 0 < t → t < n → (t - 1) / 2 ≠ i → a ((t - 1) / 2) ≤ a t
  above : ∀ t, 0 < t → t < n → (t - 1) / 2 = i → 0 < i → a ((i - 1) / 2) ≤ a t
theorem heapDown_swap {n : Nat} {a : Nat → Nat} {i j : Nat} (h : HeapDown n a i) (hj : j < n) (hp : (j - 1) / 2 = i) (h0 : 0 < j) (hlt : a j < a i) (hmin : ∀ t, 0 < t → t < n → (t - 1) / 2 = i → a j ≤ a t) : HeapDown n (swp a i j) j := by
  have hij : i < j := by omega
  refine ⟨fun t ht0 ht htj => ?_, fun t ht0 ht htj _ => ?_⟩
  · unfold swp
    by_cases h1 : (t - 1) / 2 = i
    · rw [if_pos h1]
      have hti : t ≠ i := by omega
      rw [if_neg hti]
      by_cases h2 : t = j
      · rw [if_pos h2]; omega
      · rw [if_neg h2]; exact hmin t ht0 ht h1
    · rw [if_neg h1, if_neg htj]
      by_cases h2 : t = i
      · subst h2
        rw [if_pos rfl]
        exact h.above j h0 hj hp ht0
      · rw [if_neg h2]
        by_cases h3 : t = j
        · exact (h1 (by rw [h3]; exact hp)).elim
        · rw [if_neg h3]; exact h.other t ht0 ht h1
  · unfold swp
    rw [if_pos hp, if_neg (by omega), if_neg (by omega)]
    have := h.other t ht0 ht (by omega)
    rw [htj] at this; exact this

set_option maxRecDepth 20000 in
theorem down_spec {w : World} {k : Nat} {v : Value} {m n : Nat} {a : Nat → Nat} (h : HeapAt w k v m a) (hn : m ≤ 1000000) (hnm : n ≤ m) (hd : HeapDown n a 0) (hi : Inj m a) :
    callC Try.prog 56 #[.iface 87 (.pointer (some ⟨k, 0, none⟩)), .int .i64 0, .int .i64 n] w fun r w' => ∃ b, r = .bool b ∧ ∃ a', HeapAt w' k v m a' ∧ Heap n a' ∧ Inj m a' ∧ (∀ x, InTab n a' x ↔ InTab n a x) ∧ (∀ t, n ≤ t → a' t = a t) ∧ Upd (InRow v) w w' := by
  refine hdown _ _ _ _ _ ⟨fun _ w' => ∃ a', HeapAt w' k v m a' ∧ Heap n a' ∧ Inj m a' ∧ (∀ x, InTab n a' x ↔ InTab n a x) ∧ (∀ t, n ≤ t → a' t = a t) ∧ Upd (InRow v) w w', fun n1 w2 h d => ⟨_, rfl, h⟩, ?_⟩
  refine ⟨fun q w' => ∃ (t : Nat) (a' : Nat → Nat), q = t ∧ (t < n ∨ t = 0) ∧ HeapAt w' k v m a' ∧ HeapDown n a' t ∧ Inj m a' ∧ (∀ x, InTab n a' x ↔ InTab n a x) ∧ (∀ t, n ≤ t → a' t = a t) ∧ Upd (InRow v) w w', fun q _ => (n - q).toNat,
    ⟨0, a, rfl, .inr rfl, h, hd, hi, fun _ => Iff.rfl, fun _ _ => rfl, Upd.refl _ _⟩, ?_⟩
  rintro n6 w7 ⟨t, a', rfl, ht, h7, hd7, hi7, hin7, hk7, u7⟩ d
  have ht2 : t ≤ 1000000 := by omega
  have e1 : IntKind.wrap .i64 (IntKind.wrap .i64 (2 * (t : Int)) + 1) = ((2 * t + 1 : Nat) : Int) := by
    rw [Go.SX.wrap_small (x := 2 * (t : Int)) (by omega) (by omega), Go.SX.wrap_small (by omega) (by omega)]; omega
  have e2 : IntKind.wrap .i64 (((2 * t + 1 : Nat) : Int) + 1) = ((2 * t + 2 : Nat) : Int) := by
    rw [Go.SX.wrap_small (by omega) (by omega)]; omega
  simp only [e1, e2]
  have hstop : (∀ s, 0 < s → s < n → (s - 1) / 2 = t → a' t ≤ a' s) → Heap n a' := fun hx s hs hsn => by
    by_cases e : (s - 1) / 2 = t
    · rw [e]; exact hx s hs hsn e
    · exact hd7.other s hs hsn e
  refine ⟨fun w' => 2 * t + 1 < n ∧ w7 = w', ?_, brC_intro (fun hge => ?_) fun hlt => ?_⟩
  · rintro w10 ⟨hlt, rfl⟩ d
    refine ⟨fun q w' => ∃ j : Nat, q = j ∧ j < n ∧ (j - 1) / 2 = t ∧ 0 < j ∧ (∀ s, 0 < s → s < n → (s - 1) / 2 = t → a' j ≤ a' s) ∧ HeapAt w' k v m a' ∧ Upd (InRow v) w w', ?_, ?_⟩
    · rintro n13 w14 ⟨j, rfl, hj, hjt, hj0, hmin, h14, u14⟩ d
      refine m_less (callC_of (lessI_spec h14 (i := j) (j := t) (by omega) (by omega)) fun r w17 ⟨hr, u17⟩ => ⟨_, hr, ?_⟩)
      have h17 := heapAt_upd h14 u17 id fun _ _ => id
      have u17 : Upd (InRow v) w w17 := u14.trans u17.no fun _ _ x => x
      refine brC_intro (fun hnl => ?_) fun hl => ?_
      · have hnl : ¬ a' j < a' t := by simpa using hnl
        exact ⟨a', h17, hstop fun s h1 h2 h3 => by have := hmin s h1 h2 h3; omega, hi7, hin7, hk7, u17⟩
      · have hl : a' j < a' t := by simpa using hl
        refine m_swap (callC_of (swap_spec h17 (i := t) (j := j) (by omega) (by omega)) fun r w20 ⟨hr, h20, u20⟩ => ⟨hr, ⟨j, _, rfl, .inl hj, h20, heapDown_swap hd7 hj hjt hj0 hl hmin, swp_inj hi7 (by omega) (by omega), fun x => (swp_in (by omega) hj x).trans (hin7 x), fun s hs => ?_, u17.trans u20 fun _ _ x => x⟩, ?_⟩)
        · unfold swp; rw [if_neg (by omega), if_neg (by omega)]; exact hk7 s hs
        · omega
    · have hch : ∀ s, 0 < s → (s - 1) / 2 = t → s = 2 * t + 1 ∨ s = 2 * t + 2 := fun s h1 h2 => by omega
      refine ⟨fun b w' => (b = true → 2 * t + 2 < n ∧ a' (2 * t + 2) < a' (2 * t + 1)) ∧ (b = false → 2 * t + 2 < n → a' (2 * t + 1) ≤ a' (2 * t + 2)) ∧ HeapAt w' k v m a' ∧ Upd (InRow v) w w', ?_, ?_⟩
      · rintro b22 w23 ⟨hb1, hb2, h23, u23⟩ d
        refine brC_intro (fun hbt => ?_) fun hbf => ?_
        · obtain ⟨h1, h2⟩ := hb1 hbt
          refine ⟨2 * t + 2, rfl, h1, by omega, by omega, fun s hs hsn hst => ?_, h23, u23⟩
          rcases hch s hs hst with rfl | rfl
          · omega
          · exact Nat.le_refl _
        · refine ⟨2 * t + 1, rfl, hlt, by omega, by omega, fun s hs hsn hst => ?_, h23, u23⟩
          rcases hch s hs hst with rfl | rfl
          · exact Nat.le_refl _
          · exact hb2 hbf hsn
      · refine brC_intro (fun h2 => ?_) fun h2 => ?_
        · have h2 : 2 * t + 2 < n := by have := of_decide_eq_true h2; omega
          refine m_less (callC_of (lessI_spec h7 (i := 2 * t + 2) (j := 2 * t + 1) (by omega) (by omega)) fun r w26 ⟨hr, u26⟩ => ⟨_, hr, fun hb => ⟨h2, by simpa using hb⟩, fun hb _ => ?_, heapAt_upd h7 u26 id fun _ _ => id, u7.trans u26.no fun _ _ x => x⟩)
          have : ¬ a' (2 * t + 2) < a' (2 * t + 1) := by simpa using hb
          omega
        · have h2 : ¬ 2 * t + 2 < n := by have := of_decide_eq_false h2; omega
          exact ⟨fun h => (by cases h), fun _ h => (h2 h).elim, h7, u7⟩
  · have hge : n ≤ 2 * t + 1 := by have := of_decide_eq_true hge; omega
    exact ⟨a', h7, hstop fun s h1 h2 h3 => by omega, hi7, hin7, hk7, u7⟩
  · have hlt : 2 * t + 1 < n := by have := of_decide_eq_false hlt; omega
    exact brC_ff (by simp; omega) ⟨hlt, rfl⟩

/-! ### push, pop -/
/-- what the heap is behind a push or a pop. -/
structure HeapNew (w w' : World) (k : Nat) (v v' : Value) (n' : Nat) (a' : Nat → Nat) : Prop where
  at_ : HeapAt w' k v' n' a'
  heap : Heap n' a'
  inj : Inj n' a'
  row : ∀ b, InRow v' b → InRow v b ∨ w.heap.size ≤ b
  upd : Upd (fun b => b = k ∨ InRow v b) w w'

set_option maxRecDepth 20000 in
theorem push_spec {w : World} {k : Nat} {v : Value} {n : Nat} {a : Nat → Nat} {cs : List Value} {ty : TypeId} (hB : Blk w k (v :: cs).toArray ty) (h : HeapAt w k v n a) (hn : n ≤ 999999) (hh : Heap n a) (hi : Inj n a) {x : Nat} (hx : ¬ InTab n a x) :
    callC Try.prog 55 #[.iface 87 (.pointer (some ⟨k, 0, none⟩)), .iface 3 (.int .i64 x)] w fun r w' => r = .tuple #[] ∧ ∃ v' a', HeapNew w w' k v v' (n + 1) a' ∧ Blk w' k (v' :: cs).toArray ty ∧ ∀ y, InTab (n + 1) a' y ↔ InTab n a y ∨ y = x := by
  obtain ⟨io2, hj1, hj2, hj3, hj4⟩ := info_get (P := Try.prog) (e := 3) (s := 1) (b := 8) (z := .int .i64 0) (by kernel_rfl)
  have hk := hB.lt
  refine hpush _ _ _ _ (m_push ?_)
  obtain ⟨p, c, rfl, _⟩ := heapAt_shape h
  refine plpush _ _ _ _ (drawC_mk fun w0 u0 s0 => ⟨fun w' => w'.cell? ⟨k, 0, none⟩ = some (.slice p n c), ?_⟩)
  have h0 := heapAt_upd h u0 id fun _ _ => id
  refine ptrC_some ⟨_, _, _, h0.cell, fun w' hw => lds_slice66 hw, ⟨_, _, run_assert x w0, _, rfl, h0.cell, ?_, trivial⟩, trivial⟩
  refine newC_mk fun w11 h11 u11 s11 => ?_
  have h1 := heapAt_upd h0 u11 id fun _ _ => id
  refine ⟨h1.cell, ?_, trivial⟩
  refine append_row (P := Try.prog) (e := 3) (news := [.int .i64 x]) Try.underlying66 hj1 hj2 hj3 hj4 rfl h1.row (n := n) (by rw [ints_len, tab_len, Nat.mul_one]) _ 1 1 (by omega) (by omega) rfl ?_ (by simp [Value.oneCell']) (by simp only [maxLen]; omega) (by omega)
    fun v' w13 r13 u13 f13 => ?_
  · intro j u hj
    match j, hj with
    | 0, hj => cases hj; exact h11.cell rfl
  have u13 : Upd (InRow (.slice p n c)) w11 w13 := u13
  have hz0 := u0.size
  have hz1 := u11.size
  have B13 := ((hB.upd u0 id).upd u11 id).upd u13 h.out
  obtain ⟨p14, n14, c14, rfl, hl14, _⟩ := r13.shape
  have hout : ¬ InRow (.slice p14 n14 c14) k := fun hb => (f13 k hb).elim h.out fun h => by omega
  refine ⟨_, _, _, rfl, ptrC_some ⟨stC_mk B13 (by simp) fun w18 h18 u18 s18 => ?_, trivial⟩⟩
  have hB18 : Blk w18 k (.slice p14 n14 c14 :: cs).toArray ty := by
    have : (Value.slice p n c :: cs).toArray.setIfInBounds 0 (.slice p14 n14 c14) = (.slice p14 n14 c14 :: cs).toArray := by simp
    rw [← this]; exact h18
  have hext : ints (tab n a) ++ [Value.int .i64 x] = ints (tab (n + 1) fun t => if t = n then x else a t) := by
    have : tab (n + 1) (fun t => if t = n then x else a t) = tab n a ++ [x] := by
      unfold tab
      rw [List.range_succ, List.map_append]
      congr 1
      · refine List.map_congr_left fun t ht => ?_
        have : t < n := by simpa using ht
        rw [if_neg (by omega)]
      · simp
    rw [this]; simp [ints]
  rw [hext] at r13
  generalize hb' : (fun t => if t = n then x else a t) = b at r13
  have hb : ∀ t, b t = if t = n then x else a t := fun t => by rw [← hb']
  have h18 : HeapAt w18 k (.slice p14 n14 c14) (n + 1) b := ⟨hB18.cell rfl, r13.upd u18 fun x hx e => by subst e; exact hout hx, hout⟩
  have u018 : Upd (fun b => b = k ∨ InRow (.slice p n c) b) w w18 := ((u0.no.trans u11.no fun _ _ x => x).trans u13 fun _ _ h => .inr h).trans u18 fun _ _ e => .inl e
  have hinj : Inj (n + 1) b := fun s t hs ht e => by
    rw [hb, hb] at e
    by_cases h1 : s = n
    · by_cases h2 : t = n
      · omega
      · rw [if_pos h1, if_neg h2] at e; exact (hx ⟨t, by omega, e.symm⟩).elim
    · by_cases h2 : t = n
      · rw [if_neg h1, if_pos h2] at e; exact (hx ⟨s, by omega, e⟩).elim
      · rw [if_neg h1, if_neg h2] at e; exact hi s t (by omega) (by omega) e
  have hup' : HeapUp (n + 1) b n := ⟨fun t h1 h2 h3 => by rw [hb, hb, if_neg h3, if_neg (by omega)]; exact hh t h1 (by omega), fun t h1 h2 h3 => by omega⟩
  refine ⟨rfl, m_len (callC_of (len_spec h18) fun r w3 ⟨hr, e⟩ => ⟨_, hr, ?_⟩)⟩
  subst e
  have ew : IntKind.wrap .i64 (((n + 1 : Nat) : Int) - 1) = (n : Int) := by rw [Go.SX.wrap_small (by omega) (by omega)]; omega
  rw [ew]
  refine callC_of (up_spec h18 (by omega) (by omega) hup' hinj) fun r w6 ⟨hr, a', h6, hh6, hi6, hin6, u6⟩ => ⟨hr, rfl, _, a', ⟨h6, hh6, hi6, fun b hb => (f13 b hb).elim .inl fun h => .inr (by omega), ?_⟩, hB18.upd u6 hout, fun y => ?_⟩
  · refine u018.trans u6 fun b hbw hb => ?_
    rcases f13 b hb with h | h
    · exact .inr h
    · omega
  · rw [hin6]
    unfold InTab
    constructor
    · rintro ⟨t, ht, e⟩
      rw [hb] at e
      by_cases h1 : t = n
      · rw [if_pos h1] at e; exact .inr e.symm
      · rw [if_neg h1] at e; exact .inl ⟨t, by omega, e⟩
    · rintro (⟨t, ht, e⟩ | e)
      · exact ⟨t, by omega, by rw [hb, if_neg (by omega)]; exact e⟩
      · exact ⟨n, by omega, by rw [hb, if_pos rfl]; exact e.symm⟩

set_option maxRecDepth 20000 in
theorem pop_spec {w : World} {k : Nat} {v : Value} {n : Nat} {a : Nat → Nat} {cs : List Value} {ty : TypeId} (hB : Blk w k (v :: cs).toArray ty) (h : HeapAt w k v (n + 1) a) (hn : n ≤ 999999) (hh : Heap (n + 1) a) (hi : Inj (n + 1) a) :
    callC Try.prog 50 #[.iface 87 (.pointer (some ⟨k, 0, none⟩))] w fun r w' => r = .iface 3 (.int .i64 (a 0)) ∧ ∃ v' a', HeapNew w w' k v v' n a' ∧ Blk w' k (v' :: cs).toArray ty ∧ ∀ y, InTab n a' y ↔ InTab (n + 1) a y ∧ y ≠ a 0 := by
  refine hpop _ _ _ (m_len (callC_of (len_spec h) fun r w1 ⟨hr, e⟩ => ⟨_, hr, ?_⟩))
  subst e
  have ew : IntKind.wrap .i64 (((n + 1 : Nat) : Int) - 1) = (n : Int) := by rw [Go.SX.wrap_small (by omega) (by omega)]; omega
  rw [ew]
  refine m_swap (callC_of (swap_spec h (i := 0) (j := n) (by omega) (by omega)) fun r w4 ⟨hr, h4, u4⟩ => ⟨hr, ?_⟩)
  have hi4 := swp_inj hi (i := 0) (j := n) (by omega) (by omega)
  have hin4 := fun x => swp_in (n := n + 1) (a := a) (i := 0) (j := n) (by omega) (by omega) x
  have hd4 : HeapDown n (swp a 0 n) 0 := ⟨fun t h1 h2 h3 => by
    unfold swp
    rw [if_neg h3, if_neg (by omega), if_neg (by omega), if_neg (by omega)]
    exact hh t h1 (by omega), fun t h1 h2 h3 h4 => absurd h4 (by omega)⟩
  have hlast : swp a 0 n n = a 0 := by
    unfold swp
    by_cases e : n = 0
    · rw [if_pos e, e]
    · rw [if_neg e, if_pos rfl]
  refine callC_of (down_spec h4 (by omega) (n := n) (by omega) hd4 hi4) fun r w6 ⟨b, hr, a', h6, hh6, hi6, hin6, hk6, u6⟩ => ⟨b, hr, m_pop ?_⟩
  have hB6 := (hB.upd u4 h.out).upd u6 h.out
  obtain ⟨p, c, rfl, hc⟩ := heapAt_shape h6
  obtain ⟨ad, rfl, hcell⟩ := heapAt_get h6 (i := n) (by omega)
  refine plpop _ _ _ (ptrC_some ⟨_, _, _, h6.cell, ptrC_some ⟨_, _, _, h6.cell, ?_⟩⟩)
  rw [ew]
  refine ⟨by omega, by omega, ptrC_some ⟨_, by rw [Int.toNat_natCast]; exact hcell, ptrC_some ⟨_, _, _, h6.cell, by omega, by omega, by omega, ptrC_some ?_⟩⟩⟩
  rw [subP_zero, Int.toNat_natCast, Nat.sub_zero, Nat.sub_zero]
  refine stC_mk hB6 (by simp) fun w15 h15 u15 s15 => ?_
  have hB15 : Blk w15 k (.slice (some ad) n c :: cs).toArray ty := by
    have : (Value.slice (some ad) (n + 1) c :: cs).toArray.setIfInBounds 0 (.slice (some ad) n c) = (.slice (some ad) n c :: cs).toArray := by simp
    rw [← this]; exact h15
  have hcut := h6.row.cut (lo := 0) (hi := n) (by omega) (by omega)
  rw [Nat.zero_mul, List.drop_zero, subP_zero, Nat.sub_zero, Nat.sub_zero, Nat.mul_one] at hcut
  have htk : (ints (tab (n + 1) a')).take n = ints (tab n a') := by
    unfold ints tab
    rw [List.range_succ, List.map_append, List.map_append, List.take_left' (by simp)]
  rw [htk] at hcut
  have hrow : ∀ b, InRow (.slice (some ad) n c) b ↔ InRow (.slice (some ad) (n + 1) c) b := fun b => Iff.rfl
  have ha0 : a' n = a 0 := by rw [hk6 n (Nat.le_refl _), hlast]
  refine ⟨_, rfl, by rw [ha0], _, a', ⟨⟨hB15.cell rfl, hcut.upd u15 fun b hb e => by subst e; exact h6.out hb, h6.out⟩, hh6, fun s t hs ht e => hi6 s t (by omega) (by omega) e, fun b hb => .inl hb, ?_⟩, hB15, fun y => ?_⟩
  · exact ((u4.mono fun _ _ h => .inr h).trans u6 fun _ _ h => .inr h).trans u15 fun _ _ e => .inl e
  · rw [hin6]
    unfold InTab
    constructor
    · rintro ⟨t, ht, e⟩
      refine ⟨(hin4 y).1 ⟨t, by omega, e⟩, fun he => ?_⟩
      rw [← hlast] at he
      have := hi4 t n (by omega) (by omega) (e.trans he)
      omega
    · rintro ⟨hy, hne⟩
      obtain ⟨t, ht, e⟩ := (hin4 y).2 hy
      refine ⟨t, ?_, e⟩
      by_cases htn : t = n
      · subst htn
        rw [hlast] at e
        exact (hne e.symm).elim
      · omega
end Go.Proofs.Ytkacocaekffdgaa
