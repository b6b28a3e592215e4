/- GraphRings: rings of paths; the walk. -/
import Derived.Test.YtkacocaekffdgaaG15
import Derived.Laws.BytesString
namespace Go.Proofs.Ytkacocaekffdgaa
open Go.SX

/-! ### names -/
def digits (i : Nat) : ByteArray := (ByteArray.empty.push (UInt8.ofNat (48 + i / 10))).push (UInt8.ofNat (48 + i % 10))
def nameB (i : Nat) : ByteArray := ByteArray.mk #[112] ++ digits i
def digB (s : ByteArray) : Nat := ((s.data.getD 1 0).toNat - 48) * 10 + ((s.data.getD 2 0).toNat - 48)
theorem digB_name : ∀ i, i < 100 → digB (nameB i) = i := by decide +kernel
theorem nameB_inj {i j : Nat} (hi : i < 100) (hj : j < 100) (h : nameB i = nameB j) : i = j := by
  rw [← digB_name i hi, ← digB_name j hj, h]
theorem nameB_size : ∀ i, i < 100 → (nameB i).size = 3 ∧ (digits i).size = 2 := by decide +kernel
theorem dig1 : ∀ i, i < 100 → IntKind.wrap .u8 (IntKind.wrap .i64 (48 + IntKind.wrap .i64 (Int.tdiv ((i : Nat) : Int) 10))) = ((48 + i / 10 : Nat) : Int) := by decide +kernel
theorem dig2 : ∀ i, i < 100 → IntKind.wrap .u8 (IntKind.wrap .i64 (48 + Int.tmod ((i : Nat) : Int) 10)) = ((48 + i % 10 : Nat) : Int) := by decide +kernel

theorem name_spec (i : Nat) (hi : i < 100) (w : World) : callC Try.prog 23 #[.int .i64 i] w fun v w' => v = .string (nameB i) ∧ Upd No w w' := by
  refine lname _ _ _ (newC_mk fun w1 h1 u1 s1 => ⟨.string (digits i), w1, ?_, digits i, rfl, ?_, rfl, u1⟩)
  · rw [dig1 i hi, dig2 i hi] at h1
    rw [run_convert_bytes_string (e := 5) w1 76 9 _ 2 2 Try.underlying76 Try.underlying5 Try.underlying9]
    have hl : (loadCells ⟨w.heap.size, 0, none⟩ 2).run Try.prog w1 = .ok ([((48 + i / 10 : Nat) : Int), ((48 + i % 10 : Nat) : Int)].map (Value.int .u8)).toArray w1 := by
      refine run_loadCells_list (P := Try.prog) w1 ⟨w.heap.size, 0, none⟩ ([((48 + i / 10 : Nat) : Int), ((48 + i % 10 : Nat) : Int)].map (Value.int .u8)) fun j v hj => ?_
      match j, hj with
      | 0, hj => rw [add_mk]; rw [← hj]; exact h1.cell rfl
      | 1, hj => rw [add_mk]; rw [← hj]; exact h1.cell rfl
    rw [run_bytesToString w1 _ 2 2 _ hl]
    rfl
  · rw [(nameB_size i hi).2]; decide

/-! ### the graph -/
def nx (a n i : Nat) : List ByteArray := if i = a + n - 1 then [nameB (i + 1), nameB a] else [nameB (i + 1)]
def ringP (all : Nat) : List ByteArray := (List.range all).map nameB
def ringI (a n all : Nat) : List (List ByteArray) := (List.range all).map (nx a n)
theorem ringP_mem {all : Nat} {x : ByteArray} : x ∈ ringP all ↔ ∃ j, j < all ∧ x = nameB j := by
  unfold ringP
  rw [List.mem_map]
  exact ⟨fun ⟨j, hj, e⟩ => ⟨j, by simpa using hj, e.symm⟩, fun ⟨j, hj, e⟩ => ⟨j, by simpa using hj, e.symm⟩⟩
theorem ringP_nodup {all : Nat} (h : all ≤ 99) : (ringP all).Nodup := by
  unfold ringP
  rw [List.nodup_iff_pairwise_ne, List.pairwise_map]
  refine List.pairwise_lt_range.imp_of_mem fun {i j} hi hj hij e => ?_
  have hi : i < all := by simpa using hi
  have hj : j < all := by simpa using hj
  have := nameB_inj (by omega) (by omega) e
  omega
section
variable {a n b all : Nat} (hn : 0 < n) (hall : all = a + n + b) (h99 : all ≤ 98)
include hn hall h99
theorem ring_edge {i : Nat} (hi : i < all) (x : ByteArray) : x ∈ adjOf (ringP all) (ringI a n all) (nameB i) ↔ ∃ j, j < all ∧ x = nameB j ∧ (j = i + 1 ∨ (i = a + n - 1 ∧ j = a)) := by
  have e := adjOf_at (ps := ringP all) (imps := ringI a n all) (ringP_nodup (by omega)) (i := i) (by simpa [ringP] using hi) (by simpa [ringI] using hi)
  have e1 : (ringP all)[i]'(by simpa [ringP] using hi) = nameB i := by simp [ringP]
  have e2 : (ringI a n all)[i]'(by simpa [ringI] using hi) = nx a n i := by simp [ringI]
  rw [e1, e2] at e
  rw [e, (uniq_inv _ _).2, ringP_mem]
  unfold nx
  split
  · rename_i hc
    simp only [List.mem_cons, List.not_mem_nil, or_false]
    constructor
    · rintro ⟨⟨j, hj, rfl⟩, h | h⟩
      · exact ⟨j, hj, rfl, .inl (nameB_inj (by omega) (by omega) h)⟩
      · exact ⟨j, hj, rfl, .inr ⟨hc, nameB_inj (by omega) (by omega) h⟩⟩
    · rintro ⟨j, hj, rfl, rfl | ⟨_, rfl⟩⟩
      · exact ⟨⟨_, hj, rfl⟩, .inl rfl⟩
      · exact ⟨⟨_, hj, rfl⟩, .inr rfl⟩
  · rename_i hc
    simp only [List.mem_cons, List.not_mem_nil, or_false]
    constructor
    · rintro ⟨⟨j, hj, rfl⟩, h⟩
      exact ⟨j, hj, rfl, .inl (nameB_inj (by omega) (by omega) h)⟩
    · rintro ⟨j, hj, rfl, rfl | ⟨h, _⟩⟩
      · exact ⟨⟨_, hj, rfl⟩, rfl⟩
      · exact (hc h).elim
theorem ring_up {i : Nat} : ∀ d, i + d + 1 < all → Reach (adjOf (ringP all) (ringI a n all)) (nameB i) (nameB (i + d + 1)) := by
  intro d
  induction d with
  | zero => intro h; exact .one ((ring_edge hn hall h99 (by omega) _).2 ⟨_, h, rfl, .inl rfl⟩)
  | succ d ih =>
    intro h
    exact (ih (by omega)).trans (.one ((ring_edge hn hall h99 (i := i + d + 1) (by omega) _).2 ⟨_, h, rfl, .inl (by omega)⟩))
theorem ring_lt {i j : Nat} (h : i < j) (hj : j < all) : Reach (adjOf (ringP all) (ringI a n all)) (nameB i) (nameB j) := by
  have := ring_up hn hall h99 (i := i) (j - i - 1) (by omega)
  rwa [show i + (j - i - 1) + 1 = j by omega] at this
theorem ring_cyc {i : Nat} (hi : i < all) : Reach (adjOf (ringP all) (ringI a n all)) (nameB i) (nameB i) ↔ a ≤ i ∧ i < a + n := by
  constructor
  · intro h
    refine Classical.byContradiction fun hc => ?_
    obtain ⟨j, hij, hj, e⟩ := h.closed (S := fun x => ∃ j, i < j ∧ j < all ∧ x = nameB j) (fun x hx => by
      obtain ⟨j, hj, rfl, h | ⟨h, _⟩⟩ := (ring_edge hn hall h99 hi x).1 hx
      · exact ⟨j, by omega, hj, rfl⟩
      · omega) (by
      rintro x ⟨j, hij, hj, rfl⟩ y hy
      obtain ⟨k, hk, rfl, h | ⟨h, h'⟩⟩ := (ring_edge hn hall h99 hj y).1 hy
      · exact ⟨k, by omega, hk, rfl⟩
      · exact ⟨k, by omega, hk, rfl⟩)
    have := nameB_inj (by omega) (by omega) e
    omega
  · rintro ⟨h1, h2⟩
    have hback : Reach (adjOf (ringP all) (ringI a n all)) (nameB (a + n - 1)) (nameB a) :=
      .one ((ring_edge hn hall h99 (i := a + n - 1) (by omega) _).2 ⟨a, by omega, rfl, .inr ⟨rfl, rfl⟩⟩)
    have h3 : Reach (adjOf (ringP all) (ringI a n all)) (nameB i) (nameB a) := by
      by_cases e : i = a + n - 1
      · rw [e]; exact hback
      · exact (ring_lt hn hall h99 (show i < a + n - 1 by omega) (by omega)).trans hback
    by_cases e : a = i
    · rw [← e] at h3 ⊢; exact h3
    · exact h3.trans (ring_lt hn hall h99 (by omega) hi)
end

/-! ### in memory -/
/-- the first i paths, and what they import. -/
structure RingAt (w0 w : World) (a n i : Nat) (vp vi : Value) : Prop where
  ps : RowAt w 9 1 vp (strs (ringP i))
  is : ∃ hds, RowAt w 22 1 vi hds ∧ hds.length = i ∧ ∀ j, j < i → ∃ v, hds[j]? = some v ∧ RowAt w 9 1 v (strs (nx a n j)) ∧ ∀ b, InRow v b → ¬ InRow vp b ∧ ¬ InRow vi b
  apart : ∀ b, InRow vp b → ¬ InRow vi b
  newp : ∀ b, InRow vp b → w0.heap.size ≤ b
  newi : ∀ b, InRow vi b → w0.heap.size ≤ b
theorem ringAt_keep {w0 w w' : World} {a n i : Nat} {vp vi : Value} (h : RingAt w0 w a n i vp vi) (u : Upd No w w') : RingAt w0 w' a n i vp vi := by
  obtain ⟨hds, h1, h2, h3⟩ := h.is
  refine ⟨h.ps.upd u fun _ _ => id, ⟨hds, h1.upd u fun _ _ => id, h2, fun j hj => ?_⟩, h.apart, h.newp, h.newi⟩
  obtain ⟨v, e, hr, ha⟩ := h3 j hj
  exact ⟨v, e, hr.upd u fun _ _ => id, ha⟩

theorem i64n {i : Nat} (h : i ≤ 1000) : IntKind.wrap .i64 ((i : Nat) : Int) = (i : Int) := Go.SX.wrap_small (by omega) (by omega)

set_option maxRecDepth 4000 in
theorem rings_spec (w : World) (r a b : Nat) : callC Try.prog 5 #[.int .u8 r, .int .u8 a, .int .u8 b] w fun v w' => v = .bool true ∧ Upd No w w' := by
  refine lrings _ _ _ _ _ (callC_of (works_spec w) fun v w1 ⟨hv, u1⟩ => ⟨_, hv, brC_ff rfl ?_⟩)
  have e1 : Int.tmod (a : Int) 10 = ((a % 10 : Nat) : Int) := tmod_nat a 10
  have e2 : Int.tmod (r : Int) 20 = ((r % 20 : Nat) : Int) := tmod_nat r 20
  have e3 : Int.tmod (b : Int) 10 = ((b % 10 : Nat) : Int) := tmod_nat b 10
  rw [e1, e2, e3]
  have ha : a % 10 < 10 := Nat.mod_lt _ (by omega)
  have hr : r % 20 < 20 := Nat.mod_lt _ (by omega)
  have hb : b % 10 < 10 := Nat.mod_lt _ (by omega)
  generalize a % 10 = a at ha
  generalize r % 20 = r at hr
  generalize b % 10 = b at hb
  have f1 : IntKind.wrap .i64 (1 + IntKind.wrap .i64 ((r : Nat) : Int)) = ((1 + r : Nat) : Int) := by rw [i64n (by omega), Go.SX.wrap_small (by omega) (by omega)]; omega
  rw [f1]
  generalize hnn : 1 + r = n
  have hn : 0 < n := by omega
  have hn2 : n ≤ 20 := by omega
  have f5 : IntKind.wrap .i64 ((a : Nat) : Int) = (a : Int) := i64n (by omega)
  have f6 : IntKind.wrap .i64 ((b : Nat) : Int) = (b : Int) := i64n (by omega)
  have f2 : IntKind.wrap .i64 (((a : Nat) : Int) + ((n : Nat) : Int)) = ((a + n : Nat) : Int) := by
    rw [Go.SX.wrap_small (by omega) (by omega)]; omega
  have f3 : IntKind.wrap .i64 (((a + n : Nat) : Int) + ((b : Nat) : Int)) = ((a + n + b : Nat) : Int) := by
    rw [Go.SX.wrap_small (by omega) (by omega)]; omega
  have f4 : IntKind.wrap .i64 (((a + n : Nat) : Int) - 1) = ((a + n - 1 : Nat) : Int) := by
    rw [Go.SX.wrap_small (by omega) (by omega)]; omega
  simp only [f5, f6, f2, f3, f4]
  generalize hall : a + n + b = all
  have h99 : all ≤ 98 := by omega
  obtain ⟨io, hi1, hi2, hi3, hi4⟩ := info_get (P := Try.prog) (e := 9) (s := 1) (b := 16) (z := .string ByteArray.empty) (by kernel_rfl)
  obtain ⟨io2, hj1, hj2, hj3, hj4⟩ := info_get (P := Try.prog) (e := 22) (s := 1) (b := 24) (z := .slice none 0 0) (by kernel_rfl)
  refine ⟨fun p k c p' k' c' m w' => ∃ i : Nat, m = i ∧ i ≤ all ∧ RingAt w1 w' a n i (.slice p k c) (.slice p' k' c') ∧ Upd No w1 w', fun _ _ _ _ _ _ m _ => (all - m).toNat,
    ⟨0, rfl, Nat.zero_le _, ⟨RowAt.nil _ _ _, ⟨[], RowAt.nil _ _ _, rfl, fun j hj => absurd hj (by omega)⟩, fun b hb => (by cases hb), fun b hb => (by cases hb), fun b hb => (by cases hb)⟩, Upd.refl _ _⟩, ?_⟩
  rintro p5 k6 k7 p8 k9 k10 n11 w12 ⟨i, rfl, hi, R, u12⟩ d
  refine brC_intro (fun hlt => ?_) fun hge => ?_
  · have hlt : i < all := by have := of_decide_eq_true hlt; omega
    have hw : IntKind.wrap .i64 ((i : Int) + 1) = ((i + 1 : Nat) : Int) := Go.SX.wrap_small (by omega) (by omega)
    rw [hw]
    refine ⟨fun p k c p' k' c' w' => RingAt w1 w' a n (i + 1) (.slice p k c) (.slice p' k' c') ∧ Upd No w1 w', ?_, ?_⟩
    · rintro p k c p' k' c' w' ⟨R', u'⟩ d
      exact ⟨⟨i + 1, rfl, hlt, R', u'⟩, by dsimp only; omega⟩
    refine callC_of (name_spec i (by omega) w12) fun v w24 ⟨hv, u24⟩ => ⟨_, hv, newC_mk fun w27 h27 u27 s27 => ?_⟩
    have R27 := ringAt_keep (ringAt_keep R u24) u27
    have u127 : Upd No w1 w27 := (u12.trans u24 fun _ _ => id).trans u27 fun _ _ => id
    have hpl : (ringP i).length = i := by simp [ringP]
    refine append_row (P := Try.prog) (e := 9) (news := [.string (nameB i)]) Try.underlying22 hi1 hi2 hi3 hi4 rfl R27.ps (n := i) (by rw [strs_len, hpl, Nat.mul_one]) _ 1 1 (by omega) (by omega) rfl ?_ (by simp [Value.oneCell']) (by simp only [maxLen]; omega) (by omega)
      fun v' w29 r29 u29 g29 => ?_
    · intro j u hj
      match j, hj with
      | 0, hj => cases hj; exact h27.cell rfl
    have hz1 := u127.size
    have u29 : Upd (InRow (.slice p5 k6 k7)) w27 w29 := u29
    have u129 : Upd No w1 w29 := u127.trans u29 fun b hb h => by have := R27.newp b h; omega
    have er : strs (ringP i) ++ [.string (nameB i)] = strs (ringP (i + 1)) := by simp [strs, ringP, List.range_succ]
    rw [er] at r29
    obtain ⟨p30, k31, k32, rfl, _⟩ := r29.shape
    have hz27 := u29.size
    -- the state behind it
    have R29 : ∃ hds, RowAt w29 22 1 (.slice p8 k9 k10) hds ∧ hds.length = i ∧ (∀ j, j < i → ∃ v, hds[j]? = some v ∧ RowAt w29 9 1 v (strs (nx a n j)) ∧ ∀ b, InRow v b → ¬ InRow (.slice p30 k31 k32) b ∧ ¬ InRow (.slice p8 k9 k10) b) ∧
        (∀ b, InRow (.slice p30 k31 k32) b → ¬ InRow (.slice p8 k9 k10) b ∧ w1.heap.size ≤ b) := by
      obtain ⟨hds, h1, h2, h3⟩ := R27.is
      refine ⟨hds, h1.upd u29 fun b hb h => R27.apart b h hb, h2, fun j hj => ?_, fun b hb => ?_⟩
      · obtain ⟨v, e, hr, hx⟩ := h3 j hj
        refine ⟨v, e, hr.upd u29 fun b hb h => (hx b hb).1 h, fun b hb => ⟨fun h => ?_, (hx b hb).2⟩⟩
        rcases g29 b h with h | h
        · exact (hx b hb).1 h
        · have := hr.lt hb; omega
      · rcases g29 b hb with h | h
        · exact ⟨R27.apart b h, R27.newp b h⟩
        · exact ⟨fun hc => by have := h1.lt hc; omega, by omega⟩
    refine ⟨_, _, _, rfl, ?_⟩
    have hni := R27.newi
    clear R R27 g29 u29 h27
    refine callC_of (name_spec (i + 1) (by omega) w29) fun v w34 ⟨hv, u34⟩ => ⟨_, hv, newC_mk fun w37 h37 u37 s37 => ?_⟩
    have u2937 : Upd No w29 w37 := u34.trans u37 fun _ _ => id
    have hz29 := u129.size
    have hz34 := u34.size
    -- what is imported, made
    refine ⟨fun p k c w' => Upd (· = w34.heap.size) w37 w' ∧ RowAt w' 9 1 (.slice p k c) (strs (nx a n i)) ∧ ∀ b, InRow (.slice p k c) b → w29.heap.size ≤ b, ?_, ?_⟩
    · rintro p39 k40 k41 w42 ⟨u42, r42, g42⟩ d
      have u2942 : Upd No w29 w42 := u2937.trans u42 fun b hb e => by omega
      refine newC_mk fun w45 h45 u45 s45 => ?_
      obtain ⟨hds, h1, h2, h3, h4⟩ := R29
      have u2945 : Upd No w29 w45 := u2942.trans u45 fun _ _ => id
      have h45' := h1.upd u2945 fun _ _ => id
      refine append_row (P := Try.prog) (e := 22) (news := [.slice p39 k40 k41]) Try.underlying23 hj1 hj2 hj3 hj4 rfl h45' (n := i) (by rw [h2, Nat.mul_one]) _ 1 1 (by omega) (by omega) rfl ?_ (by simp [Value.oneCell']) (by simp only [maxLen]; omega) (by omega)
        fun v' w47 r47 u47 g47 => ?_
      · intro j u hj
        match j, hj with
        | 0, hj => cases hj; exact h45.cell rfl
      have u47 : Upd (InRow (.slice p8 k9 k10)) w45 w47 := u47
      obtain ⟨p48, k49, k50, rfl, _⟩ := r47.shape
      have hz45 := u2945.size
      have hnewi : ∀ b, InRow (.slice p8 k9 k10) b → w1.heap.size ≤ b ∧ b < w29.heap.size := fun b hb => ⟨hni b hb, h1.lt hb⟩
      have hr42 := r42.upd u45 fun _ _ => id
      refine ⟨_, _, _, rfl, ⟨(r29.upd u2945 fun _ _ => id).upd u47 fun b hb h => (h4 b hb).1 h, ⟨_, r47, by simp [h2], fun j hj => ?_⟩, fun b hb h => ?_, fun b hb => (h4 b hb).2, fun b hb => ?_⟩, (u129.trans u2945 fun _ _ => id).trans u47 fun b hb h => ?_⟩
      · by_cases hji : j < i
        · obtain ⟨v, e, hr, hx⟩ := h3 j hji
          refine ⟨v, by rw [List.getElem?_append_left (by omega)]; exact e, (hr.upd u2945 fun _ _ => id).upd u47 fun b hb h => (hx b hb).2 h, fun b hb => ⟨(hx b hb).1, fun h => ?_⟩⟩
          rcases g47 b h with h | h
          · exact (hx b hb).2 h
          · have := hr.lt hb; omega
        · have hji : j = i := by omega
          subst hji
          refine ⟨.slice p39 k40 k41, by rw [List.getElem?_append_right (by omega)]; simp [h2], hr42.upd u47 fun b hb h => ?_, fun b hb => ⟨fun h => ?_, fun h => ?_⟩⟩
          · have a1 := g42 b hb
            have a2 := h1.lt h
            omega
          · have a1 := g42 b hb
            have a2 := r29.lt h
            omega
          · have a1 := g42 b hb
            rcases g47 b h with h | h
            · have a2 := h1.lt h; omega
            · have a2 := hr42.lt hb; omega
      · rcases g47 b h with h | h
        · exact (h4 b hb).1 h
        · have := r29.lt hb; omega
      · rcases g47 b hb with h | h
        · exact (hnewi b h).1
        · omega
      · have := (hnewi b h).1
        omega
    · have hS : RowAt w37 9 1 (.slice (some ⟨w34.heap.size, 0, none⟩) 1 1) (strs [nameB (i + 1)]) :=
        ⟨1, rfl, .inr ⟨w34.heap.size, 0, 1, _, rfl, h37, Nat.le_refl _, by decide, by simp, rfl⟩⟩
      refine brC_intro (fun hend => ?_) fun hend => ?_
      · have hend : i = a + n - 1 := by have : (i : Int) = ((a + n - 1 : Nat) : Int) := by simpa using hend
                                        omega
        refine callC_of (name_spec a (by omega) w37) fun v w52 ⟨hv, u52⟩ => ⟨_, hv, newC_mk fun w55 h55 u55 s55 => ?_⟩
        have u3755 : Upd No w37 w55 := u52.trans u55 fun _ _ => id
        refine append_row (P := Try.prog) (e := 9) (news := [.string (nameB a)]) Try.underlying22 hi1 hi2 hi3 hi4 rfl (hS.upd u3755 fun _ _ => id) (n := 1) rfl _ 1 1 (by omega) (by omega) rfl ?_ (by simp [Value.oneCell']) (by decide) (by decide)
          fun v' w57 r57 u57 g57 => ?_
        · intro j u hj
          match j, hj with
          | 0, hj => cases hj; exact h55.cell rfl
        have u57 : Upd (InRow (.slice (some ⟨w34.heap.size, 0, none⟩) 1 1)) w55 w57 := u57
        have hin : ∀ b, InRow (.slice (some ⟨w34.heap.size, 0, none⟩) 1 1) b → b = w34.heap.size := fun b hb => by
          have : w34.heap.size = b := by simpa [InRow, Value.ownBlock] using hb
          exact this.symm
        obtain ⟨p58, k59, k60, rfl, _⟩ := r57.shape
        have hz55 := u3755.size
        refine ⟨_, _, _, rfl, (u3755.no).trans u57 fun b hb h => hin b h, ?_, fun b hb => ?_⟩
        · unfold nx; rw [if_pos hend]; exact r57
        · rcases g57 b hb with h | h
          · have := hin b h; omega
          · omega
      · have hend : i ≠ a + n - 1 := by
          intro e; rw [e] at hend; simp at hend
        refine ⟨Upd.refl _ _, ?_, fun b hb => ?_⟩
        · unfold nx; rw [if_neg hend]; exact hS
        · have : w34.heap.size = b := by simpa [InRow, Value.ownBlock] using hb
          omega
  · have : i = all := by
      have := of_decide_eq_false hge
      omega
    subst this
    have hk6 := rowAt_len R.ps
    have hpl : (ringP i).length = i := by simp [ringP]
    have hil : (ringI a n i).length = i := by simp [ringI]
    have hI : ImpsAt w12 p8 (ringI a n i) ∧ k9 = i := by
      obtain ⟨hds, h1, h2, h3⟩ := R.is
      refine ⟨fun j hj => ?_, ?_⟩
      · have hj' : j < i := by rw [hil] at hj; exact hj
        obtain ⟨v, e, hr, _⟩ := h3 j hj'
        obtain ⟨g, o, rfl, hc⟩ := h1.get (j := j) (by omega)
        have en : (ringI a n i)[j] = nx a n j := by simp [ringI]
        obtain ⟨p, m, c, rfl, _⟩ := hr.shape
        have hm := rowAt_len hr
        subst hm
        refine ⟨_, p, c, rfl, ?_, ?_, ?_⟩
        · rw [add_mk, Nat.mul_one, hc, e, en]
        · rw [en]; exact StrsAt.of_row hr
        · rw [en]; unfold nx; split <;> simp
      · obtain ⟨p, m, c, e, hl, _⟩ := h1.shape
        cases e
        omega
    obtain ⟨hI, hk9⟩ := hI
    have hnd := ringP_nodup (all := i) (by omega)
    rw [hk6, hk9]
    have key := new_spec (StrsAt.of_row R.ps) hI (by omega) k7 k10
    rw [hil] at key
    refine callC_of key fun v w62 ⟨u62, h⟩ => ?_
    rcases h with ⟨_, h⟩ | ⟨g, m, f, hv, _, _, G⟩
    · exact (h ⟨by rw [hpl], hnd⟩).elim
    have u062 : Upd No w w62 := (u1.trans u12 fun _ _ => id).trans u62 fun _ _ => id
    have hs : ∀ p ∈ ringP i, p.size ≤ maxLen := fun p hp => by
      obtain ⟨j, hj, rfl⟩ := ringP_mem.1 hp
      rw [(nameB_size j (by omega)).1]; decide
    have hcyc : ∀ j, j < i → (Reach (adjOf (ringP i) (ringI a n i)) (nameB j) (nameB j) ↔ a ≤ j ∧ j < a + n) := fun j hj => ring_cyc hn hall.symm h99 hj
    refine ⟨_, hv, brC_ff rfl ⟨fun m w' => ∃ j : Nat, m = j ∧ j ≤ i ∧ Upd No w62 w', fun m _ => (i - m).toNat, ⟨0, rfl, Nat.zero_le _, Upd.refl _ _⟩, ?_⟩⟩
    rintro n66 w67 ⟨j, rfl, hj, u67⟩ d
    refine brC_intro (fun hlt => ?_) fun hge2 => ?_
    · have hlt : j < i := by have := of_decide_eq_true hlt; omega
      have hw : IntKind.wrap .i64 ((j : Int) + 1) = ((j + 1 : Nat) : Int) := Go.SX.wrap_small (by omega) (by omega)
      rw [hw]
      refine ⟨(Upd No w62 ·), fun w70 u70 d => ⟨⟨j + 1, rfl, hlt, u70⟩, by dsimp only; omega⟩, fun b w' => b = false ∧ Upd No w62 w', fun b w74 ⟨hb, u⟩ d => brC_ff hb u, ?_⟩
      refine callC_of (name_spec j (by omega) w67) fun v w77 ⟨hv, u77⟩ => ⟨_, hv, ?_⟩
      have u77 : Upd No w62 w77 := u67.trans u77 fun _ _ => id
      refine callC_of (cyclic_spec (G.keep u77) (nameB j)) fun v w80 ⟨b, hv, hb, u80⟩ => ⟨_, hv, ?_⟩
      have u80 : Upd No w62 w80 := u77.trans u80 fun _ _ => id
      rw [hcyc j hlt] at hb
      refine brC_intro (fun hja => ⟨?_, u80⟩) fun hja => ⟨?_, u80⟩
      · have hja : a ≤ j := by have := of_decide_eq_true hja; omega
        have : b = decide ((j : Int) < ((a + n : Nat) : Int)) := by
          rw [Bool.eq_iff_iff, hb, decide_eq_true_eq]; omega
        rw [this]; simp
      · have hja : ¬ a ≤ j := by have := of_decide_eq_false hja; omega
        have : b = false := by
          rw [← Bool.not_eq_true, hb]; omega
        rw [this]; rfl
    · refine callC_of (order_spec (G.keep u67) (by omega) hs) fun v w83 ⟨hO, u83, _⟩ => ?_
      have u83 : Upd No w62 w83 := u67.trans u83 fun _ _ => id
      obtain ⟨p84, k85, k86, rfl, _⟩ := hO.shape
      have hk85 := rowAt_len hO
      have hperm := order_perm (adjOf (ringP i) (ringI a n i)) hnd
      have hSO := StrsAt.of_row hO
      have hbef : ∀ j, j + 1 < a → idxAt (orderOf (ringP i) (adjOf (ringP i) (ringI a n i))) (nameB (j + 1)) 0 < idxAt (orderOf (ringP i) (adjOf (ringP i) (ringI a n i))) (nameB j) 0 := fun j hj =>
        order_before hnd (ringP_mem.2 ⟨j, by omega, rfl⟩) (by rw [hcyc j (by omega)]; omega) (ringP_mem.2 ⟨j + 1, by omega, rfl⟩) ((ring_edge hn hall.symm h99 (i := j) (by omega) _).2 ⟨j + 1, by omega, rfl, .inl rfl⟩)
      have hol := hperm.length_eq
      generalize orderOf (ringP i) (adjOf (ringP i) (ringI a n i)) = O at hk85 hSO hbef hol
      subst hk85
      refine ⟨_, _, _, rfl, fun m w' => ∃ j : Nat, m = j ∧ j ≤ i ∧ Upd No w83 w', fun m _ => (i - m).toNat, ⟨0, rfl, Nat.zero_le _, Upd.refl _ _⟩, ?_⟩
      rintro n89 w90 ⟨j, rfl, hj, u90⟩ d
      have hw : IntKind.wrap .i64 ((j : Int) + 1) = ((j + 1 : Nat) : Int) := Go.SX.wrap_small (by omega) (by omega)
      rw [hw]
      refine brC_intro (fun hlt => ?_) fun hge3 => ⟨?_, (u062.trans u83 fun _ _ => id).trans u90 fun _ _ => id⟩
      · have hlt : j + 1 < a := by have := of_decide_eq_true hlt; omega
        refine callC_of (name_spec j (by omega) w90) fun v w93 ⟨hv, u93⟩ => ⟨_, hv, ?_⟩
        have u93 : Upd No w83 w93 := u90.trans u93 fun _ _ => id
        refine callC_of (place_spec (hSO.keep u93) (by simp only [maxLen]; omega) _ _) fun v w96 ⟨hv, e⟩ => ⟨_, hv, ?_⟩
        subst e
        refine callC_of (name_spec (j + 1) (by omega) w93) fun v w99 ⟨hv, u99⟩ => ⟨_, hv, ?_⟩
        have u99 : Upd No w83 w99 := u93.trans u99 fun _ _ => id
        refine callC_of (place_spec (hSO.keep u99) (by simp only [maxLen]; omega) _ _) fun v w102 ⟨hv, e⟩ => ⟨_, hv, ?_⟩
        subst e
        have := hbef j hlt
        refine brC_ff (by simp; omega) ?_
        exact ⟨⟨j + 1, rfl, by omega, u99⟩, by dsimp only; omega⟩
      · rw [hol, hpl]; simp
end Go.Proofs.Ytkacocaekffdgaa
