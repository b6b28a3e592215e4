/- Joined by program of: Y1, Y2, Y3, Y4, Y5, Y6, Y7, Y8, Y9, Ya1, Ya2, Ya3, Ya4, Ya5, Ya6, Ya7, Ya8, Ya9, Yb1. -/
import Derived.Test.YtpddhbdjcgkjcaaGreatDoorTyAt
import Derived.Test.YtpddhbdjcgkjcaaGreatDoorVa
import Derived.Test.YtpddhbdjcgkjcaaGreatDoorTw
import Derived.Test.YtpddhbdjcgkjcaaGreatDoorMap
import Derived.Test.YtpddhbdjcgkjcaaGreatDoorVb
import Derived.DataElems

/- The reference's size of a type in memory. -/
namespace Go.Proofs.YtpddhbdjcgkjcaaGreatDoor
open Go.SX Go.Ty

abbrev ids : Ids := ⟨9, 23, 44⟩
theorem ptrC_some {a : Addr} {K : Addr → Prop} (h : K a) : ptrC (some a) K := h
/-- a type's cells. -/
theorem ty_open {F : Nat → Prop} {w : World} {x0 : Option Addr} {k : Int} {nm : ByteArray} {ns : List ByteArray} {ta : List T} {r : T} (h : TyAt ids F w (.pointer x0) (.mk k nm ns ta r)) :
    ∃ b nv p n c, ∃ rp : Option Addr, x0 = some ⟨b, 0, none⟩ ∧ F b ∧ Blk w b #[.int .i64 k, .string nm, nv, .slice p n c, .pointer rp] 44 ∧ RowAt w ids.str 1 nv (ns.map Value.string) ∧ TyRow ids F w (.slice p n c) ta ∧ TyAt ids F w (.pointer rp) r := by
  unfold TyAt at h
  obtain ⟨b, nv, av, rv, vs, e, hb, hB, hN, fN, hA, fA, hT, hR⟩ := h
  cases e
  obtain ⟨p, n, c, rfl, _⟩ := hA.shape
  have hp : ∃ rp : Option Addr, rv = .pointer rp := by
    cases r with
    | nil => exact ⟨none, hR⟩
    | mk =>
      unfold TyAt at hR
      obtain ⟨b', _, _, _, _, e, _⟩ := hR
      exact ⟨_, e⟩
  obtain ⟨rp, rfl⟩ := hp
  exact ⟨b, nv, p, n, c, rp, rfl, hb, hB, hN, ⟨vs, hA, fA, hT⟩, hR⟩

theorem rsize_spec : ∀ (t : T) (n : Nat) (F : Nat → Prop) (w : World) (x0 : Option Addr), TyAt ids F w (.pointer x0) t → n ≤ 61 →
    callC Tryz.prog 32 #[.pointer x0, .int .i64 n] w fun v w' => v = .int .i64 ((min (n + size t) 61 : Nat) : Int) ∧ Upd No w w' := by
  refine ind (fun n F w x0 h hn => ?_) fun k nm ns ta r ihA ihR n F w x0 h hn => ?_
  · obtain rfl : x0 = none := by unfold TyAt at h; cases h; rfl
    refine rsize_text _ _ _ _ ⟨fun _ => False, fun _ h => h.elim, fun b w' => b = true ∧ w' = w, ?_, brC_tt rfl ⟨rfl, rfl⟩⟩
    rintro b w' ⟨rfl, rfl⟩ _
    refine brC_tt rfl ⟨?_, Upd.refl _ _⟩
    rw [Nat.min_eq_left (by simp [size]; omega)]
    simp [size]
  · obtain ⟨b, nv, p, m, c, rp, rfl, hb, hB, hN, hA, hR⟩ := ty_open h
    obtain ⟨em, hc, hm, hget⟩ := hA.get
    simp only [maxLen] at hm
    have hsz : size (.mk k nm ns ta r) = 1 + sizes ta + size r := by rw [size]
    refine rsize_text _ _ _ _ ⟨fun w' => w' = w ∧ n ≤ 60, ?_, fun b w' => w' = w ∧ b = decide (60 < n), ?_, brC_ff rfl ⟨rfl, decide_eq_decide.2 (by omega)⟩⟩
    · rintro w1 ⟨rfl, h60⟩ _
      refine ⟨fun i w' => i = ((min (n + 1 + sizes ta) 61 : Nat) : Int) ∧ Upd No w1 w', ?_, fun i j w' => ∃ q : Nat, j = q ∧ q ≤ ta.length ∧ i = ((min (n + 1 + sizes (ta.take q)) 61 : Nat) : Int) ∧ Upd No w1 w', fun _ j _ => (ta.length - j).toNat, ?_, ?_⟩
      · rintro i w5 ⟨rfl, u⟩ _
        refine ptrC_some ⟨rp, ?_, ?_⟩
        · rw [add_mk]
          exact (hB.upd u id).cell rfl
        · refine callC_of (ihR _ F w5 rp (hR.keep u) (by omega)) fun v w' ⟨e, u'⟩ => ⟨_, e, ?_, u.trans u' fun _ _ x => x⟩
          congr 2
          rw [hsz]; omega
      · refine ⟨0, rfl, by omega, ?_, Upd.refl _ _⟩
        rw [wrap_small (by omega) (by omega)]
        simp [sizes]; omega
      · rintro i j w' ⟨q, rfl, hq, rfl, u⟩ _
        refine ⟨fun w'' => w'' = w' ∧ q < ta.length ∧ n + 1 + sizes (ta.take q) ≤ 60, ?_, ?_⟩
        · rintro w'' ⟨rfl, hlt, hle⟩ _
          have hA' := (hA.keep u).get
          obtain ⟨g, o, v, rfl, hv, ht⟩ := hA'.2.2.2 q ta[q] (List.getElem?_eq_getElem hlt)
          have hv' : ∃ pv : Option Addr, v = .pointer pv := by
            cases hk : ta[q] with
            | nil => rw [hk] at ht; exact ⟨none, ht⟩
            | mk =>
              rw [hk] at ht
              unfold TyAt at ht
              obtain ⟨b', _, _, _, _, e, _⟩ := ht
              exact ⟨_, e⟩
          obtain ⟨pv, rfl⟩ := hv'
          refine ptrC_some ⟨_, m, c, by rw [add_mk]; exact (hB.upd u id).cell rfl, ⟨by omega, by omega, ?_⟩⟩
          refine ptrC_some ⟨pv, by rw [add_mk, Int.toNat_natCast, Nat.mul_one]; exact hv, ?_⟩
          refine callC_of (ihA _ (List.getElem_mem hlt) _ F w'' pv ht (by omega)) fun v w3 ⟨e, u'⟩ => ⟨_, e, ⟨q + 1, ?_, hlt, ?_, u.trans u' fun _ _ x => x⟩, ?_⟩
          · rw [wrap_small (by omega) (by omega)]; rfl
          · have e3 : sizes (ta.take (q + 1)) = sizes (ta.take q) + size ta[q] := by
              rw [List.take_succ_eq_append_getElem hlt, sizes_append]
              simp [sizes]
            rw [e3]
            congr 1
            omega
          · rw [wrap_small (by omega) (by omega)]; dsimp only; omega
        · refine ptrC_some ⟨_, m, c, by rw [add_mk]; exact (hB.upd u id).cell rfl, ?_⟩
          refine brC_intro (fun h1 => brC_intro (fun h2 => ⟨rfl, ?_, ?_⟩) fun h2 => ⟨?_, u⟩) fun h1 => ⟨?_, u⟩
          · have := of_decide_eq_true h1; omega
          · have := of_decide_eq_true h2; omega
          · have h2 := of_decide_eq_false h2
            have := sizes_append (ta.take q) (ta.drop q)
            rw [List.take_append_drop] at this
            congr 1; omega
          · have h1 := of_decide_eq_false h1
            have : q = ta.length := by omega
            subst this
            rw [List.take_length]
    · rintro b' w' ⟨rfl, rfl⟩ _
      refine brC_intro (fun h => ⟨?_, Upd.refl _ _⟩) fun h => ⟨rfl, by simpa using h⟩
      have : n = 61 := by have := of_decide_eq_true h; omega
      subst this
      rw [Nat.min_eq_right (by omega)]
end Go.Proofs.YtpddhbdjcgkjcaaGreatDoor

/- The reference's Size, fits, letter. -/
namespace Go.Proofs.YtpddhbdjcgkjcaaGreatDoor
open Go.SX Go.Ty

theorem rSize_spec {t : T} {F : Nat → Prop} {w : World} {x0 : Option Addr} (h : TyAt ids F w (.pointer x0) t) :
    callC Tryz.prog 13 #[.pointer x0] w fun v w' => v = .int .i64 ((min (size t) 61 : Nat) : Int) ∧ Upd No w w' :=
  rSize_text _ _ _ (callC_of (rsize_spec t 0 F w x0 h (by omega)) fun v w' ⟨e, u⟩ => ⟨_, e, by rw [Nat.zero_add], u⟩)
theorem rfits_spec {t : T} {F : Nat → Prop} {w : World} {x0 : Option Addr} (h : TyAt ids F w (.pointer x0) t) :
    callC Tryz.prog 48 #[.pointer x0] w fun v w' => ∃ p : Option Addr, v = .tuple #[.pointer p, .int .i64 (fits t).2] ∧ TyAt ids F w' (.pointer p) (fits t).1 ∧ Upd No w w' := by
  refine rfits_text _ _ _ (callC_of (rSize_spec h) fun v w' ⟨e, u⟩ => ⟨_, e, brC_intro (fun h1 => ?_) fun h1 => ?_⟩)
  · have h1 := of_decide_eq_true h1
    have : fits t = (.nil, 3) := by unfold fits; rw [if_pos (by omega)]
    rw [this]
    exact ⟨none, rfl, rfl, u⟩
  · have h1 := of_decide_eq_false h1
    have : fits t = (t, 0) := by unfold fits; rw [if_neg (by omega)]
    rw [this]
    exact ⟨x0, rfl, h.keep u, u⟩

def lettI (x : Int) : Bool := (decide (97 ≤ x) && decide (x ≤ 122)) || (decide (65 ≤ x) && decide (x ≤ 90)) || x == 95
theorem lettI_eq (c : UInt8) : lettI (c.toNat : Int) = letter c := by
  unfold lettI letter
  rw [Bool.eq_iff_iff]
  simp only [Bool.or_eq_true, Bool.and_eq_true, decide_eq_true_eq, beq_iff_eq]
  omega
theorem rletter_spec (x : Int) (w : World) : callC Tryz.prog 85 #[.int .u8 x] w fun v w' => v = .bool (lettI x) ∧ w' = w := by
  have e5 : (x == 95) = decide (x = 95) := by rw [Bool.eq_iff_iff]; simp
  have fin : ∀ b : Bool, b = lettI x → (Value.bool b = Value.bool (lettI x) ∧ w = w) := fun b h => ⟨by rw [h], rfl⟩
  refine rletter_text _ _ _ (brC_intro (fun h1 => brC_intro (fun h2 => ?_) fun h2 => ?_) fun h1 => ?_)
  · refine fin _ ?_
    simp only [ge_iff_le] at h1
    unfold lettI; rw [h1, h2]; rfl
  · simp only [ge_iff_le] at h1
    refine brC_intro (fun h3 => brC_intro (fun h4 => ?_) fun h4 => ?_) fun h3 => ?_ <;> simp only [ge_iff_le] at h3 <;> refine fin _ ?_ <;> unfold lettI
    · rw [h3, h4]; simp
    · rw [h3, h4, h2]; simp
    · rw [h3, h2]; simp
  · simp only [ge_iff_le] at h1
    refine brC_intro (fun h3 => brC_intro (fun h4 => ?_) fun h4 => ?_) fun h3 => ?_ <;> simp only [ge_iff_le] at h3 <;> refine fin _ ?_ <;> unfold lettI
    · rw [h3, h4]; simp
    · rw [h3, h4, h1]; simp
    · rw [h3, h1]; simp
end Go.Proofs.YtpddhbdjcgkjcaaGreatDoor

/- The reference's Named and Field: bytes of a text, one by one. -/
namespace Go.Proofs.YtpddhbdjcgkjcaaGreatDoor
open Go.SX Go.Ty

theorem size_txt (s : ByteArray) : s.size = (txt s).length := by
  unfold txt
  rw [Array.length_toList]
  rfl
theorem byteAt_txt {s : ByteArray} {i : Nat} (h : i < s.size) : byteAt s i = (((txt s)[i]'(by rw [← size_txt]; exact h)).toNat : Int) := by
  unfold byteAt
  rw [getElem?_pos s i h]
  simp [txt, ByteArray.getElem_eq_getElem_data]
def nameI (x : Int) : Bool := lettI x || (decide (48 ≤ x) && decide (x ≤ 57)) || x == 45 || x == 47 || x == 46
theorem nameI_eq (c : UInt8) : nameI (c.toNat : Int) = nameC c := by
  unfold nameI nameC lettI letter digit
  rw [Bool.eq_iff_iff]
  simp only [Bool.or_eq_true, Bool.and_eq_true, decide_eq_true_eq, beq_iff_eq]
  omega
/-- the test that the loop makes of a byte. -/
theorem rNamed_spec (s : ByteArray) (w : World) : callC Tryz.prog 66 #[.string s] w fun v w' => v = .bool (namedL (txt s)) ∧ w' = w := by
  have hsz := size_txt s
  refine rNamed_text _ _ _ ⟨fun w' => w' = w ∧ 1 ≤ s.size ∧ s.size ≤ 161, ?_, fun b w' => w' = w ∧ b = (decide (s.size < 1) || decide (161 < s.size)), ?_, ?_⟩
  · rintro w1 ⟨rfl, h1, h2⟩ _
    refine ⟨fun n w' => ∃ i : Nat, n = i ∧ w' = w1 ∧ i ≤ s.size ∧ ((txt s).take i).all nameC = true, fun n _ => (s.size - n).toNat, ⟨0, rfl, rfl, Nat.zero_le _, rfl⟩, ?_⟩
    rintro n w6 ⟨i, rfl, rfl, hi, hall⟩ _
    refine brC_intro (fun hlt => ?_) fun hge => ?_
    · have hlt : i < s.size := by have := of_decide_eq_true hlt; omega
      have hl2 : i < (txt s).length := by omega
      have hb := byteAt_txt hlt
      refine ⟨fun w' => w' = w6 ∧ nameC (txt s)[i] = true, ?_, ⟨by omega, by omega, ?_⟩⟩
      · rintro w9 ⟨rfl, hc⟩ _
        rw [wrap_small (by omega) (by omega)]
        refine ⟨⟨i + 1, rfl, rfl, hlt, ?_⟩, by dsimp only; omega⟩
        rw [List.take_succ_eq_append_getElem hl2, List.all_append, hall]
        simp [hc]
      · have bad : nameC (txt s)[i] = false → namedL (txt s) = false := by
          intro hc
          refine Bool.eq_false_iff.2 fun h => ?_
          have := (named_all h).1
          rw [List.all_eq_true] at this
          rw [this _ (List.getElem_mem hl2)] at hc; cases hc
        refine ⟨fun b w' => w' = w6 ∧ b = !nameC (txt s)[i], ?_, ?_⟩
        · rintro b w' ⟨rfl, rfl⟩ _
          refine brC_intro (fun h => ⟨by rw [bad (by simpa using h)], rfl⟩) fun h => ⟨rfl, by simpa using h⟩
        · rw [Int.toNat_natCast, hb]
          refine callC_of (rletter_spec _ w6) fun v w' ⟨e, ew⟩ => ⟨_, e, ?_⟩
          subst ew
          rw [← nameI_eq]
          generalize (((txt s)[i]).toNat : Int) = x
          refine brC_intro (fun h1 => brC_intro (fun h2 => brC_intro (fun h3 => brC_intro (fun h4 => ⟨rfl, ?_⟩) fun h4 => ⟨rfl, ?_⟩) fun h3 => ⟨rfl, ?_⟩) fun h2 => brC_intro (fun h5 => brC_intro (fun h3 => brC_intro (fun h4 => ⟨rfl, ?_⟩) fun h4 => ⟨rfl, ?_⟩) fun h3 => ⟨rfl, ?_⟩) fun h5 => ⟨rfl, ?_⟩) fun h1 => ⟨rfl, ?_⟩ <;>
            unfold nameI <;> rw [Bool.eq_iff_iff] <;> simp_all <;> omega
    · have hge := of_decide_eq_false hge
      have : i = s.size := by omega
      subst this
      rw [hsz, List.take_length] at hall
      refine ⟨?_, rfl⟩
      have hn : namedL (txt s) = true := by
        unfold namedL
        simp only [Bool.and_eq_true, decide_eq_true_eq]
        exact ⟨⟨by omega, by omega⟩, hall⟩
      rw [hn]
  · rintro b w' ⟨rfl, rfl⟩ _
    refine brC_intro (fun h => ⟨?_, rfl⟩) fun h => ⟨rfl, ?_⟩
    · have hn : namedL (txt s) = false := by
        refine Bool.eq_false_iff.2 fun hx => ?_
        simp only [namedL, Bool.and_eq_true, decide_eq_true_eq] at hx
        simp only [Bool.or_eq_true, decide_eq_true_eq] at h
        omega
      rw [hn]
    · simp only [Bool.or_eq_false_iff, decide_eq_false_iff_not] at h
      omega
  · refine brC_intro (fun h => ⟨rfl, ?_⟩) fun h => ⟨rfl, ?_⟩
    · have h := of_decide_eq_true h
      rw [decide_eq_true (by omega : s.size < 1)]; rfl
    · have h := of_decide_eq_false h
      rw [decide_eq_false (by omega : ¬ s.size < 1), Bool.false_or]
      exact decide_eq_decide.2 (by omega)
end Go.Proofs.YtpddhbdjcgkjcaaGreatDoor

/- The reference's Field. -/
namespace Go.Proofs.YtpddhbdjcgkjcaaGreatDoor
open Go.SX Go.Ty

def fldI (x : Int) : Bool := lettI x || (decide (48 ≤ x) && decide (x ≤ 57))
theorem fldI_eq (c : UInt8) : fldI (c.toNat : Int) = (letter c || digit c) := by
  unfold fldI lettI letter digit
  rw [Bool.eq_iff_iff]
  simp only [Bool.or_eq_true, Bool.and_eq_true, decide_eq_true_eq, beq_iff_eq]
  omega
theorem fieldL_eq (l : List UInt8) (h : 0 < l.length) : fieldL l = (decide (l.length ≤ 24) && letter l[0] && l.all fun c => letter c || digit c) := by
  cases l with
  | nil => simp at h
  | cons c l => rfl
theorem rField_spec (s : ByteArray) (w : World) : callC Tryz.prog 46 #[.string s] w fun v w' => v = .bool (fieldL (txt s)) ∧ w' = w := by
  have hsz := size_txt s
  refine rField_text _ _ _ ⟨fun w' => w' = w ∧ s.size ≤ 24 ∧ ∃ h : 0 < (txt s).length, letter (txt s)[0] = true, ?_, fun b w' => w' = w ∧ ((b = true ∧ fieldL (txt s) = false) ∨ (b = false ∧ s.size ≤ 24 ∧ ∃ h : 0 < (txt s).length, letter (txt s)[0] = true)), ?_, ?_⟩
  · rintro w1 ⟨rfl, h2, h0, hl⟩ _
    refine ⟨fun n w' => ∃ i : Nat, n = i ∧ w' = w1 ∧ i ≤ s.size ∧ ((txt s).take i).all (fun c => letter c || digit c) = true, fun n _ => (s.size - n).toNat, ⟨0, rfl, rfl, Nat.zero_le _, rfl⟩, ?_⟩
    rintro n w6 ⟨i, rfl, rfl, hi, hall⟩ _
    refine brC_intro (fun hlt => ?_) fun hge => ?_
    · have hlt : i < s.size := by have := of_decide_eq_true hlt; omega
      have hl2 : i < (txt s).length := by omega
      have hb := byteAt_txt hlt
      refine ⟨fun w' => w' = w6 ∧ fldI ((txt s)[i].toNat : Int) = true, ?_, fun b w' => w' = w6 ∧ b = !fldI ((txt s)[i].toNat : Int), ?_, ⟨by omega, by omega, ?_⟩⟩
      · rintro w9 ⟨rfl, hc⟩ _
        rw [wrap_small (by omega) (by omega)]
        refine ⟨⟨i + 1, rfl, rfl, hlt, ?_⟩, by dsimp only; omega⟩
        rw [List.take_succ_eq_append_getElem hl2, List.all_append, hall]
        simp [← fldI_eq, hc]
      · rintro b w' ⟨rfl, rfl⟩ _
        refine brC_intro (fun h => ⟨?_, rfl⟩) fun h => ⟨rfl, by simpa using h⟩
        have hf : fieldL (txt s) = false := by
          refine Bool.eq_false_iff.2 fun hx => ?_
          have := (field_all hx).1
          rw [List.all_eq_true] at this
          have := this _ (List.getElem_mem hl2)
          rw [← fldI_eq] at this
          rw [this] at h; cases h
        rw [hf]
      · rw [Int.toNat_natCast, hb]
        refine callC_of (rletter_spec _ w6) fun v w' ⟨e, ew⟩ => ⟨_, e, ?_⟩
        subst ew
        generalize (((txt s)[i]).toNat : Int) = x
        refine brC_intro (fun h1 => ⟨by omega, by omega, brC_intro (fun h2 => ⟨rfl, ?_⟩) fun h2 => ⟨by omega, by omega, ⟨rfl, ?_⟩⟩⟩) fun h1 => ⟨rfl, ?_⟩ <;>
          unfold fldI <;> rw [Bool.eq_iff_iff] <;> simp_all <;> omega
    · have hge := of_decide_eq_false hge
      have : i = s.size := by omega
      subst this
      rw [hsz, List.take_length] at hall
      refine ⟨?_, rfl⟩
      rw [fieldL_eq _ h0, hl, hall, decide_eq_true (by omega : (txt s).length ≤ 24)]
      rfl
  · rintro b w' ⟨rfl, ⟨rfl, hf⟩ | ⟨rfl, h2, h3⟩⟩ _
    · exact brC_tt rfl ⟨by rw [hf], rfl⟩
    · exact brC_ff rfl ⟨rfl, h2, h3⟩
  · refine brC_intro (fun h => ⟨rfl, .inl ⟨rfl, ?_⟩⟩) fun h => brC_intro (fun h' => ⟨rfl, .inl ⟨rfl, ?_⟩⟩) fun h' => ?_
    · have h := of_decide_eq_true h
      have : txt s = [] := List.eq_nil_of_length_eq_zero (by omega)
      rw [this]; rfl
    · have h' := of_decide_eq_true h'
      rw [fieldL_eq _ (by omega), decide_eq_false (by omega : ¬ (txt s).length ≤ 24)]
      rfl
    · have h := of_decide_eq_false h
      have h' := of_decide_eq_false h'
      have h0 : 0 < s.size := by omega
      have hb := byteAt_txt h0
      refine ⟨by omega, by omega, ?_⟩
      rw [hb]
      refine callC_of (rletter_spec _ w) fun v w' ⟨e, ew⟩ => ⟨_, e, ew, ?_⟩
      rw [lettI_eq]
      cases hl : letter ((txt s)[0]'(by omega)) with
      | true => exact .inr ⟨rfl, by omega, by omega, hl⟩
      | false =>
        refine .inl ⟨rfl, ?_⟩
        rw [fieldL_eq _ (by omega), hl]
        simp
end Go.Proofs.YtpddhbdjcgkjcaaGreatDoor

/- The reference's Less. -/
namespace Go.Proofs.YtpddhbdjcgkjcaaGreatDoor
open Go.SX Go.Ty

theorem bytesLess_lt : ∀ (x y : List UInt8), Op.bytesLess x y = decide (x < y)
  | _, [] => by simp [Op.bytesLess]
  | [], _ :: _ => by simp [Op.bytesLess]
  | a :: x, b :: y => by
    rw [Op.bytesLess, bytesLess_lt x y, Bool.eq_iff_iff]
    simp [List.cons_lt_cons_iff]
def lessB (x y : ByteArray) : Bool := Op.bytesLess x.data.toList y.data.toList
theorem lessB_iff {x y : ByteArray} : lessB x y = true ↔ x.data.toList < y.data.toList := by
  unfold lessB; rw [bytesLess_lt, decide_eq_true_eq]
theorem byteAt_eq {s : ByteArray} {i : Nat} (h : i < s.data.toList.length) : byteAt s i = ((s.data.toList[i]).toNat : Int) := by
  have h' : i < s.size := by simpa using h
  unfold byteAt
  rw [getElem?_pos s i h']
  simp [ByteArray.getElem_eq_getElem_data]
theorem bytesLess_nil (y : List UInt8) : Op.bytesLess [] y = decide (0 < y.length) := by cases y <;> rfl
theorem bytesLess_drop (x y : List UInt8) : ∀ i, i ≤ x.length → i ≤ y.length → (∀ j, (h1 : j < x.length) → (h2 : j < y.length) → j < i → x[j] = y[j]) → Op.bytesLess x y = Op.bytesLess (x.drop i) (y.drop i) := by
  intro i
  induction i with
  | zero => intros; simp
  | succ i ih =>
    intro hx hy h
    rw [ih (by omega) (by omega) fun j h1 h2 hj => h j h1 h2 (by omega)]
    have e1 : x.drop i = x[i] :: x.drop (i + 1) := (List.getElem_cons_drop (by omega)).symm
    have e2 : y.drop i = y[i] :: y.drop (i + 1) := (List.getElem_cons_drop (by omega)).symm
    rw [e1, e2, h i (by omega) (by omega) (by omega), Op.bytesLess]
    simp
theorem less_spec (x y : ByteArray) (w : World) (hx : x.size ≤ maxLen) : callC Tryz.prog 47 #[.string x, .string y] w fun v w' => v = .bool (lessB x y) ∧ Upd No w w' := by
  simp only [maxLen] at hx
  have hxl : x.data.toList.length = x.size := by simp
  have hyl : y.data.toList.length = y.size := by simp
  refine rLess_text _ _ _ _ ⟨fun w' => Upd No w w' ∧ lessB x y = decide ((x.size : Int) < (y.size : Int)), fun w1 ⟨u, e⟩ d => ⟨by rw [e], u⟩, ?_⟩
  refine ⟨fun n w' => ∃ i : Nat, n = i ∧ i ≤ x.size ∧ i ≤ y.size ∧ Upd No w w' ∧ ∀ j, (h1 : j < x.data.toList.length) → (h2 : j < y.data.toList.length) → j < i → x.data.toList[j] = y.data.toList[j], fun n _ => (x.size - n).toNat,
    ⟨0, rfl, Nat.zero_le _, Nat.zero_le _, Upd.refl _ _, fun j _ _ h => absurd h (by omega)⟩, ?_⟩
  rintro n w6 ⟨i, rfl, hi, hi', u6, hsame⟩ d
  have hdrop := bytesLess_drop x.data.toList y.data.toList i (by omega) (by omega) hsame
  have hend : ¬ (i < x.size ∧ i < y.size) → lessB x y = decide ((x.size : Int) < (y.size : Int)) := fun h => by
    unfold lessB
    rw [hdrop]
    by_cases hxi : i < x.size
    · have : i = y.size := by omega
      rw [List.drop_of_length_le (l := y.data.toList) (by omega)]
      have : ¬ ((x.size : Int) < (y.size : Int)) := by omega
      simp only [this, decide_false]
      cases x.data.toList.drop i <;> rfl
    · rw [List.drop_of_length_le (l := x.data.toList) (by omega), bytesLess_nil, List.length_drop, hyl, decide_eq_decide]
      omega
  refine ⟨fun w' => i < x.size ∧ i < y.size ∧ Upd No w w', ?_, ?_⟩
  · rintro w9 ⟨hx1, hy1, u9⟩ d
    refine drawC_mk fun w11 u11 s11 => ⟨by omega, by omega, by omega, by omega, ?_⟩
    have u11 : Upd No w w11 := u9.trans u11 fun _ _ => id
    rw [Int.toNat_natCast, byteAt_eq (by omega), byteAt_eq (by omega)]
    have e1 : x.data.toList.drop i = x.data.toList[i] :: x.data.toList.drop (i + 1) := (List.getElem_cons_drop (by omega)).symm
    have e2 : y.data.toList.drop i = y.data.toList[i] :: y.data.toList.drop (i + 1) := (List.getElem_cons_drop (by omega)).symm
    refine brC_intro (fun hne => ?_) fun heq => ?_
    · have hne : x.data.toList[i] ≠ y.data.toList[i] := fun e => by rw [e] at hne; simp at hne
      refine drawC_mk fun w12 u12 s12 => ⟨by omega, by omega, by omega, by omega, ?_, u11.trans u12 fun _ _ => id⟩
      congr 1
      unfold lessB
      rw [hdrop, e1, e2, Op.bytesLess]
      have : (x.data.toList[i] == y.data.toList[i]) = false := by simpa using hne
      rw [this, Bool.false_and, Bool.or_false, decide_eq_decide, UInt8.lt_iff_toNat_lt]
      omega
    · have heq : x.data.toList[i] = y.data.toList[i] := by
        have : ((x.data.toList[i]).toNat : Int) = ((y.data.toList[i]).toNat : Int) := by simpa using heq
        exact UInt8.toNat_inj.1 (by omega)
      have hw : IntKind.wrap .i64 ((i : Int) + 1) = ((i + 1 : Nat) : Int) := Go.SX.wrap_small (by omega) (by omega)
      rw [hw]
      refine ⟨⟨i + 1, rfl, hx1, hy1, u11, fun j h1 h2 hj => ?_⟩, by dsimp only; omega⟩
      by_cases e : j = i
      · subst e; exact heq
      · exact hsame j h1 h2 (by omega)
  · refine brC_intro (fun h1 => brC_intro (fun h2 => ?_) fun h2 => ?_) fun h1 => ?_
    · have h1 := of_decide_eq_true h1; have h2 := of_decide_eq_true h2
      exact ⟨by omega, by omega, u6⟩
    · have h2 := of_decide_eq_false h2
      exact ⟨u6, hend (by omega)⟩
    · have h1 := of_decide_eq_false h1
      exact ⟨u6, hend (by omega)⟩

end Go.Proofs.YtpddhbdjcgkjcaaGreatDoor

/- Texts that are laid together; facts for the reference's write. -/
namespace Go.Proofs.YtpddhbdjcgkjcaaGreatDoor
open Go.SX Go.Ty

theorem size_bs (l : List UInt8) : (bs l).size = l.length := by
  rw [size_txt, txt_bs]
theorem bs_append (a b : List UInt8) : bs (a ++ b) = bs a ++ bs b := by
  apply txt_inj
  rw [txt_bs]
  simp [txt, bs]
theorem join_take_succ (sep : List UInt8) (l : List (List UInt8)) {i : Nat} (h : i < l.length) : join sep (l.take (i + 1)) = (if 0 < i then join sep (l.take i) ++ sep else join sep (l.take i)) ++ l[i] := by
  rw [List.take_succ_eq_append_getElem h, join_snoc]
  by_cases hi : 0 < i
  · rw [if_pos hi, if_neg (fun e => by have := congrArg List.length e; rw [List.length_take, List.length_nil] at this; omega)]
  · have : i = 0 := by omega
    subst this
    simp [join]
theorem join_take_le (sep : List UInt8) (l : List (List UInt8)) (i : Nat) : (join sep (l.take i)).length ≤ (join sep l).length := by
  have key : ∀ n, (join sep (l.take i)).length ≤ (join sep (l.take (i + n))).length := by
    intro n
    induction n with
    | zero => exact Nat.le_refl _
    | succ n ih =>
      refine Nat.le_trans ih ?_
      by_cases h : i + n < l.length
      · rw [← Nat.add_assoc, join_take_succ sep l h]
        split <;> simp only [List.length_append] <;> omega
      · rw [List.take_of_length_le (by omega), List.take_of_length_le (by omega)]
        exact Nat.le_refl _
  have := key l.length
  rwa [List.take_of_length_le (i := i + l.length) (by omega)] at this
end Go.Proofs.YtpddhbdjcgkjcaaGreatDoor

/- Reading a type's cells: rules for the words of the engine's texts. -/
namespace Go.Proofs.YtpddhbdjcgkjcaaGreatDoor
open Go.SX Go.Ty

/-- a type that is opened. -/
structure TyC (F : Nat → Prop) (w : World) (b : Nat) (k : Int) (nm : ByteArray) (ns : List ByteArray) (ta : List T) (r : T) (np : Option Addr) (nc : Nat) (p : Option Addr) (c : Nat) (rp : Option Addr) : Prop where
  inF : F b
  blk : Blk w b #[.int .i64 k, .string nm, .slice np ns.length nc, .slice p ta.length c, .pointer rp] 44
  names : RowAt w ids.str 1 (.slice np ns.length nc) (ns.map Value.string)
  args : TyRow ids F w (.slice p ta.length c) ta
  ret : TyAt ids F w (.pointer rp) r
  len : ns.length ≤ maxLen ∧ ta.length ≤ maxLen

theorem row_len {w : World} {e : TypeId} {p : Option Addr} {n c : Nat} {xs : List Value} (h : RowAt w e 1 (.slice p n c) xs) : n = xs.length ∧ n ≤ maxLen := by
  obtain ⟨q, m, d, e, h1, h2, h3⟩ := h.shape
  cases e
  omega
theorem ty_opens {F : Nat → Prop} {w : World} {x0 : Option Addr} {k : Int} {nm : ByteArray} {ns : List ByteArray} {ta : List T} {r : T} (h : TyAt ids F w (.pointer x0) (.mk k nm ns ta r)) :
    ∃ b np nc p c rp, x0 = some ⟨b, 0, none⟩ ∧ TyC F w b k nm ns ta r np nc p c rp := by
  obtain ⟨b, nv, p, n, c, rp, rfl, hb, hB, hN, hA, hR⟩ := ty_open h
  obtain ⟨np, m, nc, rfl, _⟩ := hN.shape
  obtain ⟨e1, l1⟩ := row_len hN
  rw [List.length_map] at e1
  obtain ⟨e2, l3, l2, _⟩ := hA.get
  subst e1; subst e2
  exact ⟨b, np, nc, p, c, rp, rfl, hb, hB, hN, hA, hR, l1, Nat.le_trans l3 l2⟩
theorem ptr_shape {F : Nat → Prop} {w : World} {v : Value} {t : T} (h : TyAt ids F w v t) : ∃ p : Option Addr, v = .pointer p ∧ p.isNone = t.isNil := by
  cases t with
  | nil => exact ⟨none, h, rfl⟩
  | mk k nm ns ta r =>
    unfold TyAt at h
    obtain ⟨b, nv, av, rv, vs, rfl, _⟩ := h
    exact ⟨_, rfl, rfl⟩
theorem ty_isNone {F : Nat → Prop} {w : World} {p : Option Addr} {t : T} (h : TyAt ids F w (.pointer p) t) : p.isNone = t.isNil := by
  obtain ⟨q, e, h⟩ := ptr_shape h
  cases e; exact h

section
variable {F : Nat → Prop} {w : World} {b : Nat} {k : Int} {nm : ByteArray} {ns : List ByteArray} {ta : List T} {r : T} {np : Option Addr} {nc : Nat} {p : Option Addr} {c : Nat} {rp : Option Addr}
theorem TyC.keep {w' : World} (h : TyC F w b k nm ns ta r np nc p c rp) (u : Upd No w w') : TyC F w' b k nm ns ta r np nc p c rp :=
  ⟨h.inF, h.blk.upd u id, h.names.upd u fun _ _ x => x, h.args.keep u, h.ret.keep u, h.len⟩
theorem TyC.c0 (h : TyC F w b k nm ns ta r np nc p c rp) : w.cell? ⟨b, 0, none⟩ = some (.int .i64 k) := h.blk.cell rfl
theorem TyC.c1 (h : TyC F w b k nm ns ta r np nc p c rp) : w.cell? (Addr.add ⟨b, 0, none⟩ 1) = some (.string nm) := by rw [add_mk]; exact h.blk.cell rfl
theorem TyC.c2 (h : TyC F w b k nm ns ta r np nc p c rp) : w.cell? (Addr.add ⟨b, 0, none⟩ 2) = some (.slice np ns.length nc) := by rw [add_mk]; exact h.blk.cell rfl
theorem TyC.c3 (h : TyC F w b k nm ns ta r np nc p c rp) : w.cell? (Addr.add ⟨b, 0, none⟩ 3) = some (.slice p ta.length c) := by rw [add_mk]; exact h.blk.cell rfl
theorem TyC.c4 (h : TyC F w b k nm ns ta r np nc p c rp) : w.cell? (Addr.add ⟨b, 0, none⟩ 4) = some (.pointer rp) := by rw [add_mk]; exact h.blk.cell rfl
end

/-- a type of a row. -/
theorem argC {F : Nat → Prop} {w : World} {p : Option Addr} {n c : Nat} {l : List T} (h : TyRow ids F w (.slice p n c) l) {i : Nat} (hi : i < l.length) {K : Addr → Option Addr → Prop}
    (hk : ∀ a q, w.cell? (a.add (Int.toNat (i : Int) * 1)) = some (.pointer q) → TyAt ids F w (.pointer q) l[i] → K a q) :
    ptrC p fun a => ∃ q, w.cell? (a.add (Int.toNat (i : Int) * 1)) = some (.pointer q) ∧ K a q := by
  obtain ⟨_, _, _, hg⟩ := h.get
  obtain ⟨g, o, v, rfl, hv, ht⟩ := hg i l[i] (List.getElem?_eq_getElem hi)
  obtain ⟨q, rfl, _⟩ := ptr_shape ht
  have hc : w.cell? (Addr.add ⟨g, o, none⟩ (Int.toNat (i : Int) * 1)) = some (.pointer q) := by rw [add_mk, Int.toNat_natCast, Nat.mul_one]; exact hv
  exact ptrC_some ⟨q, hc, hk _ _ hc ht⟩
/-- a text of a row. -/
theorem nameC' {w : World} {e : TypeId} {p : Option Addr} {n c : Nat} {l : List ByteArray} (h : RowAt w e 1 (.slice p n c) (l.map Value.string)) {i : Nat} (hi : i < l.length) {K : Addr → ByteArray → Prop}
    (hk : ∀ a, w.cell? (a.add (Int.toNat (i : Int) * 1)) = some (.string l[i]) → K a l[i]) :
    ptrC p fun a => ∃ q, w.cell? (a.add (Int.toNat (i : Int) * 1)) = some (.string q) ∧ K a q := by
  obtain ⟨g, o, rfl, hv⟩ := h.get (j := i) (by simpa using hi)
  have hc : w.cell? (Addr.add ⟨g, o, none⟩ (Int.toNat (i : Int) * 1)) = some (.string l[i]) := by
    rw [add_mk, Int.toNat_natCast, Nat.mul_one, hv]; simp
  exact ptrC_some ⟨_, hc, hk _ hc⟩
theorem cell_keep {W w : World} {a : Addr} {v : Value} (h : W.cell? a = some v) (u : Upd No W w) : w.cell? a = some v := by
  have hb := World.block_lt_of_cell? W a h
  have := u.block a.block hb id
  unfold World.cell? at *
  rw [this]; exact h

set_option maxRecDepth 100000 in
theorem lds_str {w : World} {a : Addr} {s : ByteArray} (h : w.cell? a = some (.string s)) : Lds Tryz.prog 9 w a (.string s) := by
  have key : (∃ s', w.cell? a = some (.string s') ∧ Value.string s' = Value.string s) = ldVC Tryz.prog 9 w a (fun v => v = .string s) := by kernel_rfl
  obtain ⟨v, rfl, hr⟩ := semR_out (ldVC_sound (of_eq ⟨_, h, rfl⟩ key))
  exact hr w rfl
set_option maxRecDepth 100000 in
theorem lds_strs {w : World} {a : Addr} {p : Option Addr} {n c : Nat} (h : w.cell? a = some (.slice p n c)) : Lds Tryz.prog 32 w a (.slice p n c) := by
  have key : (∃ p' n' c', w.cell? a = some (.slice p' n' c') ∧ .slice p' n' c' = Value.slice p n c) = ldVC Tryz.prog 32 w a (fun v => v = .slice p n c) := by kernel_rfl
  obtain ⟨v, rfl, hr⟩ := semR_out (ldVC_sound (of_eq ⟨_, _, _, h, rfl⟩ key))
  exact hr w rfl
set_option maxRecDepth 100000 in
theorem lds_typs {w : World} {a : Addr} {p : Option Addr} {n c : Nat} (h : w.cell? a = some (.slice p n c)) : Lds Tryz.prog 33 w a (.slice p n c) := by
  have key : (∃ p' n' c', w.cell? a = some (.slice p' n' c') ∧ .slice p' n' c' = Value.slice p n c) = ldVC Tryz.prog 33 w a (fun v => v = .slice p n c) := by kernel_rfl
  obtain ⟨v, rfl, hr⟩ := semR_out (ldVC_sound (of_eq ⟨_, _, _, h, rfl⟩ key))
  exact hr w rfl
set_option maxRecDepth 100000 in
theorem lds_typ {w : World} {a : Addr} {p : Option Addr} (h : w.cell? a = some (.pointer p)) : Lds Tryz.prog 23 w a (.pointer p) := by
  have key : (∃ p', w.cell? a = some (.pointer p') ∧ Value.pointer p' = Value.pointer p) = ldVC Tryz.prog 23 w a (fun v => v = .pointer p) := by kernel_rfl
  obtain ⟨v, rfl, hr⟩ := semR_out (ldVC_sound (of_eq ⟨_, h, rfl⟩ key))
  exact hr w rfl
theorem wrap_succ {i : Nat} (h : i < 9223372036854775807) : IntKind.wrap .i64 ((i : Int) + 1) = ((i + 1 : Nat) : Int) := by
  rw [wrap_small (by omega) (by omega)]; rfl
theorem wrap_pred {i : Nat} (h : i < 9223372036854775807) : IntKind.wrap .i64 (((i + 1 : Nat) : Int) - 1) = (i : Int) := by
  rw [wrap_small (by omega) (by omega)]; omega
theorem small_args {t a : T} (h : a ∈ t.args) (hs : size t ≤ 60) : size a ≤ 60 := by have := size_args h; omega
theorem len_args {t : T} (h : may t = true) (hs : size t ≤ 60) : t.args.length ≤ 60 := by
  obtain ⟨hA, _, e⟩ := may_args h
  have := length_le_sizes (l := t.args) fun a ha => by
    have := hA a ha
    cases a with
    | nil => cases this
    | mk => rfl
  omega
end Go.Proofs.YtpddhbdjcgkjcaaGreatDoor

/- The reference's write. -/
namespace Go.Proofs.YtpddhbdjcgkjcaaGreatDoor
open Go.SX Go.Ty

theorem mem_lt {l : List T} {i : Nat} (h : i < l.length) : l[i] ∈ l := List.getElem_mem h
theorem cat3 (x y z : List UInt8) : bs x ++ bs y ++ bs z = bs (x ++ y ++ z) := by rw [bs_append, bs_append]
theorem cat_txt (x : List UInt8) (s : ByteArray) : bs x ++ s = bs (x ++ txt s) := by rw [bs_append, bs_txt]
theorem size_cat (x : List UInt8) (s : ByteArray) : (bs x ++ s).size = x.length + s.size := by rw [cat_txt, size_bs, List.length_append, size_txt]
/-- the pieces that a list is written by. -/
def preJ (sep : List UInt8) (l : List (List UInt8)) (q : Nat) : List UInt8 := if 0 < q then join sep (l.take q) ++ sep else join sep (l.take q)
theorem preJ_succ (sep : List UInt8) (l : List (List UInt8)) {q : Nat} (h : q < l.length) : preJ sep l q ++ l[q] = join sep (l.take (q + 1)) := (join_take_succ sep l h).symm
theorem preJ_le (sep : List UInt8) (l : List (List UInt8)) {q : Nat} (h : q < l.length) : (preJ sep l q).length + (l[q]).length ≤ (join sep l).length := by
  rw [← List.length_append, preJ_succ sep l h]
  exact join_take_le sep l _

set_option maxHeartbeats 1000000 in
theorem rwrite_spec : ∀ t : T, may t = true → size t ≤ 60 → ∀ (F : Nat → Prop) (w : World) (x0 : Option Addr), TyAt ids F w (.pointer x0) t →
    callC Tryz.prog 34 #[.pointer x0] w fun v w' => v = .string (bs (write t)) ∧ Upd No w w' := by
  refine ind (fun h => by cases h) fun k nm ns ta r ihA ihR hm hs F w x0 h => ?_
  obtain ⟨b, np, nc, p, c, rp, rfl, C⟩ := ty_opens h
  refine rwrite_text _ _ _ (newC_mk fun w1 B1 u1 s1 => st5 B1 (by decide) fun w6 B6 u6 s6 => ?_)
  have u : Upd No w w6 := u1.trans u6 fun x hx e => absurd e (by omega)
  have C := C.keep u
  refine ptrC_some ⟨k, C.c0, ?_⟩
  have hlen := write_len _ hm
  have hln : ta.length ≤ 60 := len_args hm hs
  have hsa := fun a (ha : a ∈ ta) => small_args (t := .mk k nm ns ta r) ha hs
  cases Go.Ty.shape hm with
  | basic _ h1 h5 =>
    refine brC_ff (by simp; omega) (brC_ff (by simp; omega) (brC_ff (by simp; omega) (brC_ff (by simp; omega) ?_)))
    refine ptrC_some ⟨k, C.c0, ?_⟩
    rw [wrap_small (by omega) (by omega), write_basic h1 h5]
    refine ⟨by omega, by omega, ?_⟩
    have hk : k = 1 ∨ k = 2 ∨ k = 3 ∨ k = 4 ∨ k = 5 := by omega
    rcases hk with rfl | rfl | rfl | rfl | rfl <;> exact ⟨_, by rw [add_mk]; exact B6.cell rfl, rfl, u⟩
  | name _ hn =>
    refine brC_tt rfl (ptrC_some ⟨_, C.c1, ?_, u⟩)
    rw [write_name, bs_txt]
  | record _ _ hl hf hr ha =>
    refine brC_ff rfl (brC_tt rfl ?_)
    rw [write_rec] at hlen ⊢
    generalize hP : (ns.zip ta).map (fun x => txt x.1 ++ [58, 32] ++ write x.2) = ps at hlen ⊢
    have hpl : ps.length = ta.length := by rw [← hP]; simp [hl]
    simp only [List.length_cons, List.length_append, List.length_nil] at hlen
    refine ⟨fun s i w' => ∃ q : Nat, i = q ∧ q ≤ ta.length ∧ s = bs (join [44, 32] (ps.take q)) ∧ Upd No w6 w', fun s i _ => (ta.length - i).toNat, ⟨0, rfl, Nat.zero_le _, rfl, Upd.refl _ _⟩, ?_⟩
    rintro s i w' ⟨q, rfl, hq, rfl, uq⟩ _
    have Cq := C.keep uq
    refine ptrC_some ⟨_, _, _, Cq.c3, brC_intro (fun hlt => ?_) fun hge => ?_⟩
    · have hlt : q < ta.length := by have := of_decide_eq_true hlt; omega
      have hqp : q < ps.length := by omega
      have hqn : q < ns.length := by omega
      have hpq : ps[q] = txt ns[q] ++ [58, 32] ++ write ta[q] := by simp [← hP]
      have hle := preJ_le [44, 32] ps hqp
      rw [hpq] at hle
      simp only [List.length_append, List.length_cons, List.length_nil] at hle
      refine ⟨fun s w'' => s = bs (join [44, 32] (ps.take (q + 1))) ∧ Upd No w6 w'', ?_, fun s w'' => s = bs (preJ [44, 32] ps q) ∧ Upd No w6 w'', ?_, ?_⟩
      · rintro s w9 ⟨rfl, u9⟩ _
        rw [wrap_succ (by omega)]
        exact ⟨⟨q + 1, rfl, hlt, rfl, u9⟩, by dsimp only; omega⟩
      · rintro s w9 ⟨rfl, u9⟩ _
        refine drawC_mk fun w29 ud sd => ⟨fun w'' => Upd No w29 w'', ?_⟩
        have C9 := C.keep (u9.trans ud fun _ _ => id)
        refine ptrC_some ⟨_, _, _, C9.c2, fun w'' u'' => lds_strs (cell_keep C9.c2 u''), ⟨by omega, by omega, ?_⟩⟩
        refine nameC' C9.names hqn fun a hc => ⟨fun w'' u'' => lds_str (cell_keep hc u''), ?_⟩
        have e1 : bs (preJ [44, 32] ps q) ++ ns[q] = bs (preJ [44, 32] ps q ++ txt ns[q]) := cat_txt _ _
        have e2 : (ByteArray.mk #[58, 32]) = bs [58, 32] := rfl
        rw [e1, e2, ← bs_append, size_txt ns[q]]
        simp only [size_bs, List.length_append, List.length_cons, List.length_nil]
        refine ⟨by omega, by omega, ?_⟩
        refine ptrC_some ⟨_, _, _, C9.c3, fun w'' u'' => lds_typs (cell_keep C9.c3 u''), ⟨by omega, by omega, ?_⟩⟩
        refine argC C9.args hlt fun a x hc hx => ⟨fun w'' u'' => lds_typ (cell_keep hc u''), ?_, trivial⟩
        refine callC_of (ihA _ (mem_lt hlt) (ha _ (mem_lt hlt)) (hsa _ (mem_lt hlt)) F w29 x hx) fun v w48 ⟨e, u48⟩ => ⟨_, e, u48, ?_, ?_, ?_⟩
        · rw [size_bs]; omega
        · rw [← preJ_succ [44, 32] ps hqp, hpq, ← bs_append]
          congr 1
          simp [List.append_assoc]
        · exact (u9.trans ud fun _ _ => id).trans u48 fun _ _ => id
      · refine brC_intro (fun h0 => ⟨?_, ?_, uq⟩) fun h0 => ⟨?_, uq⟩
        · have h0 : 0 < q := by have := of_decide_eq_true h0; omega
          rw [size_bs]
          have := join_take_le [44, 32] ps q
          omega
        · have h0 : 0 < q := by have := of_decide_eq_true h0; omega
          unfold preJ
          rw [if_pos h0, bs_append]
          rfl
        · have h0 : ¬ 0 < q := by have := of_decide_eq_false h0; omega
          unfold preJ
          rw [if_neg h0]
    · have hge : q = ta.length := by have := of_decide_eq_false hge; omega
      subst hge
      rw [← hpl, List.take_length]
      have e2 : (ByteArray.mk #[123]) = bs [123] := rfl
      rw [e2, ← bs_append, size_bs, size_bs]
      refine ⟨by omega, by simp only [List.length_append, List.length_cons, List.length_nil]; omega, ?_, u.trans uq fun _ _ => id⟩
      have e3 : (ByteArray.mk #[125]) = bs [125] := rfl
      rw [e3, ← bs_append]
      rfl
  | fn _ _ ha hr =>
    refine brC_ff rfl (brC_ff rfl (brC_tt rfl ?_))
    rw [write_fun] at hlen ⊢
    generalize hP : ta.map write = ps at hlen ⊢
    have hpl : ps.length = ta.length := by rw [← hP]; simp
    simp only [List.length_cons, List.length_append, List.length_nil] at hlen
    refine ⟨fun s i w' => ∃ q : Nat, i = q ∧ q ≤ ta.length ∧ s = bs (join [44, 32] (ps.take q)) ∧ Upd No w6 w', fun s i _ => (ta.length - i).toNat, ⟨0, rfl, Nat.zero_le _, rfl, Upd.refl _ _⟩, ?_⟩
    rintro s i w' ⟨q, rfl, hq, rfl, uq⟩ _
    have Cq := C.keep uq
    refine ptrC_some ⟨_, _, _, Cq.c3, brC_intro (fun hlt => ?_) fun hge => ?_⟩
    · have hlt : q < ta.length := by have := of_decide_eq_true hlt; omega
      have hqp : q < ps.length := by omega
      have hpq : ps[q] = write ta[q] := by simp [← hP]
      have hle := preJ_le [44, 32] ps hqp
      rw [hpq] at hle
      refine ⟨fun s w'' => s = bs (join [44, 32] (ps.take (q + 1))) ∧ Upd No w6 w'', ?_, fun s w'' => s = bs (preJ [44, 32] ps q) ∧ Upd No w6 w'', ?_, ?_⟩
      · rintro s w9 ⟨rfl, u9⟩ _
        rw [wrap_succ (by omega)]
        exact ⟨⟨q + 1, rfl, hlt, rfl, u9⟩, by dsimp only; omega⟩
      · rintro s w9 ⟨rfl, u9⟩ _
        have C9 := C.keep u9
        refine ptrC_some ⟨_, _, _, C9.c3, ⟨by omega, by omega, ?_⟩⟩
        refine argC C9.args hlt fun a x hc hx => ?_
        refine callC_of (ihA _ (mem_lt hlt) (ha _ (mem_lt hlt)) (hsa _ (mem_lt hlt)) F w9 x hx) fun v w48 ⟨e, u48⟩ => ⟨_, e, ?_, ?_, ?_⟩
        · rw [size_bs, size_bs]; omega
        · rw [← preJ_succ [44, 32] ps hqp, hpq, ← bs_append]
        · exact u9.trans u48 fun _ _ => id
      · refine brC_intro (fun h0 => ⟨?_, ?_, uq⟩) fun h0 => ⟨?_, uq⟩
        · have h0 : 0 < q := by have := of_decide_eq_true h0; omega
          rw [size_bs]
          have := join_take_le [44, 32] ps q
          omega
        · have h0 : 0 < q := by have := of_decide_eq_true h0; omega
          unfold preJ
          rw [if_pos h0, bs_append]
          rfl
        · have h0 : ¬ 0 < q := by have := of_decide_eq_false h0; omega
          unfold preJ
          rw [if_neg h0]
    · have hge : q = ta.length := by have := of_decide_eq_false hge; omega
      subst hge
      rw [← hpl, List.take_length]
      have e2 : (ByteArray.mk #[102, 110, 40]) = bs [102, 110, 40] := rfl
      have e3 : (ByteArray.mk #[41, 32, 45, 62, 32]) = bs [41, 32, 45, 62, 32] := rfl
      rw [e2, e3, ← bs_append, ← bs_append]
      simp only [size_bs, List.length_append, List.length_cons, List.length_nil]
      refine ⟨by omega, by omega, ptrC_some ⟨_, Cq.c4, ?_⟩⟩
      refine callC_of (ihR hr (by have := @size_ret 8 .empty [] ta r; omega) F w' rp Cq.ret) fun v w48 ⟨e, u48⟩ => ⟨_, e, ?_, ?_, ?_⟩
      · rw [size_bs]; omega
      · rw [← bs_append]
      · exact (u.trans uq fun _ _ => id).trans u48 fun _ _ => id
  | union _ hl hk hr ha =>
    refine brC_ff rfl (brC_ff rfl (brC_ff rfl (brC_tt rfl ?_)))
    rw [write_union] at hlen ⊢
    generalize hP : ta.map (fun a => inPar a.kind (write a)) = ps at hlen ⊢
    have hpl : ps.length = ta.length := by rw [← hP]; simp
    refine ⟨fun s i w' => ∃ q : Nat, i = q ∧ q ≤ ta.length ∧ s = bs (join [32, 124, 32] (ps.take q)) ∧ Upd No w6 w', fun s i _ => (ta.length - i).toNat, ⟨0, rfl, Nat.zero_le _, rfl, Upd.refl _ _⟩, ?_⟩
    rintro s i w' ⟨q, rfl, hq, rfl, uq⟩ _
    have Cq := C.keep uq
    refine ptrC_some ⟨_, _, _, Cq.c3, brC_intro (fun hlt => ?_) fun hge => ?_⟩
    · have hlt : q < ta.length := by have := of_decide_eq_true hlt; omega
      have hqp : q < ps.length := by omega
      have hpq : ps[q] = inPar ta[q].kind (write ta[q]) := by simp [← hP]
      have hle := preJ_le [32, 124, 32] ps hqp
      rw [hpq] at hle
      refine ⟨fun s w'' => s = bs (join [32, 124, 32] (ps.take (q + 1))) ∧ Upd No w6 w'', ?_, fun s w'' => s = bs (preJ [32, 124, 32] ps q) ∧ Upd No w6 w'', ?_, ?_⟩
      · rintro s w9 ⟨rfl, u9⟩ _
        rw [wrap_succ (by omega)]
        exact ⟨⟨q + 1, rfl, hlt, rfl, u9⟩, by dsimp only; omega⟩
      · rintro s w9 ⟨rfl, u9⟩ _
        have C9 := C.keep u9
        refine ptrC_some ⟨_, _, _, C9.c3, ⟨by omega, by omega, ?_⟩⟩
        refine argC C9.args hlt fun a x hc hx => ?_
        have hm1 := ha _ (mem_lt hlt)
        have hxc : ∃ g, x = some g ∧ w9.cell? g = some (.int .i64 ta[q].kind) := by
          cases hq1 : ta[q] with
          | nil => rw [hq1] at hm1; cases hm1
          | mk k' nm' ns' ta' r' =>
            rw [hq1] at hx
            obtain ⟨_, _, _, _, _, _, rfl, D⟩ := ty_opens hx
            exact ⟨_, rfl, D.c0⟩
        obtain ⟨g, rfl, hg⟩ := hxc
        refine ptrC_some ⟨_, hg, ?_⟩
        refine brC_intro (fun h8 => ?_) fun h8 => ?_
        · have h8 : ta[q].kind = 8 := by simpa using h8
          have hpar : inPar ta[q].kind (write ta[q]) = [40] ++ write ta[q] ++ [41] := by unfold inPar; rw [if_pos h8]; rfl
          rw [hpar] at hle hpq
          simp only [List.length_append, List.length_cons, List.length_nil] at hle
          have e2 : (ByteArray.mk #[40]) = bs [40] := rfl
          have e3 : (ByteArray.mk #[41]) = bs [41] := rfl
          rw [e2, e3, ← bs_append]
          simp only [size_bs, List.length_append, List.length_cons, List.length_nil]
          refine ⟨by omega, ptrC_some ⟨_, _, _, C9.c3, ⟨by omega, by omega, ?_⟩⟩⟩
          refine argC C9.args hlt fun a x hc hx => ?_
          refine callC_of (ihA _ (mem_lt hlt) hm1 (hsa _ (mem_lt hlt)) F w9 x hx) fun v w48 ⟨e, u48⟩ => ⟨_, e, ?_, ?_, ?_, ?_⟩
          · rw [size_bs]; omega
          · rw [← bs_append, size_bs]; simp only [List.length_append, List.length_cons, List.length_nil]; omega
          · rw [← preJ_succ [32, 124, 32] ps hqp, hpq, ← bs_append, ← bs_append]
            congr 1
            simp [List.append_assoc]
          · exact u9.trans u48 fun _ _ => id
        · have h8 : ¬ ta[q].kind = 8 := by simpa using h8
          have hpar : inPar ta[q].kind (write ta[q]) = write ta[q] := by unfold inPar; rw [if_neg h8]
          rw [hpar] at hle hpq
          refine ptrC_some ⟨_, _, _, C9.c3, ⟨by omega, by omega, ?_⟩⟩
          refine argC C9.args hlt fun a x hc hx => ?_
          refine callC_of (ihA _ (mem_lt hlt) hm1 (hsa _ (mem_lt hlt)) F w9 x hx) fun v w48 ⟨e, u48⟩ => ⟨_, e, ?_, ?_, ?_⟩
          · rw [size_bs, size_bs]; omega
          · rw [← preJ_succ [32, 124, 32] ps hqp, hpq, ← bs_append]
          · exact u9.trans u48 fun _ _ => id
      · refine brC_intro (fun h0 => ⟨?_, ?_, uq⟩) fun h0 => ⟨?_, uq⟩
        · have h0 : 0 < q := by have := of_decide_eq_true h0; omega
          rw [size_bs]
          have := join_take_le [32, 124, 32] ps q
          omega
        · have h0 : 0 < q := by have := of_decide_eq_true h0; omega
          unfold preJ
          rw [if_pos h0, bs_append]
          rfl
        · have h0 : ¬ 0 < q := by have := of_decide_eq_false h0; omega
          unfold preJ
          rw [if_neg h0]
    · have hge : q = ta.length := by have := of_decide_eq_false hge; omega
      subst hge
      rw [← hpl, List.take_length]
      exact ⟨rfl, u.trans uq fun _ _ => id⟩
end Go.Proofs.YtpddhbdjcgkjcaaGreatDoor

/- The reference's may, Check, Text. -/
namespace Go.Proofs.YtpddhbdjcgkjcaaGreatDoor
open Go.SX Go.Ty

theorem rising_take (l : List (List UInt8)) : rising l = true ↔ ∀ i, (h : i + 1 < l.length) → l[i] < l[i + 1] := by
  induction l with
  | nil => simp [rising]
  | cons a l ih =>
    cases l with
    | nil => simp [rising]
    | cons b l =>
      rw [rising, Bool.and_eq_true, decide_eq_true_eq, ih]
      constructor
      · rintro ⟨h1, h2⟩ i h
        cases i with
        | zero => exact h1
        | succ i => exact h2 i (by simpa using h)
      · intro h
        exact ⟨h 0 (by simp), fun i hi => h (i + 1) (by simpa using hi)⟩
theorem lessB_bs (x y : ByteArray) : lessB x y = decide (txt x < txt y) := by
  rw [Bool.eq_iff_iff, lessB_iff, decide_eq_true_eq]
  rfl
theorem beq_bytes (x y : ByteArray) : (x.toList == y.toList) = decide (x = y) := by
  rw [Bool.eq_iff_iff, beq_iff_eq, ByteArray.toList_eq, ByteArray.toList_eq, decide_eq_true_eq]
  constructor
  · intro h
    cases x; cases y
    congr 1
    exact Array.toList_inj.1 h
  · rintro rfl; rfl
theorem isEmpty_len {α : Type} (l : List α) : l.isEmpty = decide (l.length = 0) := by cases l <;> simp

/-- the first test. -/
def headB (k : Int) (nm : ByteArray) (ns : List ByteArray) (ta : List T) (r : T) : Bool :=
  decide (1 ≤ k) && decide (k ≤ 9) && (decide (nm = .empty) || k == 6) && (ns.isEmpty || k == 7) && (ta.isEmpty || decide (7 ≤ k)) && ((!r.isNil) == (k == 8))
/-- what the reference tests besides: a named type has a name. -/
theorem may_head {k : Int} {nm : ByteArray} {ns : List ByteArray} {ta : List T} {r : T} (h : may (.mk k nm ns ta r) = true) : headB k nm ns ta r = true ∧ (k = 6 → nm ≠ .empty) := by
  rw [may] at h
  simp only [Bool.and_eq_true] at h
  refine ⟨?_, fun e en => ?_⟩
  · unfold headB
    simp only [Bool.and_eq_true]
    exact h.1.1
  · subst e
    have := h.2
    rw [if_pos rfl, en] at this
    exact absurd this (by decide)
/-- the last test. -/
def tailB (k : Int) (nm : ByteArray) (ns : List ByteArray) (ta : List T) (r : T) : Bool :=
  if k = 6 then namedL (txt nm)
  else if k = 7 then ns.length == ta.length && (ns.all fun n => fieldL (txt n)) && rising (ns.map txt)
  else if k = 8 then may r
  else if k = 9 then decide (2 ≤ ta.length) && (ta.all fun a => !(a.kind == 9) && !(a.kind == 1)) && rising (ta.map write)
  else true
theorem may_eq (k : Int) (nm : ByteArray) (ns : List ByteArray) (ta : List T) (r : T) : may (.mk k nm ns ta r) = (headB k nm ns ta r && ta.all may && tailB k nm ns ta r) := by
  rw [may, mays_all, writes_map]
  rfl
end Go.Proofs.YtpddhbdjcgkjcaaGreatDoor

/- The reference's may. -/
namespace Go.Proofs.YtpddhbdjcgkjcaaGreatDoor
open Go.SX Go.Ty

/-- what both ask of a type's own fields; the reference asks too that a named type has a name. -/
structure HeadP (k : Int) (nm : ByteArray) (ns : List ByteArray) (ta : List T) (r : T) : Prop where
  lo : 1 ≤ k
  hi : k ≤ 9
  nmE : nm = .empty ∨ k = 6
  nmN : k = 6 → nm ≠ .empty
  nsE : ns = [] ∨ k = 7
  taE : ta = [] ∨ 7 ≤ k
  ret : (!r.isNil) = (k == 8)
theorem headP {k : Int} {nm : ByteArray} {ns : List ByteArray} {ta : List T} {r : T} (h : may (.mk k nm ns ta r) = true) : HeadP k nm ns ta r := by
  obtain ⟨h, h6⟩ := may_head h
  unfold headB at h
  simp only [Bool.and_eq_true, Bool.or_eq_true, decide_eq_true_eq, beq_iff_eq, List.isEmpty_iff] at h
  obtain ⟨⟨⟨⟨⟨h1, h2⟩, h3⟩, h4⟩, h5⟩, h7⟩ := h
  exact ⟨h1, h2, h3, h6, h4, h5, h7⟩
theorem may_of_head {k : Int} {nm : ByteArray} {ns : List ByteArray} {ta : List T} {r : T} (H : HeadP k nm ns ta r) (ha : ∀ a ∈ ta, may a = true) : may (.mk k nm ns ta r) = tailB k nm ns ta r := by
  have h1 : headB k nm ns ta r = true := by
    unfold headB
    simp only [Bool.and_eq_true, Bool.or_eq_true, decide_eq_true_eq, beq_iff_eq, List.isEmpty_iff]
    exact ⟨⟨⟨⟨⟨H.lo, H.hi⟩, H.nmE⟩, H.nsE⟩, H.taE⟩, H.ret⟩
  have h2 : ta.all may = true := List.all_eq_true.2 ha
  rw [may_eq, h1, h2]
  rfl
theorem may_arg_false {k : Int} {nm : ByteArray} {ns : List ByteArray} {ta : List T} {r a : T} (ha : a ∈ ta) (h : may a = false) : may (.mk k nm ns ta r) = false := by
  refine Bool.eq_false_iff.2 fun hm => ?_
  have := (may_args hm).1 a ha
  rw [h] at this; cases this
theorem not_head {k : Int} {nm : ByteArray} {ns : List ByteArray} {ta : List T} {r : T} (h : ¬ HeadP k nm ns ta r) : may (.mk k nm ns ta r) = false := Bool.eq_false_iff.2 fun hm => h (headP hm)
theorem rec_false {nm : ByteArray} {ns : List ByteArray} {ta : List T} {r : T} (h : ¬ (ns.length = ta.length ∧ (∀ n ∈ ns, fieldL (txt n) = true) ∧ rising (ns.map txt) = true)) : may (.mk 7 nm ns ta r) = false := by
  refine Bool.eq_false_iff.2 fun hm => h ?_
  rw [may_eq] at hm
  simp only [Bool.and_eq_true, tailB, beq_iff_eq, List.all_eq_true] at hm
  have := hm.2
  rw [if_neg (by omega), if_pos trivial] at this
  simp only [Bool.and_eq_true, beq_iff_eq, List.all_eq_true] at this
  exact ⟨this.1.1, this.1.2, this.2⟩
theorem union_false {nm : ByteArray} {ns : List ByteArray} {ta : List T} {r : T} (h : ¬ (2 ≤ ta.length ∧ (∀ a ∈ ta, a.kind ≠ 9 ∧ a.kind ≠ 1) ∧ rising (ta.map write) = true)) : may (.mk 9 nm ns ta r) = false := by
  refine Bool.eq_false_iff.2 fun hm => h ?_
  rw [may_eq] at hm
  simp only [Bool.and_eq_true, tailB] at hm
  have := hm.2
  rw [if_neg (by omega), if_neg (by omega), if_neg (by omega), if_pos trivial] at this
  simp only [Bool.and_eq_true, decide_eq_true_eq, List.all_eq_true, Bool.not_eq_true', beq_eq_false_iff_ne] at this
  exact ⟨this.1.1, this.1.2, this.2⟩
theorem kindC {F : Nat → Prop} {w : World} {x : Option Addr} {t : T} (h : TyAt ids F w (.pointer x) t) (hn : t.isNil = false) : ∃ g, x = some g ∧ w.cell? g = some (.int .i64 t.kind) := by
  cases t with
  | nil => cases hn
  | mk k nm ns ta r =>
    obtain ⟨_, _, _, _, _, _, rfl, D⟩ := ty_opens h
    exact ⟨_, rfl, D.c0⟩
theorem may_notNil {t : T} (h : may t = true) : t.isNil = false := by
  cases t with
  | nil => cases h
  | mk => rfl
theorem up {A B C : World} (u : Upd No A B) (v : Upd No B C) : Upd No A C := u.trans v fun _ _ => id

set_option maxHeartbeats 2000000 in
theorem rmay_spec : ∀ t : T, size t ≤ 60 → ∀ (F : Nat → Prop) (w : World) (x0 : Option Addr), TyAt ids F w (.pointer x0) t →
    callC Tryz.prog 30 #[.pointer x0] w fun v w' => v = .bool (may t) ∧ Upd No w w' := by
  refine ind (fun _ F w x0 h => ?_) fun k nm ns ta r ihA ihR hs F w x0 h => ?_
  · obtain rfl : x0 = none := by unfold TyAt at h; cases h; rfl
    refine rmay_text _ _ _ ⟨fun _ => False, fun _ h => h.elim, fun b w' => b = true ∧ w' = w, ?_, brC_tt rfl ⟨rfl, rfl⟩⟩
    rintro b w' ⟨rfl, rfl⟩ _
    exact brC_tt rfl ⟨rfl, Upd.refl _ _⟩
  obtain ⟨b, np, nc, p, c, rp, rfl, C⟩ := ty_opens h
  have hsa := fun a (ha : a ∈ ta) => small_args (t := .mk k nm ns ta r) ha hs
  have hnl := C.len
  simp only [maxLen] at hnl
  refine rmay_text _ _ _ ⟨fun w' => w' = w ∧ 1 ≤ k ∧ k ≤ 9, ?_, fun b w' => w' = w ∧ ((b = true ∧ may (.mk k nm ns ta r) = false) ∨ (b = false ∧ 1 ≤ k ∧ k ≤ 9)), ?_, ?_⟩
  rotate_left
  · rintro b w' ⟨rfl, ⟨rfl, hf⟩ | ⟨rfl, hk⟩⟩ _
    · exact brC_tt rfl ⟨by rw [hf], Upd.refl _ _⟩
    · exact brC_ff rfl ⟨rfl, hk⟩
  · refine brC_ff rfl (ptrC_some ⟨_, C.c0, brC_intro (fun h1 => ⟨rfl, .inl ⟨rfl, ?_⟩⟩) fun h1 => ptrC_some ⟨_, C.c0, rfl, ?_⟩⟩)
    · have h1 := of_decide_eq_true h1
      exact not_head fun H => by have := H.lo; omega
    · have h1 := of_decide_eq_false h1
      by_cases h9 : k > 9
      · exact .inl ⟨by simpa using h9, not_head fun H => by have := H.hi; omega⟩
      · exact .inr ⟨by simpa using h9, by omega, by omega⟩
  rintro w1 ⟨rfl, hk1, hk9⟩ _
  refine ⟨fun w' => Upd No w1 w' ∧ HeadP k nm ns ta r, ?_, fun b w' => Upd No w1 w' ∧ ((b = true ∧ may (.mk k nm ns ta r) = false) ∨ (b = false ∧ HeadP k nm ns ta r)), ?_, ?_⟩
  rotate_left
  · rintro b w' ⟨u, ⟨rfl, hf⟩ | ⟨rfl, H⟩⟩ _
    · exact brC_tt rfl ⟨by rw [hf], u⟩
    · exact brC_ff rfl ⟨u, H⟩
  · refine drawC_mk fun w152 u152 _ => ?_
    have C := C.keep u152
    refine ptrC_some ⟨_, C.c1, ptrC_some ⟨_, C.c0, ?_⟩⟩
    have e0 : (ByteArray.mk #[]) = ByteArray.empty := rfl
    rw [e0, beq_bytes]
    have hR := ty_isNone C.ret
    have last : (nm = .empty ∨ k = 6) → (k = 6 → nm ≠ .empty) → (ns = [] ∨ k = 7) → (ta = [] ∨ 7 ≤ k) →
        Upd No w1 w152 ∧ (((!(!rp.isNone) == (k == 8)) = true ∧ may (.mk k nm ns ta r) = false) ∨ ((!(!rp.isNone) == (k == 8)) = false ∧ HeadP k nm ns ta r)) := fun g1 g2 g3 g4 => by
      refine ⟨u152, ?_⟩
      rw [hR]
      by_cases e : (!r.isNil) = (k == 8)
      · exact .inr ⟨by rw [e]; simp, hk1, hk9, g1, g2, g3, g4, e⟩
      · exact .inl ⟨by simpa using e, not_head fun H => e H.ret⟩
    refine brC_intro (fun h1 => ⟨u152, .inl ⟨rfl, not_head fun H => ?_⟩⟩) fun h1 => ?_
    · rcases H.nmE with e | e
      · have : k ≠ 6 := fun e6 => H.nmN e6 e
        subst e
        simp [this] at h1
      · have := H.nmN e
        subst e
        simp [this] at h1
    have g1 : nm = .empty ∨ k = 6 := by
      by_cases e : nm = .empty
      · exact .inl e
      · right
        have e' : decide (nm = ByteArray.empty) = false := by simpa using e
        rw [e'] at h1
        simpa using h1
    have g2 : k = 6 → nm ≠ .empty := fun e en => by
      subst e
      subst en
      simp at h1
    refine ptrC_some ⟨_, _, _, C.c2, brC_intro (fun h2 => ptrC_some ⟨_, C.c0, brC_intro (fun h3 => ⟨u152, .inl ⟨rfl, not_head fun H => ?_⟩⟩) fun h3 => ?_⟩) fun h2 => ?_⟩
    · have h2 := of_decide_eq_true h2
      rcases H.nsE with e | e
      · subst e; simp at h2
      · subst e; simp at h3
    · have g3 : ns = [] ∨ k = 7 := .inr (by simpa using h3)
      refine ptrC_some ⟨_, _, _, C.c3, brC_intro (fun h4 => ptrC_some ⟨_, C.c0, brC_intro (fun h5 => ?_) fun h5 => ?_⟩) fun h4 => ?_⟩
      · have h5 := of_decide_eq_true h5
        have : k = 7 := by simpa using h3
        omega
      · exact ptrC_some ⟨_, C.c4, ptrC_some ⟨_, C.c0, last g1 g2 g3 (.inr (by have := of_decide_eq_false h5; omega))⟩⟩
      · exact ptrC_some ⟨_, C.c4, ptrC_some ⟨_, C.c0, last g1 g2 g3 (.inl (List.eq_nil_of_length_eq_zero (by have := of_decide_eq_false h4; omega)))⟩⟩
    · have g3 : ns = [] ∨ k = 7 := .inl (List.eq_nil_of_length_eq_zero (by have := of_decide_eq_false h2; omega))
      refine ptrC_some ⟨_, _, _, C.c3, brC_intro (fun h4 => ptrC_some ⟨_, C.c0, brC_intro (fun h5 => ⟨u152, .inl ⟨rfl, not_head fun H => ?_⟩⟩) fun h5 => ?_⟩) fun h4 => ?_⟩
      · have h5 := of_decide_eq_true h5
        have h4 := of_decide_eq_true h4
        rcases H.taE with e | e
        · subst e; simp at h4
        · omega
      · exact ptrC_some ⟨_, C.c4, ptrC_some ⟨_, C.c0, last g1 g2 g3 (.inr (by have := of_decide_eq_false h5; omega))⟩⟩
      · exact ptrC_some ⟨_, C.c4, ptrC_some ⟨_, C.c0, last g1 g2 g3 (.inl (List.eq_nil_of_length_eq_zero (by have := of_decide_eq_false h4; omega)))⟩⟩
  rintro w4 ⟨u4, H⟩ _
  have C := C.keep u4
  refine ⟨fun n w' => ∃ i : Nat, n = i ∧ i ≤ ta.length ∧ Upd No w4 w' ∧ ∀ a ∈ ta.take i, may a = true, fun n _ => (ta.length - n).toNat, ⟨0, rfl, Nat.zero_le _, Upd.refl _ _, fun a ha => by cases ha⟩, ?_⟩
  rintro n w9 ⟨i, rfl, hi, u9, hall⟩ _
  have C := C.keep u9
  have uW := up u4 u9
  refine ptrC_some ⟨_, _, _, C.c3, brC_intro (fun hlt => ?_) fun hge => ?_⟩
  · have hlt : i < ta.length := by have := of_decide_eq_true hlt; omega
    refine ptrC_some ⟨_, _, _, C.c3, ⟨by omega, by omega, ?_⟩⟩
    refine argC C.args hlt fun a x hc hx => ?_
    refine callC_of (ihA _ (mem_lt hlt) (hsa _ (mem_lt hlt)) F w9 x hx) fun v w22 ⟨e, u22⟩ => ⟨_, e, brC_intro (fun hb => ⟨?_, up uW u22⟩) fun hb => ?_⟩
    · rw [may_arg_false (mem_lt hlt) (by simpa using hb)]
    · rw [wrap_succ (by omega)]
      refine ⟨⟨i + 1, rfl, hlt, up u9 u22, fun a ha => ?_⟩, by dsimp only; omega⟩
      rw [List.take_succ_eq_append_getElem hlt, List.mem_append, List.mem_singleton] at ha
      rcases ha with ha | rfl
      · exact hall a ha
      · simpa using hb
  have hi : i = ta.length := by have := of_decide_eq_false hge; omega
  subst hi
  rw [List.take_length] at hall
  have hT := may_of_head H hall
  unfold tailB at hT
  refine ptrC_some ⟨_, C.c0, brC_intro (fun h6 => ?_) fun h6 => ?_⟩
  · obtain rfl : k = 6 := by simpa using h6
    rw [if_pos rfl] at hT
    refine ptrC_some ⟨_, C.c1, callC_of (rNamed_spec nm w9) fun v w' ⟨e, ew⟩ => ⟨_, e, by rw [hT], ?_⟩⟩
    subst ew
    exact uW
  have h6 : k ≠ 6 := by simpa using h6
  rw [if_neg h6] at hT
  refine brC_intro (fun h7 => ?_) fun h7 => ?_
  · obtain rfl : k = 7 := by simpa using h7
    rw [if_pos rfl] at hT
    refine drawC_mk fun w31 u31 _ => ?_
    have C := C.keep u31
    refine ptrC_some ⟨_, _, _, C.c2, ptrC_some ⟨_, _, _, C.c3, brC_intro (fun hne => ⟨?_, up uW u31⟩) fun heq => ?_⟩⟩
    · rw [rec_false fun hx => ?_]
      rw [hx.1] at hne; simp at hne
    have heq : (ns.length : Int) = ta.length := by simpa using heq
    have heq : ns.length = ta.length := by omega
    have hta : ta.length ≤ 60 := by
      have : size (.mk 7 nm ns ta r) = 1 + sizes ta + size r := by rw [size]
      have := length_le_sizes (l := ta) fun a ha => may_notNil (hall a ha)
      omega
    refine ⟨fun n w' => ∃ i : Nat, n = i ∧ i ≤ ns.length ∧ Upd No w31 w' ∧ (∀ a ∈ ns.take i, fieldL (txt a) = true) ∧ ∀ j, (h : j + 1 < ns.length) → j + 1 < i → txt ns[j] < txt ns[j + 1], fun n _ => (ns.length - n).toNat,
      ⟨0, rfl, Nat.zero_le _, Upd.refl _ _, (fun a ha => by cases ha), fun j _ h => absurd h (by omega)⟩, ?_⟩
    rintro n w43 ⟨i, rfl, hi, u43, hF, hR⟩ _
    have C := C.keep u43
    have uV := up (up uW u31) u43
    refine ptrC_some ⟨_, _, _, C.c2, brC_intro (fun hlt => ?_) fun hge => ⟨?_, uV⟩⟩
    · have hlt : i < ns.length := by have := of_decide_eq_true hlt; omega
      refine ⟨fun w' => Upd No w31 w' ∧ fieldL (txt ns[i]) = true ∧ ∀ j, (h : j + 1 < ns.length) → j + 1 = i → txt ns[j] < txt ns[j + 1], ?_, fun b w' => Upd No w31 w' ∧ ((b = true ∧ may (.mk 7 nm ns ta r) = false) ∨ (b = false ∧ fieldL (txt ns[i]) = true ∧ ∀ j, (h : j + 1 < ns.length) → j + 1 = i → txt ns[j] < txt ns[j + 1])), ?_, ?_⟩
      · rintro w50 ⟨u50, f50, r50⟩ _
        rw [wrap_succ (by omega)]
        refine ⟨⟨i + 1, rfl, hlt, u50, fun a ha => ?_, fun j hj hji => ?_⟩, by dsimp only; omega⟩
        · rw [List.take_succ_eq_append_getElem hlt, List.mem_append, List.mem_singleton] at ha
          rcases ha with ha | rfl
          · exact hF a ha
          · exact f50
        · by_cases e : j + 1 = i
          · exact r50 j hj e
          · exact hR j hj (by omega)
      · rintro b w54 ⟨u54, ⟨rfl, hf⟩ | ⟨rfl, h⟩⟩ _
        · exact brC_tt rfl ⟨by rw [hf], up (up uW u31) u54⟩
        · exact brC_ff rfl ⟨u54, h⟩
      · refine drawC_mk fun w56 u56 _ => ⟨fun w' => Upd No w56 w', ?_⟩
        have C := C.keep u56
        refine ptrC_some ⟨_, _, _, C.c2, fun w' u' => lds_strs (cell_keep C.c2 u'), ⟨by omega, by omega, ?_⟩⟩
        refine nameC' C.names hlt fun a hc => ⟨fun w' u' => lds_str (cell_keep hc u'), callC_of (rField_spec ns[i] w56) fun v w67 ⟨e, ew⟩ => ⟨_, e, ?_⟩, trivial⟩
        subst ew
        have u67 := up u43 u56
        refine ⟨Upd.refl _ _, brC_intro (fun hb => ⟨⟨u67, .inl ⟨rfl, ?_⟩⟩, trivial⟩) fun hb => brC_intro (fun h0 => ?_) fun h0 => ⟨⟨u67, .inr ⟨rfl, by simpa using hb, fun j hj e => ?_⟩⟩, trivial⟩⟩
        · refine rec_false fun hx => ?_
          rw [hx.2.1 _ (List.getElem_mem hlt)] at hb
          cases hb
        · obtain ⟨j, rfl⟩ : ∃ j, i = j + 1 := ⟨i - 1, by have := of_decide_eq_true h0; omega⟩
          have hb : fieldL (txt ns[j + 1]) = true := by simpa using hb
          have hfj : fieldL (txt ns[j]) = true := hF _ (by rw [List.mem_take_iff_getElem]; exact ⟨j, by omega, rfl⟩)
          rw [wrap_pred (by omega)]
          refine ptrC_some ⟨_, _, _, C.c2, fun w' u' => lds_strs (cell_keep C.c2 u'), ⟨by omega, by omega, ?_⟩⟩
          refine nameC' C.names (show j < ns.length by omega) fun a' hc' => ⟨fun w' u' => lds_str (cell_keep hc' u'), ?_⟩
          refine ptrC_some ⟨_, _, _, C.c2, fun w' u' => lds_strs (cell_keep C.c2 u'), ⟨by omega, by omega, ?_⟩⟩
          refine nameC' C.names hlt fun a'' hc'' => ⟨fun w' u' => lds_str (cell_keep hc'' u'), ?_, trivial⟩
          have hsj : ns[j].size ≤ maxLen := by
            rw [size_txt]
            simp only [fieldL, Bool.and_eq_true, decide_eq_true_eq] at hfj
            simp only [maxLen]; omega
          refine callC_of (less_spec ns[j] ns[j + 1] _ hsj) fun v w86 ⟨e, u86⟩ => ⟨_, e, u86, up u67 u86, ?_⟩
          rw [lessB_bs]
          by_cases hl : txt ns[j] < txt ns[j + 1]
          · exact .inr ⟨by simpa using hl, hb, fun j' hj' e => by cases (show j' = j by omega); exact hl⟩
          · refine .inl ⟨by simpa using hl, rec_false fun hx => hl ?_⟩
            have := (rising_take (ns.map txt)).1 hx.2.2 j (by simpa using hlt)
            simpa using this
        · have := of_decide_eq_false h0; omega
    · have hi : i = ns.length := by have := of_decide_eq_false hge; omega
      subst hi
      rw [List.take_length] at hF
      have h1 : rising (ns.map txt) = true := (rising_take _).2 fun j hj => by
        have hj' : j + 1 < ns.length := by simpa using hj
        simpa using hR j hj' hj'
      have h2 : (ns.all fun n => fieldL (txt n)) = true := List.all_eq_true.2 hF
      rw [hT, h1, h2, heq]
      simp
  have h7 : k ≠ 7 := by simpa using h7
  rw [if_neg h7] at hT
  refine brC_intro (fun h8 => ?_) fun h8 => ?_
  · obtain rfl : k = 8 := by simpa using h8
    rw [if_pos rfl] at hT
    refine ptrC_some ⟨_, C.c4, callC_of (ihR (by have := @size_ret 8 nm ns ta r; omega) F w9 rp C.ret) fun v w' ⟨e, u'⟩ => ⟨_, e, by rw [hT], up uW u'⟩⟩
  have h8 : k ≠ 8 := by simpa using h8
  rw [if_neg h8] at hT
  refine brC_intro (fun h9 => ?_) fun h9 => ⟨?_, uW⟩
  rotate_left
  · have h9 : k ≠ 9 := by simpa using h9
    rw [hT, if_neg h9]
  obtain rfl : k = 9 := by simpa using h9
  rw [if_pos rfl] at hT
  have hta : ta.length ≤ 60 := by
    have : size (.mk 9 nm ns ta r) = 1 + sizes ta + size r := by rw [size]
    have := length_le_sizes (l := ta) fun a ha => may_notNil (hall a ha)
    omega
  refine ⟨fun n w' => ∃ i : Nat, n = i ∧ i ≤ ta.length ∧ Upd No w9 w' ∧ (∀ a ∈ ta.take i, a.kind ≠ 9 ∧ a.kind ≠ 1) ∧ ∀ j, (h : j + 1 < ta.length) → j + 1 < i → write ta[j] < write ta[j + 1], fun n _ => (ta.length - n).toNat,
    ⟨0, rfl, Nat.zero_le _, Upd.refl _ _, (fun a ha => by cases ha), fun j _ h => absurd h (by omega)⟩, ?_⟩
  rintro n w96 ⟨i, rfl, hi, u96, hF, hR⟩ _
  have C := C.keep u96
  have uV := up uW u96
  refine ptrC_some ⟨_, _, _, C.c3, brC_intro (fun hlt => ?_) fun hge => ptrC_some ⟨_, _, _, C.c3, ?_, uV⟩⟩
  · have hlt : i < ta.length := by have := of_decide_eq_true hlt; omega
    refine ⟨fun w' => Upd No w9 w' ∧ (ta[i].kind ≠ 9 ∧ ta[i].kind ≠ 1) ∧ ∀ j, (h : j + 1 < ta.length) → j + 1 = i → write ta[j] < write ta[j + 1], ?_, ?_⟩
    · rintro w50 ⟨u50, f50, r50⟩ _
      rw [wrap_succ (by omega)]
      refine ⟨⟨i + 1, rfl, hlt, u50, fun a ha => ?_, fun j hj hji => ?_⟩, by dsimp only; omega⟩
      · rw [List.take_succ_eq_append_getElem hlt, List.mem_append, List.mem_singleton] at ha
        rcases ha with ha | rfl
        · exact hF a ha
        · exact f50
      · by_cases e : j + 1 = i
        · exact r50 j hj e
        · exact hR j hj (by omega)
    refine ptrC_some ⟨_, _, _, C.c3, ⟨by omega, by omega, ?_⟩⟩
    refine argC C.args hlt fun a x hc hx => ?_
    obtain ⟨g, rfl, hg⟩ := kindC hx (may_notNil (hall _ (mem_lt hlt)))
    refine ptrC_some ⟨_, hg, ⟨fun b w' => Upd No w9 w' ∧ ((b = true ∧ may (.mk 9 nm ns ta r) = false) ∨ (b = false ∧ (ta[i].kind ≠ 9 ∧ ta[i].kind ≠ 1) ∧ ∀ j, (h : j + 1 < ta.length) → j + 1 = i → write ta[j] < write ta[j + 1])), ?_, ?_⟩⟩
    · rintro b w54 ⟨u54, ⟨rfl, hf⟩ | ⟨rfl, h⟩⟩ _
      · exact brC_tt rfl ⟨by rw [hf], up uW u54⟩
      · exact brC_ff rfl ⟨u54, h⟩
    refine drawC_mk fun w117 u117 _ => ⟨fun w' => Upd No w117 w', ?_⟩
    have C := C.keep u117
    have u67 := up u96 u117
    refine brC_intro (fun k9 => ⟨⟨⟨⟨u67, .inl ⟨rfl, union_false fun hx => ?_⟩⟩, trivial⟩, trivial⟩, trivial⟩) fun k9 => brC_intro (fun k1 => ⟨⟨⟨⟨u67, .inl ⟨rfl, union_false fun hx => ?_⟩⟩, trivial⟩, trivial⟩, trivial⟩) fun k1 => ?_
    · exact (hx.2.1 _ (mem_lt hlt)).1 (by simpa using k9)
    · exact (hx.2.1 _ (mem_lt hlt)).2 (by simpa using k1)
    have hkk : ta[i].kind ≠ 9 ∧ ta[i].kind ≠ 1 := ⟨by simpa using k9, by simpa using k1⟩
    refine brC_intro (fun h0 => ?_) fun h0 => ⟨⟨⟨⟨u67, .inr ⟨rfl, hkk, fun j hj e => ?_⟩⟩, trivial⟩, trivial⟩, trivial⟩
    · obtain ⟨j, rfl⟩ : ∃ j, i = j + 1 := ⟨i - 1, by have := of_decide_eq_true h0; omega⟩
      rw [wrap_pred (by omega)]
      have hlj : j < ta.length := by omega
      refine ptrC_some ⟨_, _, _, C.c3, fun w' u' => lds_typs (cell_keep C.c3 u'), ⟨by omega, by omega, ?_⟩⟩
      refine argC C.args hlj fun a1 x1 hc1 hx1 => ⟨fun w' u' => lds_typ (cell_keep hc1 u'), ?_⟩
      refine ptrC_some ⟨_, _, _, C.c3, fun w' u' => lds_typs (cell_keep C.c3 u'), ⟨by omega, by omega, ?_⟩⟩
      refine argC C.args hlt fun a2 x2 hc2 hx2 => ⟨fun w' u' => lds_typ (cell_keep hc2 u'), ?_, trivial⟩
      refine callC_of (rwrite_spec _ (hall _ (mem_lt hlj)) (hsa _ (mem_lt hlj)) F _ x1 hx1) fun v w136 ⟨e, u136⟩ => ⟨_, e, u136, ?_, trivial⟩
      refine callC_of (rwrite_spec _ (hall _ (mem_lt hlt)) (hsa _ (mem_lt hlt)) F _ x2 (hx2.keep u136)) fun v w139 ⟨e, u139⟩ => ⟨_, e, up u136 u139, ?_, trivial⟩
      have hsj : (bs (write ta[j])).size ≤ maxLen := by
        rw [size_bs]
        have := write_len _ (hall _ (mem_lt hlj))
        have := hsa _ (mem_lt hlj)
        simp only [maxLen]; omega
      refine callC_of (less_spec _ _ _ hsj) fun v w86 ⟨e, u86⟩ => ⟨_, e, up (up u136 u139) u86, up u67 (up (up u136 u139) u86), ?_⟩
      rw [lessB_bs, txt_bs, txt_bs]
      by_cases hl : write ta[j] < write ta[j + 1]
      · exact .inr ⟨by simpa using hl, hkk, fun j' hj' e => by cases (show j' = j by omega); exact hl⟩
      · refine .inl ⟨by simpa using hl, union_false fun hx => hl ?_⟩
        have := (rising_take (ta.map write)).1 hx.2.2 j (by simpa using hlt)
        simpa using this
    · have := of_decide_eq_false h0; omega
  · have hi : i = ta.length := by have := of_decide_eq_false hge; omega
    subst hi
    rw [List.take_length] at hF
    have h1 : rising (ta.map write) = true := (rising_take _).2 fun j hj => by
      have hj' : j + 1 < ta.length := by simpa using hj
      simpa using hR j hj' hj'
    have h2 : (ta.all fun a => !(a.kind == 9) && !(a.kind == 1)) = true := List.all_eq_true.2 fun a ha => by
      have := hF a ha
      simp [this.1, this.2]
    rw [hT, h1, h2]
    congr 1
    simp only [Bool.and_true]
    exact decide_eq_decide.2 (by omega)
end Go.Proofs.YtpddhbdjcgkjcaaGreatDoor

/- The reference's Check, Text, alike, Same, all. -/
namespace Go.Proofs.YtpddhbdjcgkjcaaGreatDoor
open Go.SX Go.Ty

theorem rCheck_spec {t : T} {F : Nat → Prop} {w : World} {x0 : Option Addr} (h : TyAt ids F w (.pointer x0) t) :
    callC Tryz.prog 11 #[.pointer x0] w fun v w' => v = .int .i64 (check t) ∧ Upd No w w' := by
  have hn := ty_isNone h
  refine rCheck_text _ _ _ (brC_intro (fun h1 => ⟨?_, Upd.refl _ _⟩) fun h1 => ?_)
  · unfold check
    rw [if_pos (by rw [← hn]; exact h1)]
  have h1 : t.isNil = false := by rw [← hn]; exact h1
  refine callC_of (rSize_spec h) fun v w1 ⟨e, u1⟩ => ⟨_, e, brC_intro (fun h2 => ⟨?_, u1⟩) fun h2 => ?_⟩
  · have h2 := of_decide_eq_true h2
    unfold check
    rw [h1, if_neg (by simp), if_pos (by omega)]
  have h2 := of_decide_eq_false h2
  have h3 : size t ≤ 60 := by omega
  refine callC_of (rmay_spec t h3 F w1 x0 (h.keep u1)) fun v w2 ⟨e, u2⟩ => ⟨_, e, brC_intro (fun hb => ⟨?_, up u1 u2⟩) fun hb => ⟨?_, up u1 u2⟩⟩
  · have hb : may t = false := by simpa using hb
    unfold check
    rw [h1, if_neg (by simp), if_neg (by omega), hb, if_neg (by simp)]
  · have hb : may t = true := by simpa using hb
    unfold check
    rw [h1, if_neg (by simp), if_neg (by omega), hb, if_pos rfl]
theorem rText_spec {t : T} {F : Nat → Prop} {w : World} {x0 : Option Addr} (h : TyAt ids F w (.pointer x0) t) :
    callC Tryz.prog 15 #[.pointer x0] w fun v w' => v = .string (bs (text t)) ∧ Upd No w w' := by
  refine rText_text _ _ _ (callC_of (rCheck_spec h) fun v w1 ⟨e, u1⟩ => ⟨_, e, brC_intro (fun h1 => ⟨?_, u1⟩) fun h1 => ?_⟩)
  · have h1 : check t ≠ 0 := by simpa using h1
    unfold text
    rw [if_neg h1]
    rfl
  · have h1 : check t = 0 := by simpa using h1
    obtain ⟨hm, hs⟩ := check_iff.1 h1
    refine callC_of (rwrite_spec t hm hs F w1 x0 (h.keep u1)) fun v w2 ⟨e, u2⟩ => ⟨_, e, ?_, up u1 u2⟩
    unfold text
    rw [if_pos h1]

theorem ne_false {t u : T} (h : t ≠ u) : Value.bool false = Value.bool (decide (t = u)) := by rw [decide_eq_false h]
set_option maxHeartbeats 1000000 in
theorem ralike_spec : ∀ (t u : T) (F G : Nat → Prop) (w : World) (x0 x1 : Option Addr), TyAt ids F w (.pointer x0) t → TyAt ids G w (.pointer x1) u →
    callC Tryz.prog 36 #[.pointer x0, .pointer x1] w fun v w' => v = .bool (decide (t = u)) ∧ Upd No w w' := by
  refine ind (fun u F G w x0 x1 h g => ?_) fun k nm ns ta r ihA ihR u F G w x0 x1 h g => ?_
  · obtain rfl : x0 = none := by unfold TyAt at h; cases h; rfl
    have hg := ty_isNone g
    refine ralike_text _ _ _ _ ⟨fun _ => False, fun _ h => h.elim, fun b w' => b = true ∧ w' = w, ?_, brC_tt rfl ⟨rfl, rfl⟩⟩
    rintro b w' ⟨rfl, rfl⟩ _
    refine brC_tt rfl (brC_tt rfl ⟨?_, Upd.refl _ _⟩)
    rw [hg]
    cases u <;> simp [T.isNil]
  cases u with
  | nil =>
    obtain rfl : x1 = none := by unfold TyAt at g; cases g; rfl
    obtain ⟨_, _, _, _, _, _, rfl, _⟩ := ty_opens h
    refine ralike_text _ _ _ _ ⟨fun _ => False, fun _ h => h.elim, fun b w' => b = true ∧ w' = w, ?_, brC_ff rfl ⟨rfl, rfl⟩⟩
    rintro b w' ⟨rfl, rfl⟩ _
    exact brC_tt rfl (brC_ff rfl ⟨by simp, Upd.refl _ _⟩)
  | mk k' nm' ns' ta' r' =>
  obtain ⟨b, np, nc, p, c, rp, rfl, C⟩ := ty_opens h
  obtain ⟨b', np', nc', p', c', rp', rfl, D⟩ := ty_opens g
  have hnl := C.len
  have hnl' := D.len
  simp only [maxLen] at hnl hnl'
  refine ralike_text _ _ _ _ ⟨fun w' => w' = w, ?_, fun b w' => b = false ∧ w' = w, ?_, brC_ff rfl ⟨rfl, rfl⟩⟩
  rotate_left
  · rintro b w' ⟨rfl, rfl⟩ _
    exact brC_ff rfl rfl
  rintro w1 rfl _
  refine ⟨fun w' => Upd No w1 w' ∧ k = k' ∧ nm = nm' ∧ ns.length = ns'.length ∧ ta.length = ta'.length ∧ r = r', ?_,
    fun b w' => Upd No w1 w' ∧ ((b = true ∧ T.mk k nm ns ta r ≠ .mk k' nm' ns' ta' r') ∨ (b = false ∧ k = k' ∧ nm = nm' ∧ ns.length = ns'.length ∧ ta.length = ta'.length ∧ r = r')), ?_, ?_⟩
  rotate_left
  · rintro b w' ⟨u, ⟨rfl, hf⟩ | ⟨rfl, H⟩⟩ _
    · exact brC_tt rfl ⟨ne_false hf, u⟩
    · exact brC_ff rfl ⟨u, H⟩
  · refine drawC_mk fun w57 u57 _ => ?_
    have C := C.keep u57
    have D := D.keep u57
    refine ptrC_some ⟨_, C.c0, ptrC_some ⟨_, D.c0, brC_intro (fun h1 => ⟨u57, .inl ⟨rfl, fun e => ?_⟩⟩) fun h1 => ptrC_some ⟨_, C.c1, ptrC_some ⟨_, D.c1, ?_⟩⟩⟩⟩
    · cases e; simp at h1
    rw [beq_bytes]
    refine brC_intro (fun h2 => ⟨u57, .inl ⟨rfl, fun e => ?_⟩⟩) fun h2 => ptrC_some ⟨_, _, _, C.c2, ptrC_some ⟨_, _, _, D.c2, brC_intro (fun h3 => ⟨u57, .inl ⟨rfl, fun e => ?_⟩⟩) fun h3 =>
      ptrC_some ⟨_, _, _, C.c3, ptrC_some ⟨_, _, _, D.c3, brC_intro (fun h4 => ⟨u57, .inl ⟨rfl, fun e => ?_⟩⟩) fun h4 => ptrC_some ⟨_, C.c4, ptrC_some ⟨_, D.c4, ?_⟩⟩⟩⟩⟩⟩
    · cases e; simp at h2
    · cases e; simp at h3
    · cases e; simp at h4
    refine callC_of (ihR r' F G w57 rp rp' C.ret D.ret) fun v w87 ⟨e, u87⟩ => ⟨_, e, up u57 u87, ?_⟩
    have h3 : (ns.length : Int) = ns'.length := by simpa using h3
    have h4 : (ta.length : Int) = ta'.length := by simpa using h4
    by_cases hr : r = r'
    · exact .inr ⟨by simpa using hr, by simpa using h1, by simpa using h2, by omega, by omega, hr⟩
    · exact .inl ⟨by simpa using hr, fun e => hr (by cases e; rfl)⟩
  rintro w4 ⟨u4, rfl, rfl, hl1, hl2, rfl⟩ _
  refine ⟨fun n w' => ∃ i : Nat, n = i ∧ i ≤ ns.length ∧ Upd No w4 w' ∧ ns.take i = ns'.take i, fun n _ => (ns.length - n).toNat, ⟨0, rfl, Nat.zero_le _, Upd.refl _ _, rfl⟩, ?_⟩
  rintro n w9 ⟨i, rfl, hi, u9, hsame⟩ _
  have u9 := up u4 u9
  have C9 := C.keep u9
  refine ptrC_some ⟨_, _, _, C9.c2, brC_intro (fun hlt => ?_) fun hge => ?_⟩
  · have hlt : i < ns.length := by have := of_decide_eq_true hlt; omega
    have hlt' : i < ns'.length := by omega
    refine drawC_mk fun w15 u15 _ => ?_
    have C := C9.keep u15
    have D := D.keep (up u9 u15)
    refine ptrC_some ⟨_, _, _, C.c2, ⟨by omega, by omega, ?_⟩⟩
    refine nameC' C.names hlt fun a hc => ptrC_some ⟨_, _, _, D.c2, ⟨by omega, by omega, ?_⟩⟩
    refine nameC' D.names hlt' fun a' hc' => ?_
    rw [beq_bytes]
    refine brC_intro (fun hne => ⟨ne_false fun e => ?_, up u9 u15⟩) fun heq => ?_
    · cases e
      simp at hne
    · rw [wrap_succ (by omega)]
      refine ⟨⟨i + 1, rfl, hlt, up (by assumption) u15, ?_⟩, by dsimp only; omega⟩
      rw [List.take_succ_eq_append_getElem hlt, List.take_succ_eq_append_getElem hlt', hsame]
      have heq : ns[i] = ns'[i] := by simpa using heq
      rw [heq]
  have hi : i = ns.length := by have := of_decide_eq_false hge; omega
  have hns : ns = ns' := by
    rw [hi, List.take_length, hl1, List.take_length] at hsame
    exact hsame
  subst hns
  refine ⟨fun n w' => ∃ i : Nat, n = i ∧ i ≤ ta.length ∧ Upd No w9 w' ∧ ta.take i = ta'.take i, fun n _ => (ta.length - n).toNat, ⟨0, rfl, Nat.zero_le _, Upd.refl _ _, rfl⟩, ?_⟩
  rintro n w31 ⟨j, rfl, hj, u31, hsame2⟩ _
  have C31 := C9.keep u31
  refine ptrC_some ⟨_, _, _, C31.c3, brC_intro (fun hlt => ?_) fun hge => ⟨?_, up u9 u31⟩⟩
  · have hlt : j < ta.length := by have := of_decide_eq_true hlt; omega
    have hlt' : j < ta'.length := by omega
    refine drawC_mk fun w37 u37 _ => ?_
    have C := C31.keep u37
    have D := D.keep (up (up u9 u31) u37)
    refine ptrC_some ⟨_, _, _, C.c3, ⟨by omega, by omega, ?_⟩⟩
    refine argC C.args hlt fun a x hc hx => ptrC_some ⟨_, _, _, D.c3, ⟨by omega, by omega, ?_⟩⟩
    refine argC D.args hlt' fun a' x' hc' hx' => ?_
    refine callC_of (ihA _ (mem_lt hlt) ta'[j] F G w37 x x' hx hx') fun v w51 ⟨e, u51⟩ => ⟨_, e, brC_intro (fun hb => ⟨ne_false fun e => ?_, up (up (up u9 u31) u37) u51⟩) fun hb => ?_⟩
    · cases e; simp at hb
    · rw [wrap_succ (by omega)]
      refine ⟨⟨j + 1, rfl, hlt, up (up u31 u37) u51, ?_⟩, by dsimp only; omega⟩
      rw [List.take_succ_eq_append_getElem hlt, List.take_succ_eq_append_getElem hlt', hsame2]
      have heq : ta[j] = ta'[j] := by simpa using hb
      rw [heq]
  · have hj : j = ta.length := by have := of_decide_eq_false hge; omega
    rw [hj, List.take_length, hl2, List.take_length] at hsame2
    subst hsame2
    simp
/-- The reference's Same, as a function. -/
def rsame (a b : T) : Bool := if a.isNil || b.isNil then a.isNil && b.isNil else same a b
theorem rsame_eq (a b : T) : rsame a b = same a b := by
  unfold rsame same
  cases a <;> cases b <;> simp [T.isNil, alike, size]
theorem same_decide (a b : T) : same a b = (decide (size a ≤ 60) && (decide (size b ≤ 60) && decide (a = b))) := by
  unfold same
  rw [Bool.and_assoc, Bool.eq_iff_iff]
  simp [alike_iff]
theorem rSame_spec {t u : T} {F G : Nat → Prop} {w : World} {x0 x1 : Option Addr} (h : TyAt ids F w (.pointer x0) t) (g : TyAt ids G w (.pointer x1) u) :
    callC Tryz.prog 17 #[.pointer x0, .pointer x1] w fun v w' => v = .bool (same t u) ∧ Upd No w w' := by
  have hn := ty_isNone h
  have gn := ty_isNone g
  rw [← rsame_eq]
  refine rSame_text _ _ _ _ ⟨fun w' => w' = w ∧ t.isNil = false ∧ u.isNil = false, ?_, fun b w' => w' = w ∧ b = (t.isNil || u.isNil), ?_, ?_⟩
  · rintro w1 ⟨rfl, ht, hu⟩ _
    have e0 : rsame t u = same t u := rsame_eq t u
    rw [e0, same_decide]
    refine callC_of (rSize_spec h) fun v w4 ⟨e, u4⟩ => ⟨_, e, brC_intro (fun h1 => ?_) fun h1 => ⟨?_, u4⟩⟩
    · have h1 := of_decide_eq_true h1
      rw [decide_eq_true (show size t ≤ 60 by omega)]
      refine callC_of (rSize_spec (g.keep u4)) fun v w7 ⟨e, u7⟩ => ⟨_, e, brC_intro (fun h2 => ?_) fun h2 => ⟨?_, up u4 u7⟩⟩
      · have h2 := of_decide_eq_true h2
        rw [decide_eq_true (show size u ≤ 60 by omega)]
        exact callC_of (ralike_spec t u F G w7 x0 x1 (h.keep (up u4 u7)) (g.keep (up u4 u7))) fun v w8 ⟨e, u8⟩ => ⟨_, e, rfl, up (up u4 u7) u8⟩
      · have h2 := of_decide_eq_false h2
        rw [decide_eq_false (show ¬ size u ≤ 60 by omega)]
        rfl
    · have h1 := of_decide_eq_false h1
      rw [decide_eq_false (show ¬ size t ≤ 60 by omega)]
      rfl
  · rintro b w' ⟨rfl, rfl⟩ _
    refine brC_intro (fun hb => ?_) fun hb => ⟨rfl, by simpa using hb⟩
    unfold rsame
    rw [hb, if_pos rfl, hn, gn]
    refine brC_intro (fun h1 => ⟨by rw [h1]; simp, Upd.refl _ _⟩) fun h1 => ⟨by rw [h1]; rfl, Upd.refl _ _⟩
  · rw [hn, gn]
    refine brC_intro (fun h1 => ⟨rfl, by rw [h1]; rfl⟩) fun h1 => ⟨rfl, by rw [h1]; rfl⟩
theorem rall_spec {l : List T} {F : Nat → Prop} {w : World} {p : Option Addr} {n c : Nat} (h : TyRow ids F w (.slice p n c) l) :
    callC Tryz.prog 45 #[.slice p n c] w fun v w' => v = .bool (allOk l) ∧ Upd No w w' := by
  obtain ⟨hn, hnc, hc, _⟩ := h.get
  subst hn
  simp only [maxLen] at hc
  refine rall_text _ _ _ _ _ ⟨fun n w' => ∃ i : Nat, n = i ∧ i ≤ l.length ∧ Upd No w w' ∧ ∀ a ∈ l.take i, check a = 0, fun n _ => (l.length - n).toNat, ⟨0, rfl, Nat.zero_le _, Upd.refl _ _, fun a ha => by cases ha⟩, ?_⟩
  rintro n w3 ⟨i, rfl, hi, u3, hall⟩ _
  refine brC_intro (fun hlt => ?_) fun hge => ⟨?_, u3⟩
  · have hlt : i < l.length := by have := of_decide_eq_true hlt; omega
    refine ⟨by omega, by omega, ?_⟩
    refine argC (h.keep u3) hlt fun a x hc hx => ?_
    refine callC_of (rCheck_spec hx) fun v w8 ⟨e, u8⟩ => ⟨_, e, brC_intro (fun hb => ⟨?_, up u3 u8⟩) fun hb => ?_⟩
    · have : allOk l = false := Bool.eq_false_iff.2 fun ha => by
        have := allOk_iff.1 ha _ (mem_lt hlt)
        rw [this] at hb; cases hb
      rw [this]
    · rw [wrap_succ (by omega)]
      refine ⟨⟨i + 1, rfl, hlt, up u3 u8, fun a ha => ?_⟩, by dsimp only; omega⟩
      rw [List.take_succ_eq_append_getElem hlt, List.mem_append, List.mem_singleton] at ha
      rcases ha with ha | rfl
      · exact hall a ha
      · simpa using hb
  · have hi : i = l.length := by have := of_decide_eq_false hge; omega
    rw [hi, List.take_length] at hall
    rw [allOk_iff.2 hall]
end Go.Proofs.YtpddhbdjcgkjcaaGreatDoor

/- Rows that the call itself makes, and that grow by other rows. Rows of texts that came in. -/
namespace Go.Proofs.YtpddhbdjcgkjcaaGreatDoor
open Go.SX Go.Ty

/-- blocks from n0 on. -/
abbrev From (n0 : Nat) : Nat → Prop := fun b => n0 ≤ b
theorem upFrom {a b c : World} {n0 : Nat} (h : Upd No a b) (k : Upd (From n0) b c) (hn : a.heap.size ≤ n0) : Upd No a c := h.trans k fun x hx (hs : n0 ≤ x) => by omega
theorem Upd.from {a b : World} {n0 : Nat} (h : Upd No a b) : Upd (From n0) a b := h.no
theorem upFF {a b c : World} {n0 : Nat} (h : Upd (From n0) a b) (k : Upd (From n0) b c) : Upd (From n0) a c := h.trans k fun _ _ x => x

/-- the program's table on a slice's type. -/
structure Elem (t e : TypeId) (bytes : Nat) : Prop where
  ut : Tryz.prog.underlying t = some (.slice e)
  info : ∃ i z, Tryz.prog.info? e = some i ∧ i.zero = some z ∧ i.size = 1 ∧ i.bytes = bytes ∧ z.cells.size = 1
theorem elemStr : Elem 32 9 16 := ⟨by kernel_rfl, by
  obtain ⟨i, h1, h2, h3, h4⟩ := info_get (P := Tryz.prog) (e := 9) (s := 1) (b := 16) (z := .string ByteArray.empty) (by kernel_rfl)
  exact ⟨i, _, h1, h2, h3, h4, rfl⟩⟩
theorem elemTyp : Elem 33 23 8 := ⟨by kernel_rfl, by
  obtain ⟨i, h1, h2, h3, h4⟩ := info_get (P := Tryz.prog) (e := 23) (s := 1) (b := 8) (z := .pointer none) (by kernel_rfl)
  exact ⟨i, _, h1, h2, h3, h4, rfl⟩⟩

/-- a row of its own, from n0 on. -/
structure Own (n0 : Nat) (w : World) (e : TypeId) (p : Option Addr) (n c : Nat) (xs : List Value) : Prop where
  row : RowAt w e 1 (.slice p n c) xs
  own : ∀ b, InRow (.slice p n c) b → n0 ≤ b
  len : n = xs.length
  cap : n ≤ c ∧ c ≤ maxLen
theorem ownNil (n0 : Nat) (w : World) (e : TypeId) : Own n0 w e none 0 0 [] := ⟨RowAt.nil _ _ _, (fun b h => by cases h), rfl, Nat.le_refl _, Nat.zero_le _⟩
theorem Own.keep {n0 : Nat} {w w' : World} {e : TypeId} {p : Option Addr} {n c : Nat} {xs : List Value} (h : Own n0 w e p n c xs) (u : Upd No w w') : Own n0 w' e p n c xs :=
  ⟨h.row.upd u fun _ _ x => x, h.own, h.len, h.cap⟩
theorem row_cap {w : World} {e : TypeId} {p : Option Addr} {n c : Nat} {xs : List Value} (h : RowAt w e 1 (.slice p n c) xs) : n = xs.length ∧ n ≤ c ∧ c ≤ maxLen := by
  obtain ⟨q, m, d, e, h1, h2, h3⟩ := h.shape
  cases e
  exact ⟨by omega, h2, h3⟩
/-- IT GROWS BY ANOTHER ROW. -/
theorem grow_row {t e : TypeId} {bytes n0 : Nat} {w : World} {p : Option Addr} {n c : Nat} {xs : List Value} {q : Option Addr} {m d : Nat} {ys : List Value} (E : Elem t e bytes) (h : Own n0 w e p n c xs) (hn0 : n0 ≤ w.heap.size)
    (hs : RowAt w e 1 (.slice q m d) ys) (h1 : ∀ u ∈ ys, u.oneCell' = true) (hb : bytes ≤ 16) (hsz : xs.length + ys.length ≤ 1000000000000) {K : Option Addr → Nat → Nat → World → Prop}
    (hk : ∀ p' n' c' w', Own n0 w' e p' n' c' (xs ++ ys) → Upd (From n0) w w' → (∀ b, InRow (.slice p' n' c') b → InRow (.slice p n c) b ∨ w.heap.size ≤ b) → Upd (InRow (.slice p n c)) w w' → K p' n' c' w') :
    runC Tryz.prog (Builtin.append_ #[t, t] t #[.slice p n c, .slice q m d]) w fun v w' => ∃ p' n' c', v = .slice p' n' c' ∧ K p' n' c' w' := by
  obtain ⟨i, z, hi, hz, hsize, hby, hzs⟩ := E.info
  obtain ⟨em, hmc, _⟩ := row_cap hs
  have hlen := h.len
  have hmul : (n + m) * bytes ≤ (n + m) * 16 := Nat.mul_le_mul_left _ hb
  refine append_slice (P := Tryz.prog) E.ut hi hz hsize hby hzs h.row (n := n) (by omega) q m d ys (by omega) (by omega) (fun j u hu => ?_) h1 (by simp only [maxLen]; omega) (by omega) fun v' w' r u hbl => ?_
  · obtain ⟨g, o, rfl, e⟩ := hs.get (j := j) (by
      rcases Nat.lt_or_ge j ys.length with h | h
      · exact h
      · rw [List.getElem?_eq_none h] at hu; cases hu)
    exact ⟨_, rfl, by rw [add_mk, e, hu]⟩
  · obtain ⟨p', n', c', rfl, e1, e2, e3⟩ := r.shape
    exact ⟨p', n', c', rfl, hk p' n' c' w' ⟨r, fun b hb => (hbl b hb).elim (h.own b) fun h => by omega, by omega, e2, e3⟩ (u.mono fun x _ hx => h.own x hx) hbl u⟩
/-- .. by a part of one. -/
theorem grow_cut {t e : TypeId} {bytes n0 : Nat} {w : World} {p : Option Addr} {n c : Nat} {xs : List Value} {q : Option Addr} {m d lo hi : Nat} {ys : List Value} (E : Elem t e bytes) (h : Own n0 w e p n c xs) (hn0 : n0 ≤ w.heap.size)
    (hs : RowAt w e 1 (.slice q m d) ys) (hlo : lo ≤ hi) (hhi : hi ≤ m) (h1 : ∀ u ∈ ys, u.oneCell' = true) (hb : bytes ≤ 16) (hsz : xs.length + ys.length ≤ 1000000000000) {K : Option Addr → Nat → Nat → World → Prop}
    (hk : ∀ p' n' c' w', Own n0 w' e p' n' c' (xs ++ (ys.drop lo).take (hi - lo)) → Upd (From n0) w w' → (∀ b, InRow (.slice p' n' c') b → InRow (.slice p n c) b ∨ w.heap.size ≤ b) → Upd (InRow (.slice p n c)) w w' → K p' n' c' w') :
    runC Tryz.prog (Builtin.append_ #[t, t] t #[.slice p n c, .slice (subP q d lo 1) (hi - lo) (d - lo)]) w fun v w' => ∃ p' n' c', v = .slice p' n' c' ∧ K p' n' c' w' := by
  have hc := hs.cut hlo hhi
  rw [Nat.mul_one, Nat.mul_one] at hc
  refine grow_row E h hn0 hc (fun u hu => h1 u (List.mem_of_mem_drop (List.mem_of_mem_take hu))) hb ?_ hk
  rw [List.length_take, List.length_drop]
  omega
theorem row_one {w : World} {k : Nat} {x : Value} {e : TypeId} (h : Blk w k #[x] e) : RowAt w e 1 (.slice (some ⟨k, 0, none⟩) 1 1) [x] :=
  ⟨1, rfl, .inr ⟨k, 0, 1, #[x], rfl, h, Nat.le_refl _, by simp only [maxLen]; omega, by simp, by simp⟩⟩
/-- .. by a value of its own. -/
theorem grow_one {t e : TypeId} {bytes n0 : Nat} {w : World} {p : Option Addr} {n c : Nat} {xs : List Value} {k : Nat} {x : Value} (E : Elem t e bytes) (h : Own n0 w e p n c xs) (hn0 : n0 ≤ w.heap.size)
    (hs : Blk w k #[x] e) (h1 : x.oneCell' = true) (hb : bytes ≤ 16) (hsz : xs.length + 1 ≤ 1000000000000) {K : Option Addr → Nat → Nat → World → Prop}
    (hk : ∀ p' n' c' w', Own n0 w' e p' n' c' (xs ++ [x]) → Upd (From n0) w w' → (∀ b, InRow (.slice p' n' c') b → InRow (.slice p n c) b ∨ w.heap.size ≤ b) → Upd (InRow (.slice p n c)) w w' → K p' n' c' w') :
    runC Tryz.prog (Builtin.append_ #[t, t] t #[.slice p n c, .slice (some ⟨k, 0, none⟩) 1 1]) w fun v w' => ∃ p' n' c', v = .slice p' n' c' ∧ K p' n' c' w' :=
  grow_row E h hn0 (row_one hs) (by simpa using h1) hb hsz hk

/-- the texts l lie at p, one behind the other. -/
def StrsAt (w : World) (p : Option Addr) (l : List ByteArray) : Prop := ∀ i, (h : i < l.length) → ∃ a : Addr, p = some a ∧ w.cell? (Addr.add a (i * 1)) = some (.string l[i])
theorem strs_keep {W w : World} {p : Option Addr} {l : List ByteArray} (h : StrsAt W p l) (u : Upd No W w) : StrsAt w p l := fun i hi => by
  obtain ⟨a, rfl, hc⟩ := h i hi
  exact ⟨a, rfl, cell_keep hc u⟩
theorem strs_row {w : World} {e : TypeId} {p : Option Addr} {n c : Nat} {l : List ByteArray} (h : RowAt w e 1 (.slice p n c) (l.map Value.string)) : StrsAt w p l := fun i hi => by
  obtain ⟨g, o, rfl, hv⟩ := h.get (j := i) (by simpa using hi)
  exact ⟨_, rfl, by rw [add_mk, Nat.mul_one, hv]; simp⟩
theorem strC {w : World} {p : Option Addr} {l : List ByteArray} (h : StrsAt w p l) {i : Nat} (hi : i < l.length) {K : Addr → ByteArray → Prop}
    (hk : ∀ a, w.cell? (a.add (Int.toNat (i : Int) * 1)) = some (.string l[i]) → K a l[i]) :
    ptrC p fun a => ∃ q, w.cell? (a.add (Int.toNat (i : Int) * 1)) = some (.string q) ∧ K a q := by
  obtain ⟨a, rfl, hc⟩ := h i hi
  exact ptrC_some ⟨_, hc, hk a hc⟩
theorem one_strs (l : List ByteArray) : ∀ u ∈ l.map Value.string, u.oneCell' = true := by
  intro u hu
  obtain ⟨s, _, rfl⟩ := List.mem_map.1 hu
  rfl
theorem one_typs {F : Nat → Prop} {w : World} {vs : List Value} {l : List T} (h : TysAt ids F w vs l) : ∀ u ∈ vs, u.oneCell' = true := by
  intro u hu
  obtain ⟨i, hi, rfl⟩ := List.getElem_of_mem hu
  have hl : i < l.length := by have := h.length; omega
  obtain ⟨q, e, _⟩ := ptr_shape (h.at_ (List.getElem?_eq_getElem hi) (List.getElem?_eq_getElem hl))
  rw [e]; rfl
theorem ty_here {F : Nat → Prop} {w : World} {v : Value} {t : T} (h : TyAt ids F w v t) : TyAt ids (fun b => F b ∧ b < w.heap.size) w v t := h.mono fun _ hl hf => ⟨hf, hl⟩
theorem tys_here {F : Nat → Prop} {w : World} {vs : List Value} {l : List T} (h : TysAt ids F w vs l) : TysAt ids (fun b => F b ∧ b < w.heap.size) w vs l := h.mono fun _ hl hf => ⟨hf, hl⟩
end Go.Proofs.YtpddhbdjcgkjcaaGreatDoor

/- The reference's Fun; types that are made. -/
namespace Go.Proofs.YtpddhbdjcgkjcaaGreatDoor
open Go.SX Go.Ty

/-- F's blocks, and new ones. -/
abbrev With (F : Nat → Prop) (n0 : Nat) : Nat → Prop := fun b => F b ∨ n0 ≤ b
theorem mkTy {G : Nat → Prop} {w : World} {b : Nat} {k : Int} {nm : ByteArray} {nv av rv : Value} {ns : List ByteArray} {ta : List T} {r : T} {vs : List Value} (hB : Blk w b #[.int .i64 k, .string nm, nv, av, rv] 44) (hG : G b)
    (hN : RowAt w ids.str 1 nv (ns.map Value.string)) (gN : ∀ b, InRow nv b → G b) (hA : RowAt w ids.ptr 1 av vs) (gA : ∀ b, InRow av b → G b) (hT : TysAt ids G w vs ta) (hR : TyAt ids G w rv r) :
    TyAt ids G w (.pointer (some ⟨b, 0, none⟩)) (.mk k nm ns ta r) := by
  unfold TyAt
  exact ⟨b, nv, av, rv, vs, rfl, hG, hB, hN, gN, hA, gA, hT, hR⟩
theorem no_in {n c : Nat} : ∀ b, InRow (.slice none n c) b → False := fun b h => by cases h

/-- own types: the row is new, the types are old. -/
structure OwnT (n0 n1 : Nat) (F : Nat → Prop) (w : World) (p : Option Addr) (n c : Nat) (l : List T) : Prop where
  ex : ∃ vs, Own n1 w ids.ptr p n c vs ∧ TysAt ids (fun b => F b ∧ b < n0) w vs l
theorem OwnT.len {n0 n1 : Nat} {F : Nat → Prop} {w : World} {p : Option Addr} {n c : Nat} {l : List T} (h : OwnT n0 n1 F w p n c l) : n = l.length ∧ n ≤ c ∧ c ≤ maxLen := by
  obtain ⟨vs, h1, h2⟩ := h.ex
  have := h1.len
  have := h2.length
  exact ⟨by omega, h1.cap⟩
theorem OwnT.keep {n0 n1 : Nat} {F : Nat → Prop} {w w' : World} {p : Option Addr} {n c : Nat} {l : List T} (h : OwnT n0 n1 F w p n c l) (u : Upd No w w') : OwnT n0 n1 F w' p n c l := by
  obtain ⟨vs, h1, h2⟩ := h.ex
  exact ⟨vs, h1.keep u, h2.keep u⟩
theorem OwnT.nil (n0 n1 : Nat) (F : Nat → Prop) (w : World) : OwnT n0 n1 F w none 0 0 [] := ⟨[], ownNil _ _ _, trivial⟩
theorem OwnT.row {n0 n1 : Nat} {F : Nat → Prop} {w : World} {p : Option Addr} {n c : Nat} {l : List T} (h : OwnT n0 n1 F w p n c l) : TyRow ids (With F n1) w (.slice p n c) l := by
  obtain ⟨vs, h1, h2⟩ := h.ex
  exact ⟨vs, h1.row, fun b hb => .inr (h1.own b hb), h2.mono fun b _ hb => .inl hb.1⟩
/-- its types, as they are. -/
theorem OwnT.arg {n0 n1 : Nat} {F : Nat → Prop} {w : World} {p : Option Addr} {n c : Nat} {l : List T} (h : OwnT n0 n1 F w p n c l) {i : Nat} (hi : i < l.length) {K : Addr → Option Addr → Prop}
    (hk : ∀ a q, w.cell? (a.add (Int.toNat (i : Int) * 1)) = some (.pointer q) → TyAt ids (fun b => F b ∧ b < n0) w (.pointer q) l[i] → K a q) :
    ptrC p fun a => ∃ q, w.cell? (a.add (Int.toNat (i : Int) * 1)) = some (.pointer q) ∧ K a q := by
  obtain ⟨vs, h1, h2⟩ := h.ex
  have hiv : i < vs.length := by rw [h2.length]; exact hi
  obtain ⟨g, o, rfl, hv⟩ := h1.row.get (j := i) hiv
  have ht := h2.at_ (List.getElem?_eq_getElem hiv) (List.getElem?_eq_getElem hi)
  obtain ⟨q, e, _⟩ := ptr_shape ht
  rw [List.getElem?_eq_getElem hiv, e] at hv
  have hc : w.cell? (Addr.add ⟨g, o, none⟩ (Int.toNat (i : Int) * 1)) = some (.pointer q) := by rw [add_mk, Int.toNat_natCast, Nat.mul_one]; exact hv
  rw [e] at ht
  exact ptrC_some ⟨q, hc, hk _ _ hc ht⟩
/-- it grows by a row of types. -/
theorem OwnT.grow {n0 n1 : Nat} {F : Nat → Prop} {w : World} {p : Option Addr} {n c : Nat} {l : List T} (h : OwnT n0 n1 F w p n c l) (h01 : n0 ≤ n1) (hn : n1 ≤ w.heap.size) {q : Option Addr} {m d : Nat} {ys : List Value} {ts : List T}
    (hs : RowAt w ids.ptr 1 (.slice q m d) ys) (ht : TysAt ids (fun b => F b ∧ b < n0) w ys ts) (hsz : l.length + ts.length ≤ 1000000000000) {K : Option Addr → Nat → Nat → World → Prop}
    (hk : ∀ p' n' c' w', OwnT n0 n1 F w' p' n' c' (l ++ ts) → Upd (From n1) w w' → (∀ b, InRow (.slice p' n' c') b → InRow (.slice p n c) b ∨ w.heap.size ≤ b) → Upd (InRow (.slice p n c)) w w' → K p' n' c' w') :
    runC Tryz.prog (Builtin.append_ #[33, 33] 33 #[.slice p n c, .slice q m d]) w fun v w' => ∃ p' n' c', v = .slice p' n' c' ∧ K p' n' c' w' := by
  obtain ⟨vs, h1, h2⟩ := h.ex
  have e1 := h2.length
  have e2 := ht.length
  refine grow_row elemTyp h1 hn hs (one_typs ht) (by omega) (by omega) fun p' n' c' w' o u hin uin => hk p' n' c' w' ⟨vs ++ ys, o, ?_⟩ u hin uin
  exact (h2.append ht).upd u fun b hb (hx : n1 ≤ b) => by omega
/-- it grows by one type. -/
theorem OwnT.grow1 {n0 n1 : Nat} {F : Nat → Prop} {w : World} {p : Option Addr} {n c : Nat} {l : List T} (h : OwnT n0 n1 F w p n c l) (h01 : n0 ≤ n1) (hn : n1 ≤ w.heap.size) {k : Nat} {q : Option Addr} {t : T}
    (hs : Blk w k #[.pointer q] ids.ptr) (ht : TyAt ids (fun b => F b ∧ b < n0) w (.pointer q) t) (hsz : l.length + 1 ≤ 1000000000000) {K : Option Addr → Nat → Nat → World → Prop}
    (hk : ∀ p' n' c' w', OwnT n0 n1 F w' p' n' c' (l ++ [t]) → Upd (From n1) w w' → (∀ b, InRow (.slice p' n' c') b → InRow (.slice p n c) b ∨ w.heap.size ≤ b) → Upd (InRow (.slice p n c)) w w' → K p' n' c' w') :
    runC Tryz.prog (Builtin.append_ #[33, 33] 33 #[.slice p n c, .slice (some ⟨k, 0, none⟩) 1 1]) w fun v w' => ∃ p' n' c', v = .slice p' n' c' ∧ K p' n' c' w' :=
  h.grow h01 hn (row_one hs) (ts := [t]) ⟨ht, trivial⟩ hsz hk
/-- it grows by a part of types of its own kind. -/
theorem OwnT.cut {n0 n1 n2 : Nat} {F : Nat → Prop} {w : World} {p : Option Addr} {n c : Nat} {l : List T} (h : OwnT n0 n1 F w p n c l) (h01 : n0 ≤ n1) (hn : n1 ≤ w.heap.size) {q : Option Addr} {m d lo hi : Nat} {ts : List T}
    (hs : OwnT n0 n2 F w q m d ts) (hlo : lo ≤ hi) (hhi : hi ≤ m) (hsz : l.length + ts.length ≤ 1000000000000) {K : Option Addr → Nat → Nat → World → Prop}
    (hk : ∀ p' n' c' w', OwnT n0 n1 F w' p' n' c' (l ++ (ts.drop lo).take (hi - lo)) → Upd (From n1) w w' → (∀ b, InRow (.slice p' n' c') b → InRow (.slice p n c) b ∨ w.heap.size ≤ b) → Upd (InRow (.slice p n c)) w w' → K p' n' c' w') :
    runC Tryz.prog (Builtin.append_ #[33, 33] 33 #[.slice p n c, .slice (subP q d lo 1) (hi - lo) (d - lo)]) w fun v w' => ∃ p' n' c', v = .slice p' n' c' ∧ K p' n' c' w' := by
  obtain ⟨ys, s1, s2⟩ := hs.ex
  have hc := s1.row.cut hlo hhi
  rw [Nat.mul_one, Nat.mul_one] at hc
  refine h.grow h01 hn hc ((s2.drop lo).take (hi - lo)) ?_ hk
  rw [List.length_take, List.length_drop]
  omega

theorem here_with {F : Nat → Prop} {n0 n : Nat} {b : Nat} (h : F b ∧ b < n) : With F n0 b := .inl h.1
theorem rFun_spec {l : List T} {r : T} {F : Nat → Prop} {w : World} {p : Option Addr} {n c : Nat} {x1 : Option Addr} (h : TyRow ids F w (.slice p n c) l) (hl : l.length ≤ 1000000) (hr : TyAt ids F w (.pointer x1) r) :
    callC Tryz.prog 26 #[.slice p n c, .pointer x1] w fun v w' => ∃ q : Option Addr, v = .tuple #[.pointer q, .int .i64 (funF l r).2] ∧ TyAt ids (With F w.heap.size) w' (.pointer q) (funF l r).1 ∧ Upd No w w' := by
  refine rFun_text _ _ _ _ _ _ ⟨fun w' => Upd No w w' ∧ (allOk l && check r == 0) = true, ?_, fun b w' => Upd No w w' ∧ b = !(allOk l && check r == 0), ?_, ?_⟩
  · rintro w1 ⟨u1, hok⟩ _
    have eF : funF l r = fits (.mk 8 .empty [] l r) := by unfold funF; rw [if_pos hok]
    rw [eF]
    refine newC_mk fun w4 B4 u4 s4 => ⟨none, 0, 0, B4.cell rfl, ?_⟩
    have u4 := up u1 u4
    have hw := u1.size
    obtain ⟨vs, h1, h2, h3⟩ := (h.keep u1).mono (G := fun b => F b ∧ b < w1.heap.size) fun b hb hf => ⟨hf, hb⟩
    have uu : Upd No w1 w4 := by have := B4; exact (‹Upd No w1 w4›)
    refine (OwnT.nil w1.heap.size w4.heap.size F w4).grow (by omega) (Nat.le_refl _) (h1.upd uu fun _ _ x => x) (h3.keep uu) (by simp; omega) fun p' n' c' w9 o u9 _ _ => ?_
    rw [List.nil_append] at o
    obtain ⟨vs', o1, o2⟩ := o.ex
    have B9 := B4.upd u9 (fun (hx : w4.heap.size ≤ w1.heap.size) => by omega)
    refine stC_mk B9 (by simp) fun w13 B13 u13 s13 => ?_
    have hT : TyAt ids (With F w.heap.size) w13 (.pointer (some ⟨w1.heap.size, 0, none⟩)) (.mk 8 .empty [] l r) := by
      refine mkTy (nv := .slice none 0 0) (av := .slice p' n' c') (rv := .pointer x1) B13 (.inr hw) (RowAt.nil _ _ _) (fun b hb => (no_in b hb).elim) (o1.row.upd u13 fun b hb (e : b = _) => by have := o1.own b hb; omega) (fun b hb => .inr (by have := o1.own b hb; omega))
        ((o2.upd u13 fun b hb (e : b = _) => by omega).mono fun b _ hb => .inl hb.1) ?_
      have := ty_here (hr.keep u1)
      exact (((this.keep uu).upd u9 fun b hb (hx : w4.heap.size ≤ b) => by omega).upd u13 fun b hb (e : b = _) => by omega).mono fun b _ hb => .inl hb.1
    refine callC_of (rfits_spec hT) fun v w15 ⟨q, e, hq, u15⟩ => ⟨_, _, e, q, rfl, hq, ?_⟩
    exact up (upFrom u4 u9 (by omega) |>.trans u13 fun x hx (e : x = _) => by omega) u15
  · rintro b w' ⟨u, rfl⟩ _
    refine brC_intro (fun hb => ?_) fun hb => ⟨u, by simpa using hb⟩
    have eF : funF l r = (.nil, 2) := by
      unfold funF
      rw [if_neg (by intro h; rw [h] at hb; cases hb)]
    rw [eF]
    exact ⟨none, rfl, rfl, u⟩
  · refine callC_of (rall_spec h) fun v w23 ⟨e, u23⟩ => ⟨_, e, brC_intro (fun hb => ⟨u23, ?_⟩) fun hb => ?_⟩
    · have hb : allOk l = false := by simpa using hb
      rw [hb]; rfl
    · have hb : allOk l = true := by simpa using hb
      refine callC_of (rCheck_spec (hr.keep u23)) fun v w26 ⟨e, u26⟩ => ⟨_, e, up u23 u26, ?_⟩
      rw [hb]; rfl
end Go.Proofs.YtpddhbdjcgkjcaaGreatDoor

/- The reference's Rec. -/
namespace Go.Proofs.YtpddhbdjcgkjcaaGreatDoor
open Go.SX Go.Ty

/-- a row of texts of its own. -/
abbrev OwnS (n1 : Nat) (w : World) (p : Option Addr) (n c : Nat) (l : List ByteArray) : Prop := Own n1 w ids.str p n c (l.map Value.string)
theorem OwnS.len' {n1 : Nat} {w : World} {p : Option Addr} {n c : Nat} {l : List ByteArray} (h : OwnS n1 w p n c l) : n = l.length ∧ n ≤ c ∧ c ≤ maxLen := by
  have := h.len
  rw [List.length_map] at this
  exact ⟨this, h.cap⟩
theorem growS {n1 : Nat} {w : World} {p : Option Addr} {n c : Nat} {l : List ByteArray} (h : OwnS n1 w p n c l) (hn : n1 ≤ w.heap.size) {k : Nat} {s : ByteArray} (hs : Blk w k #[.string s] ids.str) (hsz : l.length + 1 ≤ 1000000000000)
    {K : Option Addr → Nat → Nat → World → Prop}
    (hk : ∀ p' n' c' w', OwnS n1 w' p' n' c' (l ++ [s]) → Upd (From n1) w w' → (∀ b, InRow (.slice p' n' c') b → InRow (.slice p n c) b ∨ w.heap.size ≤ b) → Upd (InRow (.slice p n c)) w w' → K p' n' c' w') :
    runC Tryz.prog (Builtin.append_ #[32, 32] 32 #[.slice p n c, .slice (some ⟨k, 0, none⟩) 1 1]) w fun v w' => ∃ p' n' c', v = .slice p' n' c' ∧ K p' n' c' w' := by
  refine grow_one elemStr h hn hs rfl (by omega) (by rw [List.length_map]; exact hsz) fun p' n' c' w' o u a b => hk p' n' c' w' ?_ u a b
  unfold OwnS
  rw [List.map_append]
  exact o
theorem cutS {n1 n2 : Nat} {w : World} {p : Option Addr} {n c : Nat} {l : List ByteArray} (h : OwnS n1 w p n c l) (hn : n1 ≤ w.heap.size) {q : Option Addr} {m d lo hi : Nat} {ts : List ByteArray}
    (hs : OwnS n2 w q m d ts) (hlo : lo ≤ hi) (hhi : hi ≤ m) (hsz : l.length + ts.length ≤ 1000000000000) {K : Option Addr → Nat → Nat → World → Prop}
    (hk : ∀ p' n' c' w', OwnS n1 w' p' n' c' (l ++ (ts.drop lo).take (hi - lo)) → Upd (From n1) w w' → (∀ b, InRow (.slice p' n' c') b → InRow (.slice p n c) b ∨ w.heap.size ≤ b) → Upd (InRow (.slice p n c)) w w' → K p' n' c' w') :
    runC Tryz.prog (Builtin.append_ #[32, 32] 32 #[.slice p n c, .slice (subP q d lo 1) (hi - lo) (d - lo)]) w fun v w' => ∃ p' n' c', v = .slice p' n' c' ∧ K p' n' c' w' := by
  refine grow_cut elemStr h hn hs.row hlo hhi (one_strs ts) (by omega) (by rw [List.length_map, List.length_map]; exact hsz) fun p' n' c' w' o u a b => hk p' n' c' w' ?_ u a b
  unfold OwnS
  rw [List.map_append, List.map_take, List.map_drop]
  exact o

theorem insP_at (n : ByteArray) (a : T) : ∀ (l : List (ByteArray × T)) (i : Nat), i ≤ l.length → (∀ j, (h : j < l.length) → j < i → txt l[j].1 < txt n) → (∀ h : i < l.length, ¬ txt l[i].1 < txt n) →
    insP n a l = l.take i ++ (n, a) :: l.drop i
  | [], i, hi, _, _ => by simp [insP]
  | (m, b) :: l, i, hi, h1, h2 => by
    unfold insP
    cases i with
    | zero =>
      rw [if_neg (show ¬ txt m < txt n from h2 (by simp))]
      rfl
    | succ i =>
      rw [if_pos (show txt m < txt n from h1 0 (by simp) (by omega)), insP_at n a l i (by simpa using hi) (fun j h hj => h1 (j + 1) (by simpa using h) (by omega)) (fun h => h2 (by simpa using h))]
      rfl
theorem sortP_take (l : List (ByteArray × T)) {i : Nat} (hi : i < l.length) : sortP (l.take (i + 1)) = insP l[i].1 l[i].2 (sortP (l.take i)) := by
  rw [List.take_succ_eq_append_getElem hi]
  unfold sortP
  rw [List.foldl_append]
  rfl
theorem sortP_len (l : List (ByteArray × T)) : (sortP l).length = l.length := by
  have key : ∀ l m : List (ByteArray × T), (l.foldl (fun m x => insP x.1 x.2 m) m).length = m.length + l.length := by
    intro l
    induction l with
    | nil => intro m; simp
    | cons x l ih =>
      intro m
      rw [List.foldl_cons, ih, (insP_perm x.1 x.2 m).length_eq]
      simp only [List.length_cons]; omega
  have := key l []
  simpa [sortP] using this
/-- the names that are there are the names that came. -/
theorem sortP_names (ns : List ByteArray) (l : List T) (h : ns.length = l.length) (i : Nat) (x : ByteArray) : (∃ y ∈ sortP ((ns.zip l).take i), y.1 = x) ↔ x ∈ ns.take i := by
  have key : ∀ l m : List (ByteArray × T), (l.foldl (fun m x => insP x.1 x.2 m) m).Perm (m ++ l) := by
    intro l
    induction l with
    | nil => intro m; simp
    | cons x l ih =>
      intro m
      rw [List.foldl_cons]
      refine (ih _).trans (((insP_perm x.1 x.2 m).append_right l).trans ?_)
      simpa using List.perm_middle.symm
  have hp : (sortP ((ns.zip l).take i)).Perm ((ns.zip l).take i) := by simpa [sortP] using key ((ns.zip l).take i) []
  have e : ns.take i = ((ns.zip l).take i).map (·.1) := by rw [List.map_take, (fst_zip h).1]
  rw [e, List.mem_map]
  constructor
  · rintro ⟨y, hy, rfl⟩; exact ⟨y, hp.mem_iff.1 hy, rfl⟩
  · rintro ⟨y, hy, rfl⟩; exact ⟨y, hp.mem_iff.2 hy, rfl⟩
theorem rec_not {ns : List ByteArray} {l : List T} (h : ¬ (ns.length = l.length ∧ allOk l = true ∧ (ns.all fun n => fieldL (txt n)) = true ∧ ns.Nodup)) : recF ns l = (.nil, 2) := by
  unfold recF
  rw [if_neg h]
theorem nodup_take_succ {α : Type} {l : List α} {i : Nat} (hi : i < l.length) : (l.take (i + 1)).Nodup ↔ (l.take i).Nodup ∧ l[i] ∉ l.take i := by
  rw [List.take_succ_eq_append_getElem hi, List.nodup_append]
  constructor
  · rintro ⟨h1, _, h2⟩
    exact ⟨h1, fun h => h2 _ h _ (by simp) rfl⟩
  · rintro ⟨h1, h2⟩
    exact ⟨h1, by simp, fun a ha b hb e => by
      rw [List.mem_singleton] at hb
      subst hb; subst e
      exact h2 ha⟩

/-- what the record holds while it is made. -/
structure RecZ (n0 n1 k3 : Nat) (F : Nat → Prop) (w : World) (M : List (ByteArray × T)) : Prop where
  ex : ∃ q m d q' m' d', Blk w k3 #[.int .i64 7, .string (ByteArray.mk #[]), .slice q m d, .slice q' m' d', .pointer none] 44 ∧ OwnS n1 w q m d (M.map (·.1)) ∧ OwnT n0 n1 F w q' m' d' (M.map (·.2))
theorem RecZ.keep {n0 n1 k3 : Nat} {F : Nat → Prop} {w w' : World} {M : List (ByteArray × T)} (h : RecZ n0 n1 k3 F w M) (u : Upd No w w') : RecZ n0 n1 k3 F w' M := by
  obtain ⟨q, m, d, q', m', d', hB, hS, hT⟩ := h.ex
  exact ⟨q, m, d, q', m', d', hB.upd u id, hS.keep u, hT.keep u⟩

set_option maxHeartbeats 2000000 in
theorem rRec_spec {ns : List ByteArray} {l : List T} {F : Nat → Prop} {w : World} {x0 : Option Addr} {x0l x0c : Nat} {x1 : Option Addr} {x1l x1c : Nat} (hS : StrsAt w x0 ns) (hsl : x0l = ns.length) (hnl : ns.length ≤ 1000000)
    (h : TyRow ids F w (.slice x1 x1l x1c) l) :
    callC Tryz.prog 21 #[.slice x0 x0l x0c, .slice x1 x1l x1c] w fun v w' => ∃ q : Option Addr, v = .tuple #[.pointer q, .int .i64 (recF ns l).2] ∧ TyAt ids (With F w.heap.size) w' (.pointer q) (recF ns l).1 ∧ Upd No w w' := by
  subst hsl
  obtain ⟨el, _, hlm, _⟩ := h.get
  subst el
  refine rRec_text _ _ _ _ _ _ _ _ ⟨fun w' => Upd No w w' ∧ ns.length = l.length ∧ allOk l = true, ?_, fun b w' => Upd No w w' ∧ ((b = true ∧ recF ns l = (.nil, 2)) ∨ (b = false ∧ ns.length = l.length ∧ allOk l = true)), ?_, ?_⟩
  rotate_left
  · rintro b w' ⟨u, ⟨rfl, e⟩ | ⟨rfl, e⟩⟩ _
    · exact brC_tt rfl (by rw [e]; exact ⟨none, rfl, rfl, u⟩)
    · exact brC_ff rfl ⟨u, e⟩
  · refine brC_intro (fun hne => ⟨Upd.refl _ _, .inl ⟨rfl, rec_not fun hx => ?_⟩⟩) fun heq => ?_
    · rw [hx.1] at hne; simp at hne
    have heq : (ns.length : Int) = l.length := by simpa using heq
    refine callC_of (rall_spec h) fun v w1 ⟨e, u1⟩ => ⟨_, e, u1, ?_⟩
    cases ha : allOk l with
    | true => exact .inr ⟨rfl, by omega, rfl⟩
    | false => exact .inl ⟨rfl, rec_not fun hx => by rw [ha] at hx; cases hx.2.1⟩
  rintro w1 ⟨u1, hlen, hok⟩ _
  have hll : l.length ≤ 1000000 := by omega
  generalize hn0 : w.heap.size = n0
  have hw1 : n0 ≤ w1.heap.size := by rw [← hn0]; exact u1.size
  refine newC_mk fun w4 B4 u4 s4 => ?_
  generalize hk3 : w1.heap.size = k3 at B4 s4 ⊢
  generalize hn1 : w4.heap.size = n1 at s4
  have hrow0 : TyRow ids (fun b => F b ∧ b < n0) w (.slice x1 l.length x1c) l := h.mono fun b hb hf => ⟨hf, by omega⟩
  refine ⟨fun n w' => ∃ i : Nat, n = i ∧ i ≤ ns.length ∧ Upd No w w' ∧ n1 ≤ w'.heap.size ∧ RecZ n0 n1 k3 F w' (sortP ((ns.zip l).take i)) ∧ (∀ x ∈ ns.take i, fieldL (txt x) = true) ∧ (ns.take i).Nodup, fun n _ => (ns.length - n).toNat,
    ⟨0, rfl, Nat.zero_le _, up u1 u4, by omega, ⟨none, 0, 0, none, 0, 0, B4, ownNil _ _ _, OwnT.nil _ _ _ _⟩, (fun x hx => by cases hx), List.nodup_nil⟩, ?_⟩
  rintro n w8 ⟨i, rfl, hi, u8, g8, Z8, hF, hN⟩ _
  have hzl : (ns.zip l).length = ns.length := by rw [List.length_zip]; omega
  refine brC_intro (fun hlt => ?_) fun hge => ?_
  rotate_left
  · have hi : i = ns.length := by have := of_decide_eq_false hge; omega
    subst hi
    rw [List.take_length] at hF hN
    rw [← hzl, List.take_length] at Z8
    have eF : recF ns l = fits (.mk 7 .empty ((sortP (ns.zip l)).map (·.1)) ((sortP (ns.zip l)).map (·.2)) .nil) := by
      unfold recF
      rw [if_pos ⟨hlen, hok, List.all_eq_true.2 hF, hN⟩]
    rw [eF]
    obtain ⟨q, m, d, q', m', d', hB, hS', hT⟩ := Z8.ex
    obtain ⟨vs, t1, t2⟩ := hT.ex
    have hTy := mkTy (G := With F n0) (ns := (sortP (ns.zip l)).map (·.1)) (ta := (sortP (ns.zip l)).map (·.2)) (r := .nil) (vs := vs) hB (.inr (by omega)) hS'.row (fun b hb => .inr (by have := hS'.own b hb; omega)) t1.row (fun b hb => .inr (by have := t1.own b hb; omega)) (t2.mono fun b _ hb => .inl hb.1) rfl
    refine callC_of (rfits_spec hTy) fun v w15 ⟨q, e, hq, u15⟩ => ⟨_, _, e, q, rfl, hq, up u8 u15⟩
  have hlt : i < ns.length := by have := of_decide_eq_true hlt; omega
  have hil : i < l.length := by omega
  have hiz : i < (ns.zip l).length := by omega
  generalize hM : sortP ((ns.zip l).take i) = M at Z8
  have hML : M.length = i := by rw [← hM, sortP_len, List.length_take]; omega
  have hMn : ∀ x, (∃ y ∈ M, y.1 = x) ↔ x ∈ ns.take i := fun x => by rw [← hM]; exact sortP_names ns l hlen i x
  have hzi : (ns.zip l)[i] = (ns[i], l[i]) := List.getElem_zip
  refine ⟨fun w' => Upd No w w' ∧ n1 ≤ w'.heap.size ∧ RecZ n0 n1 k3 F w' (sortP ((ns.zip l).take (i + 1))) ∧ fieldL (txt ns[i]) = true ∧ ns[i] ∉ ns.take i, ?_, ⟨by omega, by omega, ?_⟩⟩
  · rintro w11 ⟨u11, g11, Z11, f11, m11⟩ _
    rw [wrap_succ (by omega)]
    refine ⟨⟨i + 1, rfl, hlt, u11, g11, Z11, fun x hx => ?_, (nodup_take_succ hlt).2 ⟨hN, m11⟩⟩, by dsimp only; omega⟩
    rw [List.take_succ_eq_append_getElem hlt, List.mem_append, List.mem_singleton] at hx
    rcases hx with hx | rfl
    · exact hF x hx
    · exact f11
  refine strC (strs_keep hS u8) hlt fun a hc => callC_of (rField_spec ns[i] w8) fun v w16 ⟨e, ew⟩ => ⟨_, e, ?_⟩
  subst ew
  refine brC_intro (fun hb => ?_) fun hb => ?_
  · rw [rec_not fun hx => ?_]
    · exact ⟨none, rfl, rfl, u8⟩
    · have := List.all_eq_true.1 hx.2.2.1 _ (List.getElem_mem hlt)
      rw [this] at hb; cases hb
  have hfi : fieldL (txt ns[i]) = true := by simpa using hb
  have hsm : ∀ x ∈ ns.take (i + 1), x.size ≤ maxLen := fun x hx => by
    have : fieldL (txt x) = true := by
      rw [List.take_succ_eq_append_getElem hlt, List.mem_append, List.mem_singleton] at hx
      rcases hx with hx | rfl
      · exact hF x hx
      · exact hfi
    simp only [fieldL, Bool.and_eq_true, decide_eq_true_eq] at this
    rw [size_txt]
    simp only [maxLen]; omega
  refine ⟨fun n w' => ∃ a : Nat, n = a ∧ a ≤ M.length ∧ Upd No w16 w' ∧ (∀ j, (h : j < M.length) → j < a → txt M[j].1 < txt ns[i]) ∧ (∀ h : a < M.length, ¬ txt M[a].1 < txt ns[i]), ?_,
    fun n w' => ∃ a : Nat, n = a ∧ a ≤ M.length ∧ Upd No w16 w' ∧ (∀ j, (h : j < M.length) → j < a → txt M[j].1 < txt ns[i]), fun n _ => (M.length - n).toNat, ⟨0, rfl, Nat.zero_le _, Upd.refl _ _, fun j _ h => absurd h (by omega)⟩, ?_⟩
  rotate_left
  · rintro n w95 ⟨a, rfl, ha, u95, hlow⟩ _
    refine ⟨fun w' => Upd No w16 w' ∧ a < M.length ∧ ∀ h : a < M.length, txt M[a].1 < txt ns[i], ?_, drawC_mk fun w100 u100 _ => ?_⟩
    · rintro w98 ⟨u98, hl98, hlo98⟩ _
      rw [wrap_succ (by omega)]
      refine ⟨⟨a + 1, rfl, hl98, u98, fun j hj hja => ?_⟩, by dsimp only; omega⟩
      by_cases e : j = a
      · subst e; exact hlo98 hj
      · exact hlow j hj (by omega)
    have Z := Z8.keep (up u95 u100)
    obtain ⟨q, m, d, q', m', d', hB, hSS, hT⟩ := Z.ex
    obtain ⟨em, _, _⟩ := OwnS.len' hSS
    rw [List.length_map] at em
    subst em
    refine ⟨_, _, _, hB.cell rfl, brC_intro (fun h1 => ⟨_, _, _, hB.cell rfl, ⟨by omega, by have := of_decide_eq_true h1; omega, ?_⟩⟩) fun h1 => ?_⟩
    · have h1 : a < M.length := by have := of_decide_eq_true h1; omega
      refine nameC' hSS.row (by simpa using h1) fun ad hcd => ⟨by omega, by omega, ?_⟩
      refine strC (strs_keep hS (up u8 (up u95 u100))) hlt fun ad' hcd' => ?_
      have hma : M[a].1 ∈ ns.take i := (hMn _).1 ⟨_, List.getElem_mem h1, rfl⟩
      have eMa : (M.map (·.1))[a]'(by simpa using h1) = M[a].1 := by simp
      rw [eMa]
      refine callC_of (less_spec M[a].1 ns[i] _ (hsm _ (by rw [List.take_succ_eq_append_getElem hlt]; exact List.mem_append_left _ hma))) fun v w112 ⟨e, u112⟩ => ⟨_, e, ?_⟩
      rw [lessB_bs]
      refine brC_intro (fun hb => ⟨up (up u95 u100) u112, h1, fun _ => of_decide_eq_true hb⟩) fun hb => ⟨a, rfl, ha, up (up u95 u100) u112, hlow, fun _ => of_decide_eq_false hb⟩
    · exact ⟨a, rfl, ha, up u95 u100, hlow, fun h => by have := of_decide_eq_false h1; omega⟩
  rintro n w20 ⟨a, rfl, ha, u20, hlow, hnot⟩ _
  refine ⟨fun w' => Upd No w16 w' ∧ ns[i] ∉ ns.take i, ?_, fun b w' => Upd No w16 w' ∧ ((b = true ∧ ns[i] ∈ ns.take i) ∨ (b = false ∧ ns[i] ∉ ns.take i)), ?_, ?_⟩
  rotate_left
  · rintro b w79 ⟨u79, ⟨rfl, hin⟩ | ⟨rfl, hin⟩⟩ _
    · refine brC_tt rfl ?_
      rw [rec_not fun hx => ?_]
      · exact ⟨none, rfl, rfl, up u8 u79⟩
      · have := (nodup_take_succ hlt).1 (hx.2.2.2.sublist (List.take_sublist _ _))
        exact this.2 hin
    · exact brC_ff rfl ⟨u79, hin⟩
  · refine drawC_mk fun w81 u81 _ => ?_
    have Z := Z8.keep (up u20 u81)
    obtain ⟨q, m, d, q', m', d', hB, hSS, hT⟩ := Z.ex
    obtain ⟨em, _, _⟩ := OwnS.len' hSS
    rw [List.length_map] at em
    subst em
    -- a name that is there stands at its place
    have hin : ns[i] ∈ ns.take i ↔ ∃ h : a < M.length, M[a].1 = ns[i] := by
      constructor
      · intro hx
        obtain ⟨y, hy, ey⟩ := (hMn _).2 hx
        obtain ⟨j, hj, rfl⟩ := List.getElem_of_mem hy
        have hja : ¬ j < a := fun h => by
          have := hlow j hj h
          rw [ey] at this
          exact lt_irr this
        have haj : a < M.length := by omega
        refine ⟨haj, ?_⟩
        by_cases e : j = a
        · subst e; exact ey
        · have hnd : (((ns.zip l).take i).map (·.1)).Nodup := by rw [List.map_take, (fst_zip hlen).1]; exact hN
          have hs := (sortP_spec hnd).1
          rw [hM] at hs
          have := List.pairwise_iff_getElem.1 hs a j haj hj (by omega)
          rw [ey] at this
          exact absurd this (hnot haj)
      · rintro ⟨hx, ey⟩
        exact (hMn _).1 ⟨_, List.getElem_mem hx, ey⟩
    refine ⟨_, _, _, hB.cell rfl, brC_intro (fun h1 => ⟨_, _, _, hB.cell rfl, ⟨by omega, by have := of_decide_eq_true h1; omega, ?_⟩⟩) fun h1 => ?_⟩
    · have h1 : a < M.length := by have := of_decide_eq_true h1; omega
      refine nameC' hSS.row (by simpa using h1) fun ad hcd => ⟨by omega, by omega, ?_⟩
      refine strC (strs_keep hS (up u8 (up u20 u81))) hlt fun ad' hcd' => ⟨up u20 u81, ?_⟩
      have eMa : (M.map (·.1))[a]'(by simpa using h1) = M[a].1 := by simp
      rw [eMa, beq_bytes, hin]
      by_cases e : M[a].1 = ns[i]
      · exact .inl ⟨by simpa using e, h1, e⟩
      · exact .inr ⟨by simpa using e, fun ⟨_, e'⟩ => e e'⟩
    · refine ⟨up u20 u81, .inr ⟨rfl, fun hx => ?_⟩⟩
      obtain ⟨h, _⟩ := hin.1 hx
      have := of_decide_eq_false h1
      omega
  rintro w23 ⟨u23, hnin⟩ _
  have hins : sortP ((ns.zip l).take (i + 1)) = M.take a ++ (ns[i], l[i]) :: M.drop a := by
    rw [sortP_take _ hiz, hM, hzi]
    exact insP_at _ _ M a ha hlow hnot
  have Z := Z8.keep u23
  have uw23 := up u8 u23
  obtain ⟨q, m, d, q', m', d', hB, hSS, hT⟩ := Z.ex
  obtain ⟨em, hcap, hcm⟩ := OwnS.len' hSS
  rw [List.length_map] at em
  obtain ⟨em', hcap', hcm'⟩ := hT.len
  rw [List.length_map] at em'
  subst em
  subst em'
  have g23 : n1 ≤ w23.heap.size := Nat.le_trans g8 u23.size
  have hk31 : k3 < n1 := by omega
  have hBl := hB.lt
  refine ⟨_, _, _, hB.cell rfl, ⟨by omega, by omega, by omega, ?_⟩⟩
  simp only [Int.toNat_natCast]
  refine cutS (l := []) (lo := 0) (hi := a) (ownNil w23.heap.size w23 _) (Nat.le_refl _) hSS (Nat.zero_le _) (by omega) (by simp; omega) fun p1 m1 c1 w29 o1 v29 _ _ => ?_
  have u29 := upFrom (Upd.refl No w23) v29 (Nat.le_refl _)
  rw [List.nil_append, List.drop_zero, Nat.sub_zero] at o1
  refine ⟨by omega, by omega, ?_⟩
  refine strC (strs_keep hS (up uw23 u29)) hlt fun ad hcd => newC_mk fun w36 B36 v36 s36 => ?_
  have hsz29 := u29.size
  refine growS (o1.keep v36) (by omega) B36 (by rw [List.length_take, List.length_map]; omega) fun p2 m2 c2 w38 o2 v38 _ _ => ?_
  have u38 : Upd No w23 w38 := upFrom (up u29 v36) v38 (Nat.le_refl _)
  refine ⟨_, _, _, (hB.upd u38 id).cell rfl, ⟨by omega, by omega, by omega, ?_⟩⟩
  refine cutS (lo := a) (hi := M.length) o2 u38.size (hSS.keep u38) (by omega) (Nat.le_refl _) (by simp only [List.length_append, List.length_take, List.length_map, List.length_cons, List.length_nil]; omega) fun p3 m3 c3 w46 o3 v46 _ _ => ?_
  have u46 : Upd No w23 w46 := upFrom u38 v46 (Nat.le_refl _)
  have hsz46 := u46.size
  refine stC_mk (hB.upd u46 id) (by simp) fun w50 B50 v50 s50 => ?_
  have k50 : ∀ b, b = k3 → b < w23.heap.size := fun b e => by omega
  have u50 : Upd No w w50 := (up uw23 u46).trans v50 fun x hx (e : x = k3) => by have := u8.size; have := u1.size; omega
  have hT50 : OwnT n0 n1 F w50 q' M.length d' (M.map (·.2)) := by
    obtain ⟨vs, t1, t2⟩ := (hT.keep u46).ex
    exact ⟨vs, ⟨t1.row.upd v50 fun b hb (e : b = k3) => by have := t1.own b hb; omega, t1.own, t1.len, t1.cap⟩, t2.upd v50 fun b hb (e : b = k3) => by omega⟩
  have o3' : OwnS w23.heap.size w50 p3 m3 c3 (M.take a |>.map (·.1) |> fun x => x ++ ns[i] :: (M.drop a).map (·.1)) := by
    have e : (M.take a).map (·.1) ++ ns[i] :: (M.drop a).map (·.1) = (M.map (·.1)).take a ++ [ns[i]] ++ ((M.map (·.1)).drop a).take (M.length - a) := by
      rw [List.map_take, List.map_drop, List.take_of_length_le (l := (M.map (·.1)).drop a) (by simp), List.append_assoc]
      rfl
    show OwnS w23.heap.size w50 p3 m3 c3 ((M.take a).map (·.1) ++ ns[i] :: (M.drop a).map (·.1))
    rw [e]
    exact ⟨o3.row.upd v50 fun b hb (e : b = k3) => by have := o3.own b hb; omega, o3.own, o3.len, o3.cap⟩
  refine ⟨_, _, _, B50.cell rfl, ⟨by omega, by omega, by omega, ?_⟩⟩
  refine (OwnT.nil n0 w50.heap.size F w50).cut (lo := 0) (hi := a) (by omega) (Nat.le_refl _) hT50 (Nat.zero_le _) (by omega) (by simp; omega) fun p4 m4 c4 w55 o4 v55 _ _ => ?_
  have u55 := upFrom (Upd.refl No w50) v55 (Nat.le_refl _)
  rw [List.nil_append, List.drop_zero, Nat.sub_zero] at o4
  refine ⟨by omega, by omega, ?_⟩
  refine argC (hrow0.keep (up u50 u55)) hil fun ad' x hcd' hx => newC_mk fun w62 B62 v62 s62 => ?_
  have hsz55 := u55.size
  refine (o4.keep v62).grow1 (by omega) (by omega) B62 (hx.keep v62) (by rw [List.length_take, List.length_map]; omega) fun p5 m5 c5 w64 o5 v64 _ _ => ?_
  have u64 : Upd No w50 w64 := upFrom (up u55 v62) v64 (Nat.le_refl _)
  refine ⟨_, _, _, (B50.upd u64 id).cell rfl, ⟨by omega, by omega, by omega, ?_⟩⟩
  refine o5.cut (lo := a) (hi := M.length) (by omega) u64.size (hT50.keep u64) (by omega) (Nat.le_refl _) (by simp only [List.length_append, List.length_take, List.length_map, List.length_cons, List.length_nil]; omega) fun p6 m6 c6 w72 o6 v72 _ _ => ?_
  have u72 : Upd No w50 w72 := upFrom u64 v72 (Nat.le_refl _)
  have hsz72 := u72.size
  refine stC_mk (B50.upd u72 id) (by simp) fun w76 B76 v76 s76 => ?_
  refine ⟨(up u50 u72).trans v76 fun x hx (e : x = k3) => by have := u8.size; have := u1.size; omega, by omega, ?_, hfi, hnin⟩
  rw [hins]
  refine ⟨_, _, _, _, _, _, B76, ?_, ?_⟩
  · rw [List.map_append, List.map_cons]
    have o3k := o3'.keep u72
    exact ⟨o3k.row.upd v76 fun b hb (e : b = k3) => by have := o3'.own b hb; omega, fun b hb => by have := o3'.own b hb; omega, o3'.len, o3'.cap⟩
  · rw [List.map_append, List.map_cons]
    obtain ⟨vs, t1, t2⟩ := o6.ex
    refine ⟨vs, ⟨t1.row.upd v76 fun b hb (e : b = k3) => by have := t1.own b hb; omega, fun b hb => by have := t1.own b hb; omega, t1.len, t1.cap⟩, ?_⟩
    have e : (M.take a).map (·.2) ++ l[i] :: (M.drop a).map (·.2) = (M.map (·.2)).take a ++ [l[i]] ++ ((M.map (·.2)).drop a).take (M.length - a) := by
      rw [List.map_take, List.map_drop, List.take_of_length_le (l := (M.map (·.2)).drop a) (by simp), List.append_assoc]
      rfl
    rw [e]
    exact t2.upd v76 fun b hb (e : b = k3) => by omega
end Go.Proofs.YtpddhbdjcgkjcaaGreatDoor

/- The reference's Union. -/
namespace Go.Proofs.YtpddhbdjcgkjcaaGreatDoor
open Go.SX Go.Ty

theorem insT_at (t : T) : ∀ (l : List T) (i : Nat), i ≤ l.length → (∀ j, (h : j < l.length) → j < i → write l[j] < write t) → (∀ h : i < l.length, ¬ write l[i] < write t) →
    insT t l = if ∃ h : i < l.length, write l[i] = write t then l else l.take i ++ t :: l.drop i
  | [], i, hi, _, _ => by simp [insT]
  | u :: l, i, hi, h1, h2 => by
    unfold insT
    cases i with
    | zero =>
      rw [if_neg (show ¬ write u < write t from h2 (by simp))]
      by_cases e : write u = write t
      · rw [if_pos e, if_pos ⟨by simp, e⟩]
      · rw [if_neg e, if_neg (fun ⟨_, e'⟩ => e e')]
        rfl
    | succ i =>
      rw [if_pos (show write u < write t from h1 0 (by simp) (by omega)), insT_at t l i (by simpa using hi) (fun j h hj => h1 (j + 1) (by simpa using h) (by omega)) (fun h => h2 (by simpa using h))]
      by_cases e : ∃ h : i < l.length, write l[i] = write t
      · rw [if_pos e, if_pos ⟨by simpa using e.1, by simpa using e.2⟩]
      · rw [if_neg e, if_neg (fun ⟨h, e'⟩ => e ⟨by simpa using h, by simpa using e'⟩)]
        rfl
theorem insT_len (t : T) : ∀ l : List T, (insT t l).length ≤ l.length + 1
  | [] => by simp [insT]
  | u :: l => by
    unfold insT
    have := insT_len t l
    split
    · simp only [List.length_cons]; omega
    · split <;> simp
/-- what is there after i types. -/
def outN (l : List T) : List T := l.foldl (fun m t => insT t m) []
theorem outN_succ (l : List T) {i : Nat} (h : i < l.length) : outN (l.take (i + 1)) = insT l[i] (outN (l.take i)) := by
  unfold outN
  rw [List.take_succ_eq_append_getElem h, List.foldl_append]
  rfl
theorem outN_sub (l : List T) : (∀ u ∈ outN l, u ∈ l) ∧ (outN l).length ≤ l.length := by
  constructor
  · intro u hu
    exact ((foldT l [] List.Pairwise.nil).2.1 u hu).resolve_left (by simp)
  · have key : ∀ l m : List T, (l.foldl (fun m t => insT t m) m).length ≤ m.length + l.length := by
      intro l
      induction l with
      | nil => intro m; simp
      | cons x l ih =>
        intro m
        have := ih (insT x m)
        have := insT_len x m
        simp only [List.foldl_cons, List.length_cons]; omega
    have := key l []
    unfold outN
    simpa using this
theorem flat_snoc (l : List T) {i : Nat} (h : i < l.length) : flatT (l.take (i + 1)) = flatT (l.take i) ++ (if l[i].kind = 9 then l[i].args else [l[i]]) := by
  unfold flatT
  rw [List.take_succ_eq_append_getElem h, List.flatMap_append]
  simp
/-- what is flat may be, and is no larger. -/
theorem flat_ok {l : List T} (h : allOk l = true) : ∀ u ∈ flatT l, may u = true ∧ size u ≤ 60 := by
  intro u hu
  rw [allOk_iff] at h
  obtain ⟨a, ha, hx⟩ := List.mem_flatMap.1 hu
  obtain ⟨h1, h2⟩ := check_iff.1 (h a ha)
  split at hx
  · exact ⟨(may_args h1).1 u hx, small_args hx h2⟩
  · obtain rfl : u = a := by simpa using hx
    exact ⟨h1, h2⟩
theorem flat_len {l : List T} (h : allOk l = true) : ∀ i, i ≤ l.length → (flatT (l.take i)).length ≤ 60 * i := by
  intro i
  induction i with
  | zero => intro _; simp [flatT]
  | succ i ih =>
    intro hi
    have hi' : i < l.length := by omega
    rw [flat_snoc l hi', List.length_append]
    have := ih (by omega)
    obtain ⟨h1, h2⟩ := check_iff.1 (allOk_iff.1 h _ (List.getElem_mem hi'))
    have := len_args h1 h2
    split
    · omega
    · simp only [List.length_cons, List.length_nil]; omega
theorem flat_take_sub {l : List T} {i : Nat} {u : T} (h : u ∈ flatT (l.take i)) : u ∈ flatT l := by
  obtain ⟨a, ha, hx⟩ := List.mem_flatMap.1 h
  exact List.mem_flatMap.2 ⟨a, List.mem_of_mem_take ha, hx⟩
theorem write_size {u : T} (h : may u = true ∧ size u ≤ 60) : (bs (write u)).size ≤ maxLen := by
  rw [size_bs]
  have := write_len u h.1
  simp only [maxLen]; omega

/-- a union of these. -/
def unionOf : List T → T × Int
  | [t] => (t, 0)
  | M => fits (.mk 9 .empty [] M .nil)
theorem unionOf_big : ∀ {M : List T}, M.length ≠ 1 → unionOf M = fits (.mk 9 .empty [] M .nil)
  | [], _ => rfl
  | [_], h => (h rfl).elim
  | _ :: _ :: _, _ => rfl
theorem unionF_eq {l : List T} (hne : l ≠ []) (hok : allOk l = true) : unionF l = if l.any (·.kind == 1) then (.mk 1 .empty [] [] .nil, 0) else unionOf (outT l) := by
  unfold unionF
  rw [hok]
  have e : (l.isEmpty || !true) = false := by
    cases l with
    | nil => exact (hne rfl).elim
    | cons => rfl
  rw [e, if_neg (by simp)]
  split
  · rfl
  · split
    · rename_i e; rw [e]; rfl
    · rename_i hx
      refine (unionOf_big fun h => ?_).symm
      match ho : outT l, h with
      | [t], _ => exact hx t ho

set_option maxHeartbeats 2000000 in
theorem rUnion_spec {l : List T} {F : Nat → Prop} {w : World} {x0 : Option Addr} {x0l x0c : Nat} (h : TyRow ids F w (.slice x0 x0l x0c) l) (hll : l.length ≤ 1000000) :
    callC Tryz.prog 24 #[.slice x0 x0l x0c] w fun v w' => ∃ q : Option Addr, v = .tuple #[.pointer q, .int .i64 (unionF l).2] ∧ TyAt ids (With F w.heap.size) w' (.pointer q) (unionF l).1 ∧ Upd No w w' := by
  obtain ⟨el, _, hlm, _⟩ := h.get
  subst el
  refine rUnion_text _ _ _ _ _ ⟨fun w' => Upd No w w' ∧ l ≠ [] ∧ allOk l = true, ?_, fun b w' => Upd No w w' ∧ ((b = true ∧ unionF l = (.nil, 2)) ∨ (b = false ∧ l ≠ [] ∧ allOk l = true)), ?_, ?_⟩
  rotate_left
  · rintro b w' ⟨u, ⟨rfl, e⟩ | ⟨rfl, e⟩⟩ _
    · exact brC_tt rfl (by rw [e]; exact ⟨none, rfl, rfl, u⟩)
    · exact brC_ff rfl ⟨u, e⟩
  · refine brC_intro (fun hz => ⟨Upd.refl _ _, .inl ⟨rfl, ?_⟩⟩) fun hz => callC_of (rall_spec h) fun v w1 ⟨e, u1⟩ => ⟨_, e, u1, ?_⟩
    · have : l = [] := by
        have : (l.length : Int) = 0 := by simpa using hz
        exact List.eq_nil_of_length_eq_zero (by omega)
      subst this
      rfl
    · have hne : l ≠ [] := fun e => by subst e; simp at hz
      cases ha : allOk l with
      | true => exact .inr ⟨rfl, hne, rfl⟩
      | false =>
        refine .inl ⟨rfl, ?_⟩
        unfold unionF
        rw [ha]
        simp
  rintro w1 ⟨u1, hne, hok⟩ _
  have hflat := flat_ok hok
  have hU := unionF_eq hne hok
  generalize hn0 : w.heap.size = n0
  have hw1 : n0 ≤ w1.heap.size := by rw [← hn0]; exact u1.size
  have hrow0 : TyRow ids (fun b => F b ∧ b < n0) w (.slice x0 l.length x0c) l := h.mono fun b hb hf => ⟨hf, by omega⟩
  refine ⟨fun p n c j w' => ∃ i : Nat, j = i ∧ i ≤ l.length ∧ Upd No w w' ∧ n0 ≤ w'.heap.size ∧ OwnT n0 n0 F w' p n c (flatT (l.take i)) ∧ ∀ a ∈ l.take i, a.kind ≠ 1, fun _ _ _ j _ => (l.length - j).toNat,
    ⟨0, rfl, Nat.zero_le _, u1, hw1, OwnT.nil _ _ _ _, (fun a ha => by cases ha)⟩, ?_⟩
  rintro p n c j w9 ⟨i, rfl, hi, u9, g9, O9, hk1⟩ _
  obtain ⟨en, hnc, hcm⟩ := O9.len
  have hfl := flat_len hok i hi
  refine brC_intro (fun hlt => ?_) fun hge => ?_
  · have hlt : i < l.length := by have := of_decide_eq_true hlt; omega
    refine ⟨fun p' n' c' w' => Upd No w w' ∧ n0 ≤ w'.heap.size ∧ OwnT n0 n0 F w' p' n' c' (flatT (l.take (i + 1))) ∧ l[i].kind ≠ 1, ?_, ⟨by omega, by omega, ?_⟩⟩
    · rintro p' n' c' w15 ⟨u15, g15, O15, k15⟩ _
      rw [wrap_succ (by omega)]
      refine ⟨⟨i + 1, rfl, hlt, u15, g15, O15, fun a ha => ?_⟩, by dsimp only; omega⟩
      rw [List.take_succ_eq_append_getElem hlt, List.mem_append, List.mem_singleton] at ha
      rcases ha with ha | rfl
      · exact hk1 a ha
      · exact k15
    have hrow := hrow0.keep u9
    have hchk := allOk_iff.1 hok _ (List.getElem_mem hlt)
    obtain ⟨hmi, hsi⟩ := check_iff.1 hchk
    refine argC hrow hlt fun a x hc hx => ?_
    obtain ⟨g, rfl, hg⟩ := kindC hx (may_notNil hmi)
    refine ptrC_some ⟨_, hg, brC_intro (fun h1 => newC_mk fun w22 B22 u22 s22 => ?_) fun h1 => ⟨by omega, by omega, ?_⟩⟩
    · have h1 : l[i].kind = 1 := by simpa using h1
      rw [hU, if_pos (List.any_eq_true.2 ⟨_, List.getElem_mem hlt, by simpa using h1⟩)]
      refine ⟨_, rfl, mkTy (nv := .slice none 0 0) (av := .slice none 0 0) (rv := .pointer none) (ns := []) (ta := []) (vs := []) (r := .nil) B22 (.inr g9) (RowAt.nil _ _ _) (fun b hb => (no_in b hb).elim) (RowAt.nil _ _ _) (fun b hb => (no_in b hb).elim) trivial rfl, up u9 u22⟩
    have h1 : l[i].kind ≠ 1 := by simpa using h1
    refine argC hrow hlt fun a x hc hx => ?_
    obtain ⟨g, rfl, hg⟩ := kindC hx (may_notNil hmi)
    refine ptrC_some ⟨_, hg, brC_intro (fun h9 => ⟨by omega, by omega, ?_⟩) fun h9 => ⟨by omega, by omega, ?_⟩⟩
    · have h9 : l[i].kind = 9 := by simpa using h9
      refine argC hrow hlt fun a x hc hx => ?_
      have hsn := flat_snoc l hlt
      rw [if_pos h9] at hsn
      have hla := len_args hmi hsi
      have hop : ∃ g p' c', x = some g ∧ w9.cell? (Addr.add g 3) = some (.slice p' l[i].args.length c') ∧ TyRow ids (fun b => F b ∧ b < n0) w9 (.slice p' l[i].args.length c') l[i].args := by
        cases hq : l[i] with
        | nil => rw [hq] at hmi; cases hmi
        | mk k' nm' ns' ta' r' =>
          rw [hq] at hx
          obtain ⟨_, _, _, _, _, _, rfl, D⟩ := ty_opens hx
          exact ⟨_, _, _, rfl, D.c3, D.args⟩
      obtain ⟨g', p', c', rfl, hc3, hargs⟩ := hop
      obtain ⟨ys, y1, y2, y3⟩ := hargs
      refine ptrC_some ⟨_, _, _, hc3, O9.grow (Nat.le_refl _) g9 y1 y3 (by omega) fun p2 n2 c2 w34 o2 v34 _ _ => ⟨?_, ?_, ?_, h1⟩⟩
      · exact u9.trans v34 fun b hb (hx : n0 ≤ b) => by omega
      · exact Nat.le_trans g9 v34.size
      · rw [hsn]; exact o2
    · have h9 : l[i].kind ≠ 9 := by simpa using h9
      have hsn := flat_snoc l hlt
      rw [if_neg h9] at hsn
      refine argC hrow hlt fun a x hc hx => newC_mk fun w41 B41 v41 s41 => ?_
      refine (O9.keep v41).grow1 (Nat.le_refl _) (by omega) B41 (hx.keep v41) (by omega) fun p2 n2 c2 w43 o2 v43 _ _ => ⟨?_, ?_, ?_, h1⟩
      · exact (up u9 v41).trans v43 fun b hb (hx : n0 ≤ b) => by omega
      · have := v43.size; omega
      · rw [hsn]; exact o2
  have hi : i = l.length := by have := of_decide_eq_false hge; omega
  rw [hi, List.take_length] at O9 hk1 en hfl
  generalize hFl : flatT l = fl at O9 en hflat hfl
  subst en
  have hany : l.any (·.kind == 1) = false := by
    rw [List.any_eq_false]
    intro a ha
    simpa using hk1 a ha
  rw [hany, if_neg (by simp)] at hU
  have houtT : outT l = outN fl := by unfold outT outN; rw [hFl]
  rw [houtT] at hU
  refine ⟨fun p' n' c' j w' => ∃ q : Nat, j = q ∧ q ≤ fl.length ∧ Upd No w9 w' ∧ OwnT n0 w9.heap.size F w' p' n' c' (outN (fl.take q)), fun _ _ _ j _ => (fl.length - j).toNat,
    ⟨0, rfl, Nat.zero_le _, Upd.refl _ _, OwnT.nil _ _ _ _⟩, ?_⟩
  rintro p' n' c' j w53 ⟨q, rfl, hq, u53, O53⟩ _
  obtain ⟨en', hnc', hcm'⟩ := O53.len
  have hol := (outN_sub (fl.take q)).2
  have hosub := (outN_sub (fl.take q)).1
  rw [List.length_take] at hol
  generalize hM : outN (fl.take q) = M at O53 en' hol hosub
  subst en'
  have hMok : ∀ u ∈ M, may u = true ∧ size u ≤ 60 := fun u hu => hflat u (List.mem_of_mem_take (hosub u hu))
  refine brC_intro (fun hlt => ?_) fun hge => ?_
  rotate_left
  · have hq : q = fl.length := by have := of_decide_eq_false hge; omega
    rw [hq, List.take_length] at hM
    rw [hM] at hU
    rw [hU]
    refine brC_intro (fun h1 => ⟨by omega, ?_, ?_⟩) fun h1 => newC_mk fun w129 B129 u129 s129 => ?_
    · have : (M.length : Int) = 1 := by simpa using h1
      omega
    · have h1 : M.length = 1 := by
        have : (M.length : Int) = 1 := by simpa using h1
        omega
      match M, h1 with
      | [t], _ =>
        have hA := O53.arg (i := 0) (by simp) (K := fun a q => w53.cell? a = some (.pointer q) ∧ TyAt ids (fun b => F b ∧ b < n0) w53 (.pointer q) t) fun a q hc ht => ⟨by simpa [addr_add_zero] using hc, ht⟩
        obtain ⟨a, rfl, hh⟩ := ptrC_out hA
        obtain ⟨x, _, hc, ht⟩ := hh
        exact ptrC_some ⟨x, hc, _, rfl, ht.mono fun b _ hb => .inl hb.1, up u9 u53⟩
    · have h1 : M.length ≠ 1 := by
        have : ¬ (M.length : Int) = 1 := by simpa using h1
        omega
      rw [unionOf_big h1]
      obtain ⟨vs, t1, t2⟩ := (O53.keep u129).ex
      have hg53 := u53.size
      have hTy := mkTy (G := With F n0) (nv := .slice none 0 0) (ns := []) (ta := M) (r := .nil) (vs := vs) B129 (.inr (by omega)) (RowAt.nil _ _ _) (fun b hb => (no_in b hb).elim) t1.row (fun b hb => .inr (by have := t1.own b hb; omega)) (t2.mono fun b _ hb => .inl hb.1) rfl
      exact callC_of (rfits_spec hTy) fun v w15 ⟨q, e, hq, u15⟩ => ⟨_, _, e, q, rfl, hq, up (up u9 u53) (up u129 u15)⟩
  have hlt : q < fl.length := by have := of_decide_eq_true hlt; omega
  have hfq := hflat _ (List.getElem_mem hlt)
  refine ⟨fun p2 n2 c2 w' => Upd No w9 w' ∧ OwnT n0 w9.heap.size F w' p2 n2 c2 (outN (fl.take (q + 1))), ?_,
    fun n w' => ∃ a : Nat, n = a ∧ a ≤ M.length ∧ Upd No w53 w' ∧ (∀ j, (h : j < M.length) → j < a → write M[j] < write fl[q]) ∧ (∀ h : a < M.length, ¬ write M[a] < write fl[q]), ?_,
    fun n w' => ∃ a : Nat, n = a ∧ a ≤ M.length ∧ Upd No w53 w' ∧ (∀ j, (h : j < M.length) → j < a → write M[j] < write fl[q]), fun n _ => (M.length - n).toNat, ⟨0, rfl, Nat.zero_le _, Upd.refl _ _, fun j _ h => absurd h (by omega)⟩, ?_⟩
  · rintro p2 n2 c2 w59 ⟨u59, O59⟩ _
    rw [wrap_succ (by omega)]
    exact ⟨⟨q + 1, rfl, hlt, u59, O59⟩, by dsimp only; omega⟩
  rotate_left
  · rintro n w104 ⟨a, rfl, ha, u104, hlow⟩ _
    refine ⟨fun w' => Upd No w53 w' ∧ a < M.length ∧ ∀ h : a < M.length, write M[a] < write fl[q], ?_, drawC_mk fun w109 u109 _ => ⟨fun w' => Upd No w109 w', ?_⟩⟩
    · rintro w98 ⟨u98, hl98, hlo98⟩ _
      rw [wrap_succ (by omega)]
      refine ⟨⟨a + 1, rfl, hl98, u98, fun j hj hja => ?_⟩, by dsimp only; omega⟩
      by_cases e : j = a
      · subst e; exact hlo98 hj
      · exact hlow j hj (by omega)
    have OO := O53.keep (up u104 u109)
    refine brC_intro (fun h1 => ⟨by omega, by have := of_decide_eq_true h1; omega, ?_⟩) fun h1 => ⟨⟨⟨⟨a, rfl, ha, up u104 u109, hlow, fun h => by have := of_decide_eq_false h1; omega⟩, trivial⟩, trivial⟩, trivial⟩
    have h1 : a < M.length := by have := of_decide_eq_true h1; omega
    refine OO.arg h1 fun ad x hc hx => ⟨fun w' u' => lds_typ (cell_keep hc u'), ⟨by omega, by omega, ?_⟩⟩
    refine (O9.keep (up u53 (up u104 u109))).arg hlt fun ad' x' hc' hx' => ⟨fun w' u' => lds_typ (cell_keep hc' u'), ?_, trivial⟩
    have hMa := hMok _ (List.getElem_mem h1)
    refine callC_of (rwrite_spec _ hMa.1 hMa.2 _ _ _ hx) fun v w118 ⟨e, u118⟩ => ⟨_, e, u118, ?_, trivial⟩
    refine callC_of (rwrite_spec _ hfq.1 hfq.2 _ _ _ (hx'.keep u118)) fun v w121 ⟨e, u121⟩ => ⟨_, e, up u118 u121, ?_, trivial⟩
    refine callC_of (less_spec _ _ _ (write_size hMa)) fun v w124 ⟨e, u124⟩ => ⟨_, e, up (up u118 u121) u124, ?_⟩
    rw [lessB_bs, txt_bs, txt_bs]
    have uu := up (up u104 u109) (up (up u118 u121) u124)
    exact brC_intro (fun hb => ⟨uu, h1, fun _ => of_decide_eq_true hb⟩) fun hb => ⟨a, rfl, ha, uu, hlow, fun _ => of_decide_eq_false hb⟩
  rintro n w63 ⟨a, rfl, ha, u63, hlow, hnot⟩ _
  have hins : outN (fl.take (q + 1)) = if ∃ h : a < M.length, write M[a] = write fl[q] then M else M.take a ++ fl[q] :: M.drop a := by
    rw [outN_succ _ hlt, hM]
    exact insT_at _ M a ha hlow hnot
  refine ⟨fun w' => Upd No w53 w' ∧ ¬ ∃ h : a < M.length, write M[a] = write fl[q], ?_, drawC_mk fun w87 u87 _ => ⟨fun w' => Upd No w87 w', ?_⟩⟩
  rotate_left
  · have OO := O53.keep (up u63 u87)
    refine brC_intro (fun h1 => ⟨by omega, by have := of_decide_eq_true h1; omega, ?_⟩) fun h1 => ⟨⟨⟨up u63 u87, fun ⟨h, _⟩ => by have := of_decide_eq_false h1; omega⟩, trivial⟩, trivial⟩
    have h1 : a < M.length := by have := of_decide_eq_true h1; omega
    refine OO.arg h1 fun ad x hc hx => ⟨fun w' u' => lds_typ (cell_keep hc u'), ⟨by omega, by omega, ?_⟩⟩
    refine (O9.keep (up u53 (up u63 u87))).arg hlt fun ad' x' hc' hx' => ⟨fun w' u' => lds_typ (cell_keep hc' u'), ?_, trivial⟩
    have hMa := hMok _ (List.getElem_mem h1)
    refine callC_of (rwrite_spec _ hMa.1 hMa.2 _ _ _ hx) fun v w118 ⟨e, u118⟩ => ⟨_, e, u118, ?_, trivial⟩
    refine callC_of (rwrite_spec _ hfq.1 hfq.2 _ _ _ (hx'.keep u118)) fun v w121 ⟨e, u121⟩ => ⟨_, e, up u118 u121, ?_⟩
    rw [beq_bytes]
    have uu := up (up u63 u87) (up u118 u121)
    have hbs : bs (write M[a]) = bs (write fl[q]) ↔ write M[a] = write fl[q] := ⟨fun e => by rw [← txt_bs (write M[a]), e, txt_bs], fun e => by rw [e]⟩
    refine brC_intro (fun hb => ⟨up u53 uu, ?_⟩) fun hb => ⟨uu, fun ⟨_, e⟩ => ?_⟩
    · rw [hins, if_pos ⟨h1, hbs.1 (of_decide_eq_true hb)⟩]
      exact O53.keep uu
    · exact (of_decide_eq_false hb) (hbs.2 e)
  rintro w66 ⟨u66, hneq⟩ _
  rw [if_neg hneq] at hins
  have OO := O53.keep u66
  have gg : n0 ≤ w66.heap.size := Nat.le_trans g9 (up u53 u66).size
  refine ⟨by omega, by omega, by omega, ?_⟩
  simp only [Int.toNat_natCast]
  refine (OwnT.nil n0 w66.heap.size F w66).cut (lo := 0) (hi := a) gg (Nat.le_refl _) OO (Nat.zero_le _) (by omega) (by simp; omega) fun p4 m4 c4 w69 o4 v69 _ _ => ?_
  have u69 := upFrom (Upd.refl No w66) v69 (Nat.le_refl _)
  rw [List.nil_append, List.drop_zero, Nat.sub_zero] at o4
  refine ⟨by omega, by omega, ?_⟩
  refine (O9.keep (up u53 (up u66 u69))).arg hlt fun ad' x hcd' hx => newC_mk fun w76 B76 v76 s76 => ?_
  have hsz69 := u69.size
  refine (o4.keep v76).grow1 gg (by omega) B76 (hx.keep v76) (by rw [List.length_take]; omega) fun p5 m5 c5 w78 o5 v78 _ _ => ?_
  have u78 : Upd No w66 w78 := upFrom (up u69 v76) v78 (Nat.le_refl _)
  refine ⟨by omega, by omega, by omega, ?_⟩
  refine o5.cut (lo := a) (hi := M.length) gg u78.size (OO.keep u78) (by omega) (Nat.le_refl _) (by simp only [List.length_append, List.length_take, List.length_cons, List.length_nil]; omega) fun p6 m6 c6 w83 o6 v83 _ _ => ?_
  have u83 : Upd No w66 w83 := upFrom u78 v83 (Nat.le_refl _)
  refine ⟨up (up u53 u66) u83, ?_⟩
  rw [hins]
  obtain ⟨vs, t1, t2⟩ := o6.ex
  refine ⟨vs, ⟨t1.row, fun b hb => by have := t1.own b hb; have := (up u53 u66).size; omega, t1.len, t1.cap⟩, ?_⟩
  have e : M.take a ++ fl[q] :: M.drop a = M.take a ++ [fl[q]] ++ (M.drop a).take (M.length - a) := by
    rw [List.take_of_length_le (l := M.drop a) (by simp), List.append_assoc]
    rfl
  rw [e]
  exact t2
end Go.Proofs.YtpddhbdjcgkjcaaGreatDoor

/- The law's maker of types: its choices, names, parts. -/
namespace Go.Proofs.YtpddhbdjcgkjcaaGreatDoor
open Go.SX Go.Ty

/-- the bytes l lie at p, one behind the other. -/
def BytesAt (w : World) (p : Option Addr) (l : List UInt8) : Prop := ∀ i, (h : i < l.length) → ∃ a : Addr, p = some a ∧ w.cell? (Addr.add a (i * 1)) = some (.int .u8 (l[i].toNat : Int))
theorem bytes_take {w : World} {p : Option Addr} {l : List UInt8} (h : BytesAt w p l) (n : Nat) : BytesAt w p (l.take n) := fun i hi => by
  have hi' : i < l.length := by rw [List.length_take] at hi; omega
  obtain ⟨a, e, hc⟩ := h i hi'
  exact ⟨a, e, by rw [hc]; simp⟩
theorem bytes_keep {w w' : World} {p : Option Addr} {l : List UInt8} (h : BytesAt w p l) (u : Upd No w w') : BytesAt w' p l := fun i hi => by
  obtain ⟨a, e, hc⟩ := h i hi
  exact ⟨a, e, cell_keep hc u⟩
/-- the maker's state: the choices lie where they lay when the law began. -/
structure MkAt (W0 w : World) (mb : Nat) (m : Mk) : Prop where
  hi : W0.heap.size ≤ mb
  base : Upd No W0 w
  ex : ∃ p c, Blk w mb #[.slice p m.left.length c, .int .i64 m.nodes] 48 ∧ m.left.length ≤ c ∧ c ≤ maxLen ∧ BytesAt W0 p m.left
/-- the blocks that made types lie in. -/
abbrev Fm (W0 : World) (mb : Nat) : Nat → Prop := fun b => W0.heap.size ≤ b ∧ b ≠ mb
theorem MkAt.upd {W0 w w' : World} {mb : Nat} {m : Mk} (h : MkAt W0 w mb m) (u : Upd No w w') : MkAt W0 w' mb m := by
  obtain ⟨p, c, hB, h1, h2, h3⟩ := h.ex
  exact ⟨h.hi, up h.base u, p, c, hB.upd u id, h1, h2, h3⟩
theorem MkAt.updS {W0 w w' : World} {mb : Nat} {m : Mk} {S : Nat → Prop} (h : MkAt W0 w mb m) (u : Upd S w w') (hS : ∀ b, S b → W0.heap.size ≤ b ∧ b ≠ mb) : MkAt W0 w' mb m := by
  obtain ⟨p, c, hB, h1, h2, h3⟩ := h.ex
  exact ⟨h.hi, h.base.trans u fun x hx hs => by have := (hS x hs).1; omega, p, c, hB.upd u fun hs => (hS _ hs).2 rfl, h1, h2, h3⟩
theorem MkAt.lt {W0 w : World} {mb : Nat} {m : Mk} (h : MkAt W0 w mb m) : mb < w.heap.size := by
  obtain ⟨p, c, hB, _⟩ := h.ex
  exact hB.lt

theorem mnext_spec {W0 w : World} {mb : Nat} {m : Mk} (h : MkAt W0 w mb m) (n : Nat) (hn : 0 < n) :
    callC Tryz.prog 37 #[.pointer (some ⟨mb, 0, none⟩), .int .i64 n] w fun v w' => v = .int .i64 ((m.next n).1 : Int) ∧ MkAt W0 w' mb (m.next n).2 ∧ Upd (· = mb) w w' ∧ w'.heap.size = w.heap.size := by
  obtain ⟨p, c, hB, h1, h2, h3⟩ := h.ex
  cases hl : m.left with
  | nil =>
    rw [hl] at hB h1 h3
    have e : m.next n = (0, m) := by unfold Mk.next; rw [hl]
    rw [e]
    refine mnext_text _ _ _ _ (ptrC_some ⟨_, _, _, hB.cell rfl, brC_tt (by simp) ⟨rfl, h, Upd.refl _ _, rfl⟩⟩)
  | cons x l =>
    rw [hl] at hB h1 h3
    have e : m.next n = (x.toNat % n, ⟨l, m.nodes⟩) := by unfold Mk.next; rw [hl]
    rw [e]
    simp only [List.length_cons] at hB h1
    refine mnext_text _ _ _ _ (ptrC_some ⟨_, _, _, hB.cell rfl, brC_ff (by simp; omega) (ptrC_some ⟨_, _, _, hB.cell rfl, ⟨by omega, by omega, ?_⟩⟩)⟩)
    obtain ⟨a, rfl, hc⟩ := h3 0 (by simp)
    have hc' : w.cell? a = some (.int .u8 (x.toNat : Int)) := by
      have := cell_keep hc h.base
      rwa [Nat.zero_mul, addr_add_zero] at this
    refine ptrC_some ⟨_, hc', brC_tt (by simp; omega) (ptrC_some ⟨_, _, _, hB.cell rfl, ⟨by omega, by omega, by omega, ptrC_some (stC_mk hB (by simp) fun w15 B15 u15 s15 => ⟨?_, ?_, u15, s15⟩)⟩⟩)⟩
    · have hx := x.toNat_lt
      rw [wrap_small (by omega) (by omega), tmod_nat]
    · refine ⟨h.hi, h.base.trans u15 fun y hy (e : y = mb) => by have := h.hi; omega, subP (some a) c 1 1, c - 1, ?_, by dsimp only; omega, by omega, fun i hi => ?_⟩
      · have e1 : Int.toNat ((l.length + 1 : Nat) : Int) - 1 = l.length := by omega
        rw [e1] at B15
        exact B15
      · obtain ⟨a', e', hc⟩ := h3 (i + 1) (by simpa using hi)
        cases e'
        have hi' : i < l.length := hi
        unfold subP
        rw [if_neg (by omega)]
        refine ⟨_, rfl, ?_⟩
        rw [Addr.add_add]
        have : 1 * 1 + i * 1 = (i + 1) * 1 := by omega
        rw [this, hc]
        rfl

set_option maxRecDepth 20000 in
theorem mname_spec {W0 w : World} {mb : Nat} {m : Mk} (h : MkAt W0 w mb m) :
    callC Tryz.prog 55 #[.pointer (some ⟨mb, 0, none⟩)] w fun v w' => v = .string (m.name).1 ∧ MkAt W0 w' mb (m.name).2 ∧ Upd (· = mb) w w' := by
  refine mname_text _ _ _ (newC_mk fun w1 B1 u1 s1 => st5 B1 (by decide) fun w6 B6 u6 s6 => stC_mk B6 (by decide) fun w7 B7 u7 s7 => stC_mk B7 (by decide) fun w8 B8 u8 s8 => stC_mk B8 (by decide) fun w9 B9 u9 s9 => stC_mk B9 (by decide) fun w10 B10 u10 s10 => ?_)
  have hlt := h.lt
  have u : Upd No w w10 := (((((u1.trans u6 fun x hx e => absurd e (by omega)).trans u7 fun x hx e => absurd e (by omega)).trans u8 fun x hx e => absurd e (by omega)).trans u9 fun x hx e => absurd e (by omega))).trans u10 fun x hx e => absurd e (by omega)
  have hk0 : w.heap.size ≠ mb := by omega
  have cellN : ∀ (w' : World), Upd (· = mb) w10 w' → ∀ i : Nat, i < 9 → w'.cell? (Addr.add (Addr.mk w.heap.size 0 none) (Int.toNat (i : Int) * 1)) = some (.string (nameOf i)) := by
    intro w' u' i hi
    have B := B10.upd u' hk0
    rw [add_mk, Int.toNat_natCast, Nat.mul_one, Nat.zero_add]
    match i, hi with
    | 0, _ => exact B.cell rfl
    | 1, _ => exact B.cell rfl
    | 2, _ => exact B.cell rfl
    | 3, _ => exact B.cell rfl
    | 4, _ => exact B.cell rfl
    | 5, _ => exact B.cell rfl
    | 6, _ => exact B.cell rfl
    | 7, _ => exact B.cell rfl
    | 8, _ => exact B.cell rfl
  refine callC_of (mnext_spec (h.upd u) 20 (by omega)) fun v w12 ⟨e, M12, u12, s12⟩ => ⟨_, e, ?_⟩
  have uf : ∀ w', Upd (· = mb) w10 w' → Upd (· = mb) w w' := fun w' u' => (u.no (S := (· = mb))).trans u' fun _ _ e => e
  have lt9 : ∀ k, 0 < k → k ≤ 9 → ((m.next 20).2.next k).1 < 9 := fun k h0 hk => by
    unfold Mk.next
    split
    · dsimp only; omega
    · dsimp only
      have := Nat.mod_lt (‹UInt8›.toNat) h0
      omega
  refine brC_intro (fun h1 => ?_) fun h1 => ?_
  · have h1 : (m.next 20).1 < 19 := by have := of_decide_eq_true h1; omega
    have eN : m.name = (nameOf ((m.next 20).2.next 7).1, ((m.next 20).2.next 7).2) := by
      unfold Mk.name
      dsimp only
      rw [if_pos h1]
    rw [eN]
    refine callC_of (mnext_spec M12 7 (by omega)) fun v w15 ⟨e, M15, u15, s15⟩ => ⟨_, e, ⟨by omega, by have := lt9 7 (by omega) (by omega); omega, ?_⟩⟩
    have uu := u12.trans u15 fun _ _ e => e
    exact ⟨_, cellN _ uu _ (lt9 7 (by omega) (by omega)), rfl, M15, uf _ uu⟩
  · have h1 : ¬ (m.next 20).1 < 19 := by have := of_decide_eq_false h1; omega
    have eN : m.name = (nameOf ((m.next 20).2.next 9).1, ((m.next 20).2.next 9).2) := by
      unfold Mk.name
      dsimp only
      rw [if_neg h1]
    rw [eN]
    refine callC_of (mnext_spec M12 9 (by omega)) fun v w15 ⟨e, M15, u15, s15⟩ => ⟨_, e, ⟨by omega, by have := lt9 9 (by omega) (by omega); omega, ?_⟩⟩
    have uu := u12.trans u15 fun _ _ e => e
    exact ⟨_, cellN _ uu _ (lt9 9 (by omega) (by omega)), rfl, M15, uf _ uu⟩

/-- what is asked of a call of 'one': all that is made is new. -/
def OneSpec (W0 : World) (mb d : Nat) (one : Mk → T × Mk) (B : Nat) : Prop :=
  ∀ (w : World) (m : Mk), MkAt W0 w mb m → m.nodes + B ≤ 1000000 →
    callC Tryz.prog 28 #[.pointer (some ⟨mb, 0, none⟩), .int .i64 d] w fun v w' => ∃ q : Option Addr, v = .pointer q ∧ TyAt ids (From w.heap.size) w' (.pointer q) (one m).1 ∧ MkAt W0 w' mb (one m).2 ∧ Upd (· = mb) w w' ∧ (one m).2.nodes ≤ m.nodes + B

theorem many_take (one : Mk → T × Mk) : ∀ (k n : Nat) (m : Mk), k ≤ n → (Mk.manyN one n m).1 = (Mk.manyN one k m).1 ++ (Mk.manyN one (n - k) (Mk.manyN one k m).2).1 ∧ (Mk.manyN one n m).2 = (Mk.manyN one (n - k) (Mk.manyN one k m).2).2
  | 0, n, m, _ => ⟨rfl, rfl⟩
  | k + 1, 0, m, h => by omega
  | k + 1, n + 1, m, h => by
    obtain ⟨h1, h2⟩ := many_take one k n (one m).2 (by omega)
    have e : n + 1 - (k + 1) = n - k := by omega
    rw [e]
    constructor
    · show (one m).1 :: (Mk.manyN one n (one m).2).1 = _
      rw [h1]; rfl
    · show (Mk.manyN one n (one m).2).2 = _
      rw [h2]; rfl
theorem many_snoc (one : Mk → T × Mk) (k : Nat) (m : Mk) : (Mk.manyN one (k + 1) m).1 = (Mk.manyN one k m).1 ++ [(one (Mk.manyN one k m).2).1] ∧ (Mk.manyN one (k + 1) m).2 = (one (Mk.manyN one k m).2).2 := by
  obtain ⟨h1, h2⟩ := many_take one k (k + 1) m (by omega)
  rw [h1, h2]
  have : k + 1 - k = 1 := by omega
  rw [this]
  exact ⟨rfl, rfl⟩
theorem many_len (one : Mk → T × Mk) : ∀ k m, (Mk.manyN one k m).1.length = k
  | 0, _ => rfl
  | k + 1, m => by simp [Mk.manyN, many_len one k]

/-- the row of types that a list is made into. -/
structure Made (n0 : Nat) (w : World) (p : Option Addr) (n c : Nat) (l : List T) : Prop where
  ex : ∃ vs, Own n0 w ids.ptr p n c vs ∧ TysAt ids (fun b => n0 ≤ b ∧ ¬ InRow (.slice p n c) b) w vs l
theorem Made.len {n0 : Nat} {w : World} {p : Option Addr} {n c : Nat} {l : List T} (h : Made n0 w p n c l) : n = l.length ∧ n ≤ c ∧ c ≤ maxLen := by
  obtain ⟨vs, h1, h2⟩ := h.ex
  have := h1.len
  have := h2.length
  exact ⟨by omega, h1.cap⟩
theorem Made.row {n0 : Nat} {w : World} {p : Option Addr} {n c : Nat} {l : List T} (h : Made n0 w p n c l) : TyRow ids (From n0) w (.slice p n c) l := by
  obtain ⟨vs, h1, h2⟩ := h.ex
  exact ⟨vs, h1.row, h1.own, h2.mono fun b _ hb => hb.1⟩
theorem made_nil {n0 : Nat} {w : World} : Made n0 w none 0 0 [] := ⟨[], ownNil _ _ _, trivial⟩
/-- one more of them. -/
theorem made_one {W0 w w12 : World} {n0 mb : Nat} {p : Option Addr} {n c : Nat} {l : List T} {q : Option Addr} {t : T} {m' : Mk} (h : Made n0 w p n c l) (h00 : W0.heap.size ≤ n0) (h0 : n0 ≤ w.heap.size) (hmb : mb < n0)
    (hl : l.length ≤ 1000000) (ht : TyAt ids (From w.heap.size) w12 (.pointer q) t) (hm' : MkAt W0 w12 mb m') (u : Upd (· = mb) w w12) {K : Option Addr → Nat → Nat → World → Prop}
    (hk : ∀ p' n' c' w', Made n0 w' p' n' c' (l ++ [t]) → MkAt W0 w' mb m' → Upd (fun b => b = mb ∨ n0 ≤ b) w w' → n0 ≤ w'.heap.size → K p' n' c' w') :
    newC w12 (Obj.cells #[.pointer q] ids.ptr) fun k w15 => runC Tryz.prog (Builtin.append_ #[33, 33] 33 #[.slice p n c, .slice (some ⟨k, 0, none⟩) 1 1]) w15 fun v w' => ∃ p' n' c', v = .slice p' n' c' ∧ K p' n' c' w' := by
  obtain ⟨vs, h1, h2⟩ := h.ex
  have hlt := hm'.lt
  have hs12 := u.size
  refine newC_mk fun w15 B15 u15 s15 => ?_
  have o12 : Own n0 w12 ids.ptr p n c vs := ⟨h1.row.upd u fun b hb (e : b = mb) => by have := h1.own b hb; omega, h1.own, h1.len, h1.cap⟩
  have t12 : TysAt ids (fun b => n0 ≤ b ∧ ¬ InRow (.slice p n c) b) w12 vs l := h2.upd u fun b hb (e : b = mb) => by have := hb.1; omega
  have hnew : TyAt ids (fun b => n0 ≤ b ∧ ¬ InRow (.slice p n c) b) w12 (.pointer q) t := ht.mono fun b _ (hb : w.heap.size ≤ b) => ⟨by omega, fun hr => by have := h1.row.lt hr; omega⟩
  have hlen := h2.length
  refine grow_one elemTyp (o12.keep u15) (by omega) B15 rfl (by omega) (by omega) fun p' n' c' w17 o17 v17 hin uin => hk p' n' c' w17 ⟨vs ++ [.pointer q], o17, ?_⟩ ?_ ?_ (by have := v17.size; omega)
  · have hx : TysAt ids (fun b => n0 ≤ b ∧ ¬ InRow (.slice p n c) b) w12 (vs ++ [.pointer q]) (l ++ [t]) := t12.append ⟨hnew, trivial⟩
    have hy : TysAt ids (fun b => (n0 ≤ b ∧ ¬ InRow (.slice p n c) b) ∧ b < w12.heap.size) w17 (vs ++ [.pointer q]) (l ++ [t]) := ((tys_here hx).keep u15).upd uin fun b hb => hb.1.2
    exact hy.mono fun b _ hb => ⟨hb.1.1, fun hr => (hin b hr).elim hb.1.2 fun h => by omega⟩
  · exact (hm'.upd u15).updS v17 fun b hb => by
      have hb : n0 ≤ b := hb
      exact ⟨by omega, by omega⟩
  · exact ((u.mono fun x _ (e : x = mb) => Or.inl e).trans u15 fun _ _ x => x.elim).trans v17 fun x hx (hb : n0 ≤ x) => .inr hb

theorem msome_spec {W0 w : World} {mb d B : Nat} {m : Mk} {one : Mk → T × Mk} (H : OneSpec W0 mb d one B) (h : MkAt W0 w mb m) (hB : m.nodes + 3 * B ≤ 1000000) (h00 : W0.heap.size ≤ w.heap.size) :
    callC Tryz.prog 54 #[.pointer (some ⟨mb, 0, none⟩), .int .i64 d] w fun v w' => ∃ p n c, v = .slice p n c ∧ Made w.heap.size w' p n c (Mk.some one m).1 ∧ MkAt W0 w' mb (Mk.some one m).2 ∧ Upd (· = mb) w w' ∧ (Mk.some one m).2.nodes ≤ m.nodes + 3 * B ∧ (Mk.some one m).1.length ≤ 3 := by
  have hlt := h.lt
  have hsome : Mk.some one m = Mk.manyN one (m.next 4).1 (m.next 4).2 := rfl
  have h4 : (m.next 4).1 < 4 ∧ (m.next 4).2.nodes = m.nodes := by
    unfold Mk.next
    split
    · exact ⟨by dsimp only; omega, rfl⟩
    · exact ⟨Nat.mod_lt _ (by omega), rfl⟩
  rw [hsome]
  refine msome_text _ _ _ _ (callC_of (mnext_spec h 4 (by omega)) fun v w1 ⟨e, M1, u1, s1⟩ => ⟨_, e, ?_⟩)
  generalize hcnt : (m.next 4).1 = cnt at *
  generalize hm1 : (m.next 4).2 = m1 at *
  refine ⟨fun p n c j w' => ∃ i : Nat, i ≤ cnt ∧ j = ((cnt - i : Nat) : Int) ∧ Made w.heap.size w' p n c (Mk.manyN one i m1).1 ∧ MkAt W0 w' mb (Mk.manyN one i m1).2 ∧ Upd (· = mb) w w' ∧ w.heap.size ≤ w'.heap.size ∧ (Mk.manyN one i m1).2.nodes ≤ m.nodes + i * B, fun _ _ _ j _ => j.toNat,
    ⟨0, Nat.zero_le _, rfl, made_nil, M1, u1, by omega, by simp only [Mk.manyN]; omega⟩, ?_⟩
  rintro p n c j w9 ⟨i, hi, rfl, D9, M9, u9, g9, b9⟩ _
  refine brC_intro (fun hgt => ?_) fun hle => ?_
  · have hgt : i < cnt := by have := of_decide_eq_true hgt; omega
    have hib : i * B + B ≤ 3 * B := by
      have : i * B + B = (i + 1) * B := by rw [Nat.add_mul, Nat.one_mul]
      rw [this]; exact Nat.mul_le_mul_right _ (by omega)
    refine callC_of (H w9 _ M9 (by omega)) fun v w12 ⟨q, e, ht, M12, u12, b12⟩ => ⟨q, e, ?_⟩
    refine made_one (W0 := W0) (mb := mb) D9 h00 g9 hlt (by rw [many_len]; omega) ht M12 u12 fun p' n' c' w17 D17 M17 u17 g17 => ?_
    obtain ⟨e1, e2⟩ := many_snoc one i m1
    rw [wrap_small (by omega) (by omega)]
    refine ⟨⟨i + 1, hgt, by omega, by rw [e1]; exact D17, by rw [e2]; exact M17, u9.trans u17 fun x hx hs => hs.elim id fun hs => by omega, g17, ?_⟩, by dsimp only; omega⟩
    rw [e2, Nat.add_mul, Nat.one_mul]
    omega
  · have hi : i = cnt := by have := of_decide_eq_false hle; omega
    subst hi
    refine ⟨p, n, c, rfl, D9, M9, u9, ?_, by rw [many_len]; omega⟩
    have : i * B ≤ 3 * B := Nat.mul_le_mul_right _ (by omega)
    omega
end Go.Proofs.YtpddhbdjcgkjcaaGreatDoor

/- The law's maker of types: one of a depth. -/
namespace Go.Proofs.YtpddhbdjcgkjcaaGreatDoor
open Go.SX Go.Ty

theorem mmade_spec {t : T} {F : Nat → Prop} {w : World} {x0 : Option Addr} (h : TyAt ids F w (.pointer x0) t) (hn : t.isNil = false) (h1 : t.names.length ≤ 1000000) (h2 : t.args.length ≤ 1000000) :
    callC Tryz.prog 56 #[.pointer x0] w fun v w' => ∃ q : Option Addr, v = .tuple #[.pointer q, .int .i64 (madeF t).2] ∧ TyAt ids (With F w.heap.size) w' (.pointer q) (madeF t).1 ∧ Upd No w w' := by
  cases t with
  | nil => cases hn
  | mk k nm ns ta r =>
  obtain ⟨b, np, nc, p, c, rp, rfl, C⟩ := ty_opens h
  refine mmade_text _ _ _ (ptrC_some ⟨_, C.c0, ?_⟩)
  have h1 : ns.length ≤ 1000000 := h1
  have h2 : ta.length ≤ 1000000 := h2
  refine brC_intro (fun h7 => drawC_mk fun w2 u2 s2 => ⟨fun w' => Upd No w2 w', ?_⟩) fun h7 => ?_
  · obtain rfl : k = 7 := by simpa using h7
    have C := C.keep u2
    have e : madeF (.mk 7 nm ns ta r) = recF ns ta := rfl
    rw [e, ← s2]
    refine ptrC_some ⟨_, _, _, C.c2, fun w' u' => lds_strs (cell_keep C.c2 u'), ptrC_some ⟨_, _, _, C.c3, fun w' u' => lds_typs (cell_keep C.c3 u'), ?_, trivial⟩⟩
    exact callC_of (rRec_spec (strs_row C.names) rfl h1 C.args) fun v w15 ⟨q, e, hq, u15⟩ => ⟨_, _, e, q, rfl, hq, up u2 u15⟩
  have h7 : k ≠ 7 := by simpa using h7
  refine brC_intro (fun h8 => drawC_mk fun w2 u2 s2 => ⟨fun w' => Upd No w2 w', ?_⟩) fun h8 => ?_
  · obtain rfl : k = 8 := by simpa using h8
    have C := C.keep u2
    have e : madeF (.mk 8 nm ns ta r) = funF ta r := rfl
    rw [e, ← s2]
    refine ptrC_some ⟨_, _, _, C.c3, fun w' u' => lds_typs (cell_keep C.c3 u'), ptrC_some ⟨_, C.c4, fun w' u' => lds_typ (cell_keep C.c4 u'), ?_, trivial⟩⟩
    exact callC_of (rFun_spec C.args h2 C.ret) fun v w15 ⟨q, e, hq, u15⟩ => ⟨_, _, e, q, rfl, hq, up u2 u15⟩
  have h8 : k ≠ 8 := by simpa using h8
  refine brC_intro (fun h9 => ?_) fun h9 => ?_
  · obtain rfl : k = 9 := by simpa using h9
    have e : madeF (.mk 9 nm ns ta r) = unionF ta := rfl
    rw [e]
    refine ptrC_some ⟨_, _, _, C.c3, ?_⟩
    exact callC_of (rUnion_spec C.args h2) fun v w15 ⟨q, e, hq, u15⟩ => ⟨_, _, e, q, rfl, hq, u15⟩
  · have h9 : k ≠ 9 := by simpa using h9
    have e : madeF (.mk k nm ns ta r) = (.mk k nm ns ta r, 0) := by
      unfold madeF
      rw [if_neg (show ¬ (T.mk k nm ns ta r).kind = 7 from h7), if_neg (show ¬ (T.mk k nm ns ta r).kind = 8 from h8), if_neg (show ¬ (T.mk k nm ns ta r).kind = 9 from h9)]
    rw [e]
    exact ⟨_, rfl, h.mono fun b _ hb => .inl hb, Upd.refl _ _⟩

/-- a type that is being made, at k: its parts lie elsewhere. -/
structure RawT (n0 k : Nat) (w : World) (t : T) : Prop where
  lo : n0 ≤ k
  ex : ∃ nv av rv vs, Blk w k #[.int .i64 t.kind, .string t.name, nv, av, rv] 44 ∧ RowAt w ids.str 1 nv (t.names.map Value.string) ∧ (∀ b, InRow nv b → n0 ≤ b ∧ b ≠ k) ∧ RowAt w ids.ptr 1 av vs ∧ (∀ b, InRow av b → n0 ≤ b ∧ b ≠ k) ∧
    TysAt ids (fun b => n0 ≤ b ∧ b ≠ k) w vs t.args ∧ TyAt ids (fun b => n0 ≤ b ∧ b ≠ k) w rv t.ret
theorem RawT.at_ {n0 k : Nat} {w : World} {kd : Int} {nm : ByteArray} {ns : List ByteArray} {ta : List T} {r : T} (h : RawT n0 k w (.mk kd nm ns ta r)) : TyAt ids (From n0) w (.pointer (some ⟨k, 0, none⟩)) (.mk kd nm ns ta r) := by
  obtain ⟨nv, av, rv, vs, hB, h1, h2, h3, h4, h5, h6⟩ := h.ex
  exact mkTy hB h.lo h1 (fun b hb => (h2 b hb).1) h3 (fun b hb => (h4 b hb).1) (h5.mono fun b _ hb => hb.1) (h6.mono fun b _ hb => hb.1)
theorem RawT.upd {n0 k : Nat} {w w' : World} {t : T} {S : Nat → Prop} (h : RawT n0 k w t) (u : Upd S w w') (hS : ∀ b, n0 ≤ b → ¬ S b) : RawT n0 k w' t := by
  obtain ⟨nv, av, rv, vs, hB, h1, h2, h3, h4, h5, h6⟩ := h.ex
  exact ⟨h.lo, nv, av, rv, vs, hB.upd u (hS k h.lo), h1.upd u fun b hb => hS b (h2 b hb).1, h2, h3.upd u fun b hb => hS b (h4 b hb).1, h4, h5.upd u fun b hb => hS b hb.1, h6.upd u fun b hb => hS b hb.1⟩
theorem RawT.set0 {n0 k : Nat} {w : World} {kd kd' : Int} {nm : ByteArray} {ns : List ByteArray} {ta : List T} {r : T} (h : RawT n0 k w (.mk kd nm ns ta r)) {K : World → Prop}
    (hk : ∀ w', RawT n0 k w' (.mk kd' nm ns ta r) → Upd (· = k) w w' → w'.heap.size = w.heap.size → K w') : stC w ⟨k, 0, none⟩ (.int .i64 kd') K := by
  obtain ⟨nv, av, rv, vs, hB, h1, h2, h3, h4, h5, h6⟩ := h.ex
  refine stC_mk hB (by simp) fun w' B' u' s' => hk w' ⟨h.lo, nv, av, rv, vs, B', ?_, h2, ?_, h4, ?_, ?_⟩ u' s'
  · exact h1.upd u' fun b hb e => (h2 b hb).2 e
  · exact h3.upd u' fun b hb e => (h4 b hb).2 e
  · exact h5.upd u' fun b hb e => hb.2 e
  · exact h6.upd u' fun b hb e => hb.2 e

/-! ### the law's maker, piece by piece -/
def pickB (d : Nat) (m : Mk) : Nat × Mk :=
  if d < 1 ∨ m.nodes + 1 > 150 then ((⟨m.left, m.nodes + 1⟩ : Mk).next 9).2.next 6 else (⟨m.left, m.nodes + 1⟩ : Mk).next 9
theorem next_nodes (m : Mk) (n : Nat) : (m.next n).2.nodes = m.nodes := by unfold Mk.next; split <;> rfl
theorem next_lt (m : Mk) {n : Nat} (h : 0 < n) : (m.next n).1 < n := by
  unfold Mk.next
  split
  · exact h
  · exact Nat.mod_lt _ h
theorem pick_nodes (d : Nat) (m : Mk) : (pickB d m).2.nodes = m.nodes + 1 := by
  unfold pickB
  split <;> simp only [next_nodes]
theorem pick_lt (d : Nat) (m : Mk) : (pickB d m).1 < 9 ∧ (d < 1 → (pickB d m).1 < 6) := by
  unfold pickB
  split
  · have := next_lt ((⟨m.left, m.nodes + 1⟩ : Mk).next 9).2 (n := 6) (by omega)
    exact ⟨by omega, fun _ => this⟩
  · rename_i h
    exact ⟨next_lt _ (by omega), fun hd => (h (.inl hd)).elim⟩
def rawB (d : Nat) (m : Mk) : Bool := ((pickB d m).2.next 30).1 == 29
/-- the law's maker behind its first choices. -/
def oneBody (d : Nat) (b : Nat × Mk) : T × Mk :=
  if (1 : Int) + b.1 = 6 then
    (if (b.2.next 30).1 == 29 then
      Mk.fin true (.mk 6 (tyNameOf (((b.2.next 30).2.next 3).2.next 5).1) [] [] .nil) (((b.2.next 30).2.next 3).2.next 5).2
    else Mk.fin false (.mk 6 (tyNameOf ((b.2.next 30).2.next 3).1) [] [] .nil) ((b.2.next 30).2.next 3).2)
  else match d with
  | 0 => Mk.fin ((b.2.next 30).1 == 29) (.mk (1 + (b.1 : Int)) .empty [] [] .nil) (b.2.next 30).2
  | d + 1 =>
    if (1 : Int) + b.1 = 7 then
      let l := Mk.some (Mk.one d) (b.2.next 30).2
      Mk.fin ((b.2.next 30).1 == 29) (.mk 7 .empty (Mk.namesN l.1.length l.2).1 l.1 .nil) (Mk.namesN l.1.length l.2).2
    else if (1 : Int) + b.1 = 8 then
      let l := Mk.some (Mk.one d) (b.2.next 30).2
      Mk.fin ((b.2.next 30).1 == 29) (.mk 8 .empty [] l.1 (Mk.one d l.2).1) (Mk.one d l.2).2
    else if (1 : Int) + b.1 = 9 then
      let l := Mk.some (Mk.one d) (b.2.next 30).2
      Mk.fin ((b.2.next 30).1 == 29) (.mk 9 .empty [] l.1 .nil) l.2
    else Mk.fin ((b.2.next 30).1 == 29) (.mk (1 + (b.1 : Int)) .empty [] [] .nil) (b.2.next 30).2
theorem one_body (d : Nat) (m : Mk) : Mk.one d m = oneBody d (pickB d m) := by
  have key : ∀ b : Nat × Mk, (let k : Int := 1 + b.1
    let r := b.2.next 30
    let raw := r.1 == 29
    if k = 6 then
      let x := r.2.next 3
      let y := if raw then x.2.next 5 else x
      Mk.fin raw (.mk 6 (tyNameOf y.1) [] [] .nil) y.2
    else Mk.fin raw (.mk k .empty [] [] .nil) r.2) = (if (1 : Int) + b.1 = 6 then
    (if (b.2.next 30).1 == 29 then
      Mk.fin true (.mk 6 (tyNameOf (((b.2.next 30).2.next 3).2.next 5).1) [] [] .nil) (((b.2.next 30).2.next 3).2.next 5).2
    else Mk.fin false (.mk 6 (tyNameOf ((b.2.next 30).2.next 3).1) [] [] .nil) ((b.2.next 30).2.next 3).2)
      else Mk.fin ((b.2.next 30).1 == 29) (.mk (1 + (b.1 : Int)) .empty [] [] .nil) (b.2.next 30).2) := fun b => by
    dsimp only
    cases hr : (b.2.next 30).1 == 29 <;> rfl
  cases d with
  | zero =>
    unfold oneBody
    rw [← key]
    rfl
  | succ d =>
    have kk := key (pickB (d + 1) m)
    unfold oneBody
    by_cases e : (1 : Int) + ((pickB (d + 1) m).1 : Int) = 6
    · rw [if_pos e]
      refine Eq.trans ?_ (kk.trans (if_pos e))
      rw [Mk.one]
      exact (if_pos e).trans (if_pos e).symm
    · rw [if_neg e, Mk.one]
      exact if_neg e
theorem one_name (d : Nat) (m : Mk) (h : (pickB d m).1 = 5) : Mk.one d m = (if rawB d m then
    Mk.fin true (.mk 6 (tyNameOf ((((pickB d m).2.next 30).2.next 3).2.next 5).1) [] [] .nil) ((((pickB d m).2.next 30).2.next 3).2.next 5).2 else
    Mk.fin false (.mk 6 (tyNameOf (((pickB d m).2.next 30).2.next 3).1) [] [] .nil) (((pickB d m).2.next 30).2.next 3).2) := by
  rw [one_body]
  unfold oneBody
  exact if_pos (by omega)
theorem one_low (d : Nat) (m : Mk) (h : (pickB d m).1 ≠ 5) (h6 : (pickB d m).1 ≠ 6) (h7 : (pickB d m).1 ≠ 7) (h8 : (pickB d m).1 ≠ 8) :
    Mk.one d m = Mk.fin (rawB d m) (.mk (1 + ((pickB d m).1 : Int)) .empty [] [] .nil) ((pickB d m).2.next 30).2 := by
  rw [one_body]
  unfold oneBody
  rw [if_neg (by omega)]
  cases d with
  | zero => rfl
  | succ d =>
    dsimp only
    rw [if_neg (by omega), if_neg (by omega), if_neg (by omega)]
    rfl
theorem one_rec (d : Nat) (m : Mk) (h : (pickB (d + 1) m).1 = 6) (l : List T × Mk) (hl : l = Mk.some (Mk.one d) ((pickB (d + 1) m).2.next 30).2) :
    Mk.one (d + 1) m = Mk.fin (rawB (d + 1) m) (.mk 7 .empty (Mk.namesN l.1.length l.2).1 l.1 .nil) (Mk.namesN l.1.length l.2).2 := by
  subst hl
  rw [one_body]
  unfold oneBody
  rw [if_neg (by omega)]
  exact if_pos (by omega)
theorem one_fun (d : Nat) (m : Mk) (h : (pickB (d + 1) m).1 = 7) (l : List T × Mk) (hl : l = Mk.some (Mk.one d) ((pickB (d + 1) m).2.next 30).2) :
    Mk.one (d + 1) m = Mk.fin (rawB (d + 1) m) (.mk 8 .empty [] l.1 (Mk.one d l.2).1) (Mk.one d l.2).2 := by
  subst hl
  rw [one_body]
  unfold oneBody
  rw [if_neg (by omega)]
  exact (if_neg (by omega)).trans (if_pos (by omega))
theorem one_uni (d : Nat) (m : Mk) (h : (pickB (d + 1) m).1 = 8) (l : List T × Mk) (hl : l = Mk.some (Mk.one d) ((pickB (d + 1) m).2.next 30).2) :
    Mk.one (d + 1) m = Mk.fin (rawB (d + 1) m) (.mk 9 .empty [] l.1 .nil) l.2 := by
  subst hl
  rw [one_body]
  unfold oneBody
  rw [if_neg (by omega)]
  exact (if_neg (by omega)).trans ((if_neg (by omega)).trans (if_pos (by omega)))
theorem fin_true (k : Int) (nm : ByteArray) (ns : List ByteArray) (ta : List T) (r : T) (m : Mk) : Mk.fin true (.mk k nm ns ta r) m =
    (let b : Int × Mk := if (m.next 6).1 = 5 then ((((m.next 6).2.next 12).1 : Int) - 1, ((m.next 6).2.next 12).2) else (k, (m.next 6).2)
     (if (b.2.next 9).1 = 8 then .nil else .mk b.1 nm ns ta r, (b.2.next 9).2)) := rfl
theorem fin_false (t : T) (m : Mk) : Mk.fin false t m = (if (madeF t).2 ≠ 0 then .mk 2 .empty [] [] .nil else (madeF t).1, m) := rfl
theorem fin_nodes (b : Bool) (k : Int) (nm : ByteArray) (ns : List ByteArray) (ta : List T) (r : T) (m : Mk) : (Mk.fin b (.mk k nm ns ta r) m).2.nodes = m.nodes := by
  cases b with
  | false => rfl
  | true =>
    rw [fin_true]
    dsimp only
    rw [next_nodes]
    split <;> simp only [next_nodes]
theorem names_nodes : ∀ k m, (Mk.namesN k m).2.nodes = m.nodes ∧ (Mk.namesN k m).1.length = k
  | 0, m => ⟨rfl, rfl⟩
  | k + 1, m => by
    obtain ⟨h1, h2⟩ := names_nodes k m.name.2
    refine ⟨h1.trans ?_, by simp [Mk.namesN, h2]⟩
    unfold Mk.name
    dsimp only
    rw [next_nodes, next_nodes]
theorem names_snoc : ∀ k m, Mk.namesN (k + 1) m = ((Mk.namesN k m).1 ++ [((Mk.namesN k m).2.name).1], ((Mk.namesN k m).2.name).2)
  | 0, m => rfl
  | k + 1, m => by
    show ((m.name).1 :: (Mk.namesN (k + 1) m.name.2).1, (Mk.namesN (k + 1) m.name.2).2) = _
    rw [names_snoc k m.name.2]
    rfl
end Go.Proofs.YtpddhbdjcgkjcaaGreatDoor

/- The law's maker of types: the contract of 'one'; typ, list. -/
namespace Go.Proofs.YtpddhbdjcgkjcaaGreatDoor
open Go.SX Go.Ty

def nb : Nat → Nat | 0 => 1 | d + 1 => 1 + 4 * nb d
theorem le_nb : ∀ d, d ≤ nb d
  | 0 => by simp [nb]
  | d + 1 => by have := le_nb d; simp only [nb]; omega
theorem trS {S : Nat → Prop} {a b c : World} (h : Upd S a b) (k : Upd S b c) : Upd S a c := h.trans k fun _ _ x => x
theorem trN {S : Nat → Prop} {a b c : World} (h : Upd S a b) (k : Upd No b c) : Upd S a c := h.trans k fun _ _ x => x.elim
/-- a block that is new since a is written. -/
theorem trB {S : Nat → Prop} {a b c : World} {k : Nat} (h : Upd S a b) (u : Upd (· = k) b c) (hk : a.heap.size ≤ k) : Upd S a c := h.trans u fun x hx (e : x = k) => by omega

/-- the state in which 'one' ends. -/
def OneZ (W0 : World) (mb d : Nat) (m : Mk) (w : World) (w17 : World) : Prop :=
  ∃ kd nm ns ta r m', Mk.one d m = Mk.fin (rawB d m) (.mk kd nm ns ta r) m' ∧ RawT w.heap.size w.heap.size w17 (.mk kd nm ns ta r) ∧ MkAt W0 w17 mb m' ∧ Upd (· = mb) w w17 ∧ ns.length ≤ 3 ∧ ta.length ≤ 3 ∧ m'.nodes ≤ m.nodes + nb d

set_option maxRecDepth 20000 in
set_option maxHeartbeats 4000000 in
theorem mone_step {W0 : World} {mb d : Nat} (ih : ∀ d', d = d' + 1 → OneSpec W0 mb d' (Mk.one d') (nb d')) : OneSpec W0 mb d (Mk.one d) (nb d) := by
  intro w m M hbd
  obtain ⟨p, c, hB, hp1, hp2, hp3⟩ := M.ex
  have hmlt := M.lt
  have hmhi := M.hi
  have hnb : 1 ≤ nb d := by cases d <;> simp only [nb] <;> omega
  refine mone_text _ _ _ _ (ptrC_some ⟨_, by rw [add_mk]; exact hB.cell rfl, ptrC_some ?_⟩)
  rw [add_mk]
  refine stC_mk hB (by simp) fun w3 B3 u3 s3 => ?_
  have M3 : MkAt W0 w3 mb ⟨m.left, m.nodes + 1⟩ := by
    refine ⟨M.hi, M.base.trans u3 fun x hx (e : x = mb) => by omega, p, c, ?_, hp1, hp2, hp3⟩
    have e1 : IntKind.wrap .i64 ((m.nodes : Int) + 1) = ((m.nodes + 1 : Nat) : Int) := wrap_succ (by omega)
    rw [e1] at B3
    exact B3
  refine callC_of (mnext_spec M3 9 (by omega)) fun v w5 ⟨e, M5, u5, s5⟩ => ⟨_, e, ?_⟩
  refine ⟨fun k w' => k = 1 + ((pickB d m).1 : Int) ∧ MkAt W0 w' mb (pickB d m).2 ∧ Upd (· = mb) w w' ∧ w'.heap.size = w.heap.size, ?_, fun b w' => w' = w5 ∧ b = decide (d < 1 ∨ m.nodes + 1 > 150), ?_, ?_⟩
  rotate_left
  · rintro b w' ⟨rfl, rfl⟩ _
    refine brC_intro (fun h => ?_) fun h => ?_
    · have h := of_decide_eq_true h
      have eP : pickB d m = ((⟨m.left, m.nodes + 1⟩ : Mk).next 9).2.next 6 := by unfold pickB; rw [if_pos h]
      refine callC_of (mnext_spec M5 6 (by omega)) fun v w110 ⟨e, M110, u110, s110⟩ => ⟨_, e, ?_⟩
      rw [eP]
      have hl := next_lt ((⟨m.left, m.nodes + 1⟩ : Mk).next 9).2 (n := 6) (by omega)
      exact ⟨wrap_small (by omega) (by omega), M110, trS (trS u3 u5) u110, by omega⟩
    · have h := of_decide_eq_false h
      have eP : pickB d m = (⟨m.left, m.nodes + 1⟩ : Mk).next 9 := by unfold pickB; rw [if_neg h]
      rw [eP]
      have hl := next_lt (⟨m.left, m.nodes + 1⟩ : Mk) (n := 9) (by omega)
      exact ⟨wrap_small (by omega) (by omega), M5, trS u3 u5, by omega⟩
  · refine brC_intro (fun h => ⟨rfl, ?_⟩) fun h => ?_
    · have h := of_decide_eq_true h
      exact (decide_eq_true (.inl (by omega))).symm
    · have h := of_decide_eq_false h
      obtain ⟨p5, c5, hB5, _⟩ := M5.ex
      refine ptrC_some ⟨_, by rw [add_mk]; exact hB5.cell rfl, rfl, ?_⟩
      rw [next_nodes]
      exact decide_eq_decide.2 (by dsimp only; omega)
  rintro k w9 ⟨rfl, M9, u9, s9⟩ _
  refine callC_of (mnext_spec M9 30 (by omega)) fun v w12 ⟨e, M12, u12, s12⟩ => ⟨_, e, newC_mk fun w15 B15 u15 s15 => ?_⟩
  have hk14 : w12.heap.size = w.heap.size := by omega
  rw [hk14] at B15 s15
  rw [hk14]
  generalize hn0 : w.heap.size = n0 at *
  have U15 : Upd (· = mb) w w15 := trN (trS u9 u12) u15
  have M15 := M12.upd u15
  have hraw : rawB d m = decide (((pickB d m).2.next 30).1 = 29) := by
    unfold rawB
    rw [Bool.eq_iff_iff]; simp
  have hN12 : ((pickB d m).2.next 30).2.nodes = m.nodes + 1 := by rw [next_nodes, pick_nodes]
  obtain ⟨hp9, hp6⟩ := pick_lt d m
  refine ⟨OneZ W0 mb d m w, ?_, ?_⟩
  · -- the end
    rintro w17 ⟨kd, nm, ns, ta, r, m', hone, R17, M17, u17, hns, hta, hnod⟩ _
    rw [hn0] at R17
    have hlt17 := M17.lt
    have hsz17 := u17.size
    refine brC_intro (fun h29 => ?_) fun h29 => ?_
    · have hr : rawB d m = true := by rw [hraw]; simp at h29 ⊢; omega
      rw [hr, fin_true] at hone
      generalize hbb : (if (m'.next 6).1 = 5 then ((((m'.next 6).2.next 12).1 : Int) - 1, ((m'.next 6).2.next 12).2) else (kd, (m'.next 6).2)) = bb at hone
      have hbn : bb.2.nodes = m'.nodes := by rw [← hbb]; split <;> simp only [next_nodes]
      refine ⟨fun w' => RawT n0 n0 w' (.mk bb.1 nm ns ta r) ∧ MkAt W0 w' mb bb.2 ∧ Upd (· = mb) w w', ?_, ?_⟩
      · rintro w20 ⟨R20, M20, u20⟩ _
        refine callC_of (mnext_spec M20 9 (by omega)) fun v w23 ⟨e, M23, u23, s23⟩ => ⟨_, e, ?_⟩
        have hn9 : (bb.2.next 9).2.nodes = m'.nodes := by rw [next_nodes, hbn]
        refine brC_intro (fun h8 => ?_) fun h8 => ?_
        · have h8 : (bb.2.next 9).1 = 8 := by simp at h8; omega
          dsimp only at hone
          rw [if_pos h8] at hone
          rw [hone]
          exact ⟨none, rfl, rfl, M23, trS u20 u23, by dsimp only; omega⟩
        · have h8 : ¬ (bb.2.next 9).1 = 8 := by simp at h8; omega
          dsimp only at hone
          rw [if_neg h8] at hone
          rw [hone]
          exact ⟨_, rfl, (R20.upd u23 fun b hb (e : b = mb) => by omega).at_, M23, trS u20 u23, by dsimp only; omega⟩
      · refine callC_of (mnext_spec M17 6 (by omega)) fun v w26 ⟨e, M26, u26, s26⟩ => ⟨_, e, ?_⟩
        have R26 := R17.upd u26 fun b hb (e : b = mb) => by omega
        refine brC_intro (fun h5 => ?_) fun h5 => ?_
        · have h5 : (m'.next 6).1 = 5 := by simp at h5; omega
          rw [if_pos h5] at hbb
          refine callC_of (mnext_spec M26 12 (by omega)) fun v w29 ⟨e, M29, u29, s29⟩ => ⟨_, e, ?_⟩
          have R29 := R26.upd u29 fun b hb (e : b = mb) => by omega
          have hl := next_lt (m'.next 6).2 (n := 12) (by omega)
          rw [wrap_small (by omega) (by omega)]
          refine R29.set0 fun w31 R31 u31 s31 => ⟨?_, ?_, ?_⟩
          · rw [← hbb]; exact R31
          · rw [← hbb]; exact M29.updS u31 fun b (e : b = n0) => by have := M.base.size; omega
          · exact trB (trS (trS u17 u26) u29) u31 (by omega)
        · have h5 : ¬ (m'.next 6).1 = 5 := by simp at h5; omega
          rw [if_neg h5] at hbb
          refine ⟨?_, ?_, trS u17 u26⟩
          · rw [← hbb]; exact R26
          · rw [← hbb]; exact M26
    · have hr : rawB d m = false := by rw [hraw]; simp at h29 ⊢; omega
      rw [hr, fin_false] at hone
      refine callC_of (mmade_spec R17.at_ rfl (show ns.length ≤ 1000000 by omega) (show ta.length ≤ 1000000 by omega)) fun v w33 ⟨q, e, hq, u33⟩ => ⟨q, _, e, ?_⟩
      refine brC_intro (fun he => newC_mk fun w37 B37 u37 s37 => ?_) fun he => ?_
      · have he : (madeF (.mk kd nm ns ta r)).2 ≠ 0 := by simpa using he
        rw [if_pos he] at hone
        rw [hone]
        have hs33 := u33.size
        refine ⟨_, rfl, mkTy (nv := .slice none 0 0) (av := .slice none 0 0) (rv := .pointer none) (ns := []) (ta := []) (vs := []) (r := .nil) B37 (show n0 ≤ _ by omega) (RowAt.nil _ _ _) (fun b hb => (no_in b hb).elim) (RowAt.nil _ _ _) (fun b hb => (no_in b hb).elim) trivial rfl,
          (M17.upd u33).upd u37, trN (trN u17 u33) u37, hnod⟩
      · have he : ¬ (madeF (.mk kd nm ns ta r)).2 ≠ 0 := by simpa using he
        rw [if_neg he] at hone
        rw [hone]
        exact ⟨q, rfl, hq.mono fun b _ hb => hb.elim id fun h => (show n0 ≤ b by omega), M17.upd u33, trN u17 u33, hnod⟩
  -- the fields, by the kind
  refine brC_intro (fun h6 => ?_) fun h6 => ?_
  · have h6 : (pickB d m).1 = 5 := by simp at h6; omega
    have hone := one_name d m h6
    refine newC_mk fun w39 B39 u39 s39 => st5 B39 (by decide) fun w44 B44 u44 s44 => ?_
    have U44 : Upd No w15 w44 := u39.trans u44 fun x hx e => absurd e (by omega)
    have hlt44 := (M15.upd U44).lt
    have cellN : ∀ (w' : World), Blk w' w15.heap.size #[.string (ByteArray.mk #[109, 46, 84]), .string (ByteArray.mk #[109, 46, 85]), .string (ByteArray.mk #[108, 105, 98, 47, 120, 46, 84]), .string (ByteArray.mk #[]), .string (ByteArray.mk #[97, 32, 98])] 71 →
        ∀ i : Nat, i < 5 → w'.cell? (Addr.add (Addr.mk w15.heap.size 0 none) (Int.toNat (i : Int) * 1)) = some (.string (tyNameOf i)) := by
      intro w' B i hi
      rw [add_mk, Int.toNat_natCast, Nat.mul_one, Nat.zero_add]
      match i, hi with
      | 0, _ => exact B.cell rfl
      | 1, _ => exact B.cell rfl
      | 2, _ => exact B.cell rfl
      | 3, _ => exact B.cell rfl
      | 4, _ => exact B.cell rfl
    have B14 := B15.upd U44 id
    have e6 : (1 : Int) + ((pickB d m).1 : Int) = 6 := by omega
    rw [e6] at B14
    refine callC_of (mnext_spec (M15.upd U44) 3 (by omega)) fun v w46 ⟨e, M46, u46, s46⟩ => ⟨_, e, ?_⟩
    have hl3 := next_lt ((pickB d m).2.next 30).2 (n := 3) (by omega)
    have B46 := B44.upd u46 (show w15.heap.size ≠ mb by omega)
    refine ⟨by omega, by omega, _, cellN w46 B46 _ (by omega), ?_⟩
    refine stC_mk (B14.upd u46 (show n0 ≠ mb by omega)) (by simp) fun w49 B49 u49 s49 => ?_
    have U49 : Upd (· = mb) w w49 := trB (trS (trN U15 U44) u46) u49 (by omega)
    have M49 := M46.updS u49 fun b (e : b = n0) => by have := M.base.size; omega
    have raws : ∀ (w' : World) (nm : ByteArray), Blk w' n0 #[.int .i64 6, .string nm, .slice none 0 0, .slice none 0 0, .pointer none] 44 → RawT n0 n0 w' (.mk 6 nm [] [] .nil) := fun w' nm B =>
      ⟨Nat.le_refl _, .slice none 0 0, .slice none 0 0, .pointer none, [], B, RowAt.nil _ _ _, (fun b hb => (no_in b hb).elim), RowAt.nil _ _ _, (fun b hb => (no_in b hb).elim), trivial, rfl⟩
    refine brC_intro (fun h29 => ?_) fun h29 => ?_
    · have hr : rawB d m = true := by rw [hraw]; simp at h29 ⊢; omega
      refine callC_of (mnext_spec M49 5 (by omega)) fun v w51 ⟨e, M51, u51, s51⟩ => ⟨_, e, ?_⟩
      have hl5 := next_lt (((pickB d m).2.next 30).2.next 3).2 (n := 5) (by omega)
      have B51 := (B46.upd u49 (show w15.heap.size ≠ n0 by omega)).upd u51 (show w15.heap.size ≠ mb by omega)
      refine ⟨by omega, by omega, _, cellN w51 B51 _ (by omega), ?_⟩
      refine stC_mk (B49.upd u51 (show n0 ≠ mb by omega)) (by simp) fun w54 B54 u54 s54 => ?_
      rw [hr, if_pos rfl] at hone
      refine ⟨_, _, _, _, _, _, by rw [hr]; exact hone, by rw [hn0]; exact raws w54 _ B54, M51.updS u54 fun b (e : b = n0) => by have := M.base.size; omega, trB (trS U49 u51) u54 (by omega), by simp, by simp, ?_⟩
      simp only [next_nodes, pick_nodes]; omega
    · have hr : rawB d m = false := by rw [hraw]; simp at h29 ⊢; omega
      rw [hr, if_neg (by simp)] at hone
      refine ⟨_, _, _, _, _, _, by rw [hr]; exact hone, by rw [hn0]; exact raws w49 _ B49, M49, U49, by simp, by simp, ?_⟩
      simp only [next_nodes, pick_nodes]; omega
  have h6 : (pickB d m).1 ≠ 5 := by simp at h6; omega
  refine brC_intro (fun h7 => ?_) fun h7 => ?_
  · have h7 : (pickB d m).1 = 6 := by simp at h7; omega
    have hd1 : 1 ≤ d := Nat.le_of_not_lt fun hd => absurd (hp6 hd) (by omega)
    obtain ⟨d', rfl⟩ : ∃ d', d = d' + 1 := ⟨d - 1, by omega⟩
    have H := ih d' rfl
    have hone := one_rec d' m h7 _ rfl
    have ed : IntKind.wrap .i64 (((d' + 1 : Nat) : Int) - 1) = (d' : Int) := by
      have : nb (d' + 1) = 1 + 4 * nb d' := rfl
      have hd := le_nb d'
      exact wrap_pred (by omega)
    rw [ed]
    have hnbd : nb (d' + 1) = 1 + 4 * nb d' := rfl
    refine callC_of (msome_spec H M15 (by omega) (by have := M.base.size; omega)) fun v w56 ⟨p57, k58, k59, e, D56, M56, u56, b56, l56⟩ => ⟨_, _, _, e, ?_⟩
    generalize hL : Mk.some (Mk.one d') ((pickB (d' + 1) m).2.next 30).2 = L at *
    have hs56 := u56.size
    have e6 : (1 : Int) + ((pickB (d' + 1) m).1 : Int) = 7 := by omega
    rw [e6] at B15
    refine stC_mk (B15.upd u56 (show n0 ≠ mb by omega)) (by simp) fun w60 B60 u60 s60 => ?_
    have U60 : Upd (· = mb) w w60 := trB (trS U15 u56) u60 (by omega)
    have M60 := M56.updS u60 fun b (e : b = n0) => by have := M.base.size; omega
    obtain ⟨eL, _, _⟩ := D56.len
    subst eL
    obtain ⟨vs, t1, t2⟩ := D56.ex
    -- the row of types stays
    have keepA : ∀ (w' : World) (S : Nat → Prop), Upd S w60 w' → (∀ b, S b → b = mb ∨ b = n0 ∨ w60.heap.size ≤ b) → RowAt w' ids.ptr 1 (.slice p57 L.1.length k59) vs ∧ TysAt ids (fun b => n0 ≤ b ∧ b ≠ n0) w' vs L.1 := by
      intro w' S u hS
      have hlt := t1.row.upd u60 fun b hb (e : b = n0) => by have := t1.own b hb; omega
      have ht := (tys_here t2).upd u60 fun b hb (e : b = n0) => by have := hb.1.1; omega
      refine ⟨hlt.upd u fun b hb hs => ?_, (ht.upd u fun b hb hs => ?_).mono fun b _ hb => by have := hb.1.1; omega⟩
      · have h1 := t1.own b hb
        have h2 := t1.row.lt hb
        rcases hS b hs with h | h | h <;> omega
      · have h1 := hb.1.1
        have h2 := hb.2
        rcases hS b hs with h | h | h <;> omega
    refine ⟨fun j w' => ∃ (i : Nat) (q : Option Addr) (c' : Nat), j = i ∧ i ≤ L.1.length ∧ Blk w' n0 #[.int .i64 7, .string (ByteArray.mk #[]), .slice q i c', .slice p57 L.1.length k59, .pointer none] 44 ∧ OwnS w60.heap.size w' q i c' (Mk.namesN i L.2).1 ∧
        MkAt W0 w' mb (Mk.namesN i L.2).2 ∧ Upd (fun b => b = mb ∨ b = n0 ∨ w60.heap.size ≤ b) w60 w', fun j _ => (L.1.length - j).toNat,
      ⟨0, none, 0, rfl, Nat.zero_le _, B60, ownNil _ _ _, M60, Upd.refl _ _⟩, ?_⟩
    rintro j w64 ⟨i, q, c', rfl, hi, B64, S64, M64, u64⟩ _
    have hs64 := u64.size
    refine ⟨_, _, _, B64.cell rfl, brC_intro (fun hlt => ?_) fun hge => ?_⟩
    · have hlt : i < L.1.length := by have := of_decide_eq_true hlt; omega
      refine ⟨fun w' => ∃ (q : Option Addr) (c' : Nat), Blk w' n0 #[.int .i64 7, .string (ByteArray.mk #[]), .slice q (i + 1) c', .slice p57 L.1.length k59, .pointer none] 44 ∧ OwnS w60.heap.size w' q (i + 1) c' (Mk.namesN (i + 1) L.2).1 ∧
        MkAt W0 w' mb (Mk.namesN (i + 1) L.2).2 ∧ Upd (fun b => b = mb ∨ b = n0 ∨ w60.heap.size ≤ b) w60 w', ?_, drawC_mk fun w72 u72 s72 => ⟨fun w' => Upd (· = mb) w72 w', ?_⟩⟩
      · rintro w70 ⟨q, c', B70, S70, M70, u70⟩ _
        rw [wrap_succ (by omega)]
        exact ⟨⟨i + 1, q, c', rfl, hlt, B70, S70, M70, u70⟩, by dsimp only; omega⟩
      have B72 := B64.upd u72 id
      refine ⟨_, _, _, B72.cell rfl, fun w' u' => lds_strs ((B72.upd u' (show n0 ≠ mb by omega)).cell rfl), ?_, trivial⟩
      refine callC_of (mname_spec (M64.upd u72)) fun v w79 ⟨e, M79, u79⟩ => ⟨_, e, u79, newC_mk fun w82 B82 u82 s82 => ⟨trN u79 u82, ?_, trivial⟩, trivial⟩
      have hs79 := u79.size
      have hs72 := u72.size
      have S82 : OwnS w60.heap.size w82 q i c' (Mk.namesN i L.2).1 := (show OwnS w60.heap.size w79 q i c' (Mk.namesN i L.2).1 from
        ⟨((S64.row.upd u72 fun _ _ x => x)).upd u79 fun b hb (e : b = mb) => by have := S64.own b hb; omega, S64.own, S64.len, S64.cap⟩).keep u82
      refine growS S82 (by omega) B82 (by rw [(names_nodes i L.2).2]; omega) fun p' n' c'' w84 o84 v84 _ _ => ?_
      have B84 := ((B72.upd u79 (show n0 ≠ mb by omega)).upd u82 id).upd v84 (show ¬ w60.heap.size ≤ n0 by omega)
      have hn' : n' = i + 1 := by
        have := (OwnS.len' o84).1
        rw [List.length_append, (names_nodes i L.2).2] at this
        exact this
      subst hn'
      refine ⟨stC_mk B84 (by simp) fun w88 B88 u88 s88 => ?_, trivial⟩
      refine ⟨p', c'', B88, ?_, ?_, ?_⟩
      · rw [names_snoc]
        exact ⟨o84.row.upd u88 fun b hb (e : b = n0) => by have := o84.own b hb; omega, o84.own, o84.len, o84.cap⟩
      · rw [names_snoc]
        exact ((M79.upd u82).updS v84 fun b (hb : w60.heap.size ≤ b) => by have := M.base.size; omega).updS u88 fun b (e : b = n0) => by have := M.base.size; omega
      · exact ((((u64.trans u72 fun _ _ x => x.elim).trans u79 fun x _ (e : x = mb) => .inl e).trans u82 fun _ _ x => x.elim).trans v84 fun x _ (h : w60.heap.size ≤ x) => .inr (.inr h)).trans u88 fun x _ (e : x = n0) => .inr (.inl e)
    · have hi : i = L.1.length := by have := of_decide_eq_false hge; omega
      obtain ⟨r1, r2⟩ := keepA w64 _ u64 fun b hb => hb
      have hnl := (names_nodes L.1.length L.2)
      subst hi
      refine ⟨_, _, _, _, _, _, hone, ?_, M64, ?_, ?_, l56, ?_⟩
      · rw [hn0]
        exact ⟨Nat.le_refl _, _, _, _, vs, B64, S64.row, (fun b hb => by have := S64.own b hb; omega), r1, (fun b hb => by have := t1.own b hb; omega), r2, rfl⟩
      · exact U60.trans u64 fun x hx hs => by
          rcases hs with h | h | h
          · exact h
          · omega
          · omega
      · rw [hnl.2]; exact l56
      · rw [hnl.1]; omega
  have h7 : (pickB d m).1 ≠ 6 := by simp at h7; omega
  refine brC_intro (fun h8 => ?_) fun h8 => ?_
  · have h8 : (pickB d m).1 = 7 := by simp at h8; omega
    have hd1 : 1 ≤ d := Nat.le_of_not_lt fun hd => absurd (hp6 hd) (by omega)
    obtain ⟨d', rfl⟩ : ∃ d', d = d' + 1 := ⟨d - 1, by omega⟩
    have H := ih d' rfl
    have hone := one_fun d' m h8 _ rfl
    have hnbd : nb (d' + 1) = 1 + 4 * nb d' := rfl
    have ed : IntKind.wrap .i64 (((d' + 1 : Nat) : Int) - 1) = (d' : Int) := by
      have hd := le_nb d'
      exact wrap_pred (by omega)
    rw [ed]
    refine callC_of (msome_spec H M15 (by omega) (by have := M.base.size; omega)) fun v w56 ⟨p57, k58, k59, e, D56, M56, u56, b56, l56⟩ => ⟨_, _, _, e, ?_⟩
    generalize hL : Mk.some (Mk.one d') ((pickB (d' + 1) m).2.next 30).2 = L at *
    have hs56 := u56.size
    have e6 : (1 : Int) + ((pickB (d' + 1) m).1 : Int) = 8 := by omega
    rw [e6] at B15
    refine stC_mk (B15.upd u56 (show n0 ≠ mb by omega)) (by simp) fun w60 B60 u60 s60 => ?_
    have U60 : Upd (· = mb) w w60 := trB (trS U15 u56) u60 (by omega)
    have M60 := M56.updS u60 fun b (e : b = n0) => by have := M.base.size; omega
    obtain ⟨eL, _, _⟩ := D56.len
    subst eL
    obtain ⟨vs, t1, t2⟩ := D56.ex
    refine callC_of (H w60 L.2 M60 (by omega)) fun v w96 ⟨q, e, ht, M96, u96, b96⟩ => ⟨q, e, ?_⟩
    have hs60 := u60.size
    refine stC_mk (B60.upd u96 (show n0 ≠ mb by omega)) (by simp) fun w98 B98 u98 s98 => ?_
    have hs96 := u96.size
    refine ⟨_, _, _, _, _, _, hone, ?_, M96.updS u98 fun b (e : b = n0) => by have := M.base.size; omega, trB (trS U60 u96) u98 (by omega), by simp, l56, by omega⟩
    rw [hn0]
    refine ⟨Nat.le_refl _, _, _, _, vs, B98, RowAt.nil _ _ _, (fun b hb => (no_in b hb).elim), ?_, (fun b hb => by have := t1.own b hb; omega), ?_, ?_⟩
    · exact ((t1.row.upd u60 fun b hb (e : b = n0) => by have := t1.own b hb; omega).upd u96 fun b hb (e : b = mb) => by have := t1.own b hb; omega).upd u98 fun b hb (e : b = n0) => by have := t1.own b hb; omega
    · exact (((t2.upd u60 fun b hb (e : b = n0) => by have := hb.1; omega).upd u96 fun b hb (e : b = mb) => by have := hb.1; omega).upd u98 fun b hb (e : b = n0) => by have := hb.1; omega).mono fun b _ hb => by have := hb.1; omega
    · exact (ht.upd u98 fun b (hb : w60.heap.size ≤ b) (e : b = n0) => by omega).mono fun b _ (hb : w60.heap.size ≤ b) => by omega
  have h8 : (pickB d m).1 ≠ 7 := by simp at h8; omega
  refine brC_intro (fun h9 => ?_) fun h9 => ?_
  · have h9 : (pickB d m).1 = 8 := by simp at h9; omega
    have hd1 : 1 ≤ d := Nat.le_of_not_lt fun hd => absurd (hp6 hd) (by omega)
    obtain ⟨d', rfl⟩ : ∃ d', d = d' + 1 := ⟨d - 1, by omega⟩
    have H := ih d' rfl
    have hone := one_uni d' m h9 _ rfl
    have hnbd : nb (d' + 1) = 1 + 4 * nb d' := rfl
    have ed : IntKind.wrap .i64 (((d' + 1 : Nat) : Int) - 1) = (d' : Int) := by
      have hd := le_nb d'
      exact wrap_pred (by omega)
    rw [ed]
    refine callC_of (msome_spec H M15 (by omega) (by have := M.base.size; omega)) fun v w56 ⟨p57, k58, k59, e, D56, M56, u56, b56, l56⟩ => ⟨_, _, _, e, ?_⟩
    generalize hL : Mk.some (Mk.one d') ((pickB (d' + 1) m).2.next 30).2 = L at *
    have e6 : (1 : Int) + ((pickB (d' + 1) m).1 : Int) = 9 := by omega
    rw [e6] at B15
    refine stC_mk (B15.upd u56 (show n0 ≠ mb by omega)) (by simp) fun w60 B60 u60 s60 => ?_
    have U60 : Upd (· = mb) w w60 := trB (trS U15 u56) u60 (by omega)
    have M60 := M56.updS u60 fun b (e : b = n0) => by have := M.base.size; omega
    obtain ⟨eL, _, _⟩ := D56.len
    subst eL
    obtain ⟨vs, t1, t2⟩ := D56.ex
    refine ⟨_, _, _, _, _, _, hone, ?_, M60, U60, by simp, l56, by omega⟩
    rw [hn0]
    refine ⟨Nat.le_refl _, _, _, _, vs, B60, RowAt.nil _ _ _, (fun b hb => (no_in b hb).elim), ?_, (fun b hb => by have := t1.own b hb; omega), ?_, rfl⟩
    · exact t1.row.upd u60 fun b hb (e : b = n0) => by have := t1.own b hb; omega
    · exact (t2.upd u60 fun b hb (e : b = n0) => by have := hb.1; omega).mono fun b _ hb => by have := hb.1; omega
  have h9 : (pickB d m).1 ≠ 8 := by simp at h9; omega
  have hone := one_low d m h6 h7 h8 h9
  refine ⟨_, _, _, _, _, _, hone, ?_, M15, U15, by simp, by simp, by omega⟩
  rw [hn0]
  exact ⟨Nat.le_refl _, .slice none 0 0, .slice none 0 0, .pointer none, [], B15, RowAt.nil _ _ _, (fun b hb => (no_in b hb).elim), RowAt.nil _ _ _, (fun b hb => (no_in b hb).elim), trivial, rfl⟩
end Go.Proofs.YtpddhbdjcgkjcaaGreatDoor

/- typ, list, kind, same: types of choices. -/
namespace Go.Proofs.YtpddhbdjcgkjcaaGreatDoor
open Go.SX Go.Ty

theorem mone_spec {W0 : World} {mb : Nat} : ∀ d, OneSpec W0 mb d (Mk.one d) (nb d)
  | 0 => mone_step fun d' h => by omega
  | d + 1 => mone_step fun d' h => by
    obtain rfl : d = d' := by omega
    exact mone_spec d
theorem bytes_sub {w : World} {p : Option Addr} {c : Nat} {l : List UInt8} (h : BytesAt w p l) : BytesAt w (subP p c 0 1) l := fun i hi => by
  obtain ⟨a, rfl, hc⟩ := h i hi
  unfold subP
  split
  · exact ⟨a, rfl, hc⟩
  · refine ⟨a.add (0 * 1), rfl, ?_⟩
    rw [Nat.zero_mul, addr_add_zero]
    exact hc
theorem min300 (n : Nat) : (if (300 : Int) < (n : Int) then (300 : Int) else (n : Int)) = ((min n 300 : Nat) : Int) := by
  split <;> omega
/-- the maker as it begins. -/
theorem mk_begin {w w1 : World} {p : Option Addr} {c : Nat} {cs : List UInt8} (hb : BytesAt w p cs) (hc : cs.length ≤ c) (hm : c ≤ maxLen) (u : Upd No w w1)
    (hB : Blk w1 w.heap.size #[.slice (subP p c 0 1) (Int.toNat (if (300 : Int) < (cs.length : Int) then (300 : Int) else (cs.length : Int)) - 0) (c - 0), .int .i64 0] 48) : MkAt w w1 w.heap.size ⟨cs.take 300, 0⟩ := by
  rw [min300] at hB
  have e : Int.toNat ((min cs.length 300 : Nat) : Int) - 0 = (cs.take 300).length := by rw [List.length_take]; omega
  rw [e] at hB
  exact ⟨Nat.le_refl _, u, subP p c 0 1, c, hB, by rw [List.length_take]; omega, hm, bytes_take (bytes_sub hb) 300⟩
theorem typ_spec {w : World} {p : Option Addr} {n c : Nat} {cs : List UInt8} (hb : BytesAt w p cs) (hn : n = cs.length) (hc : n ≤ c) (hm : c ≤ maxLen) :
    callC Tryz.prog 9 #[.slice p n c] w fun v w' => ∃ q : Option Addr, v = .pointer q ∧ TyAt ids (From w.heap.size) w' (.pointer q) (typF cs) ∧ Upd No w w' := by
  subst hn
  refine typ_text _ _ _ _ _ ⟨by omega, by rw [min300]; omega, by rw [min300]; omega, newC_mk fun w1 B1 u1 s1 => ?_⟩
  have M1 := mk_begin hb hc hm u1 B1
  refine callC_of (mone_spec 4 w1 _ M1 (show 0 + nb 4 ≤ 1000000 by decide)) fun v w3 ⟨q, e, ht, M3, u3, _⟩ => ⟨q, e, q, rfl, ht.mono fun b _ (hb : w1.heap.size ≤ b) => (show w.heap.size ≤ b by omega), ?_⟩
  exact u1.trans u3 fun x hx (e : x = _) => by omega
set_option maxHeartbeats 1000000 in
theorem list_spec {w : World} {p : Option Addr} {n c : Nat} {cs : List UInt8} (hb : BytesAt w p cs) (hn : n = cs.length) (hc : n ≤ c) (hm : c ≤ maxLen) :
    callC Tryz.prog 19 #[.slice p n c] w fun v w' => ∃ p n c, v = .slice p n c ∧ TyRow ids (From w.heap.size) w' (.slice p n c) (listF cs) ∧ Upd No w w' ∧ (listF cs).length ≤ 5 := by
  subst hn
  refine list_text _ _ _ _ _ ⟨by omega, by rw [min300]; omega, by rw [min300]; omega, newC_mk fun w1 B1 u1 s1 => ?_⟩
  have M1 := mk_begin hb hc hm u1 B1
  refine callC_of (mnext_spec M1 6 (by omega)) fun v w3 ⟨e, M3, u3, s3⟩ => ⟨_, e, ?_⟩
  have hl : listF cs = (Mk.manyN (Mk.one 3) ((⟨cs.take 300, 0⟩ : Mk).next 6).1 ((⟨cs.take 300, 0⟩ : Mk).next 6).2).1 := rfl
  rw [hl]
  have hnd : ((⟨cs.take 300, 0⟩ : Mk).next 6).2.nodes = 0 := next_nodes _ _
  have hcl := next_lt (⟨cs.take 300, 0⟩ : Mk) (n := 6) (by omega)
  generalize ((⟨cs.take 300, 0⟩ : Mk).next 6).1 = cnt at *
  generalize ((⟨cs.take 300, 0⟩ : Mk).next 6).2 = m1 at *
  have hnb : nb 3 = 85 := rfl
  have U3 : Upd (· = w.heap.size) w1 w3 := u3
  refine ⟨fun p n c j w' => ∃ i : Nat, i ≤ cnt ∧ j = ((cnt - i : Nat) : Int) ∧ Made w1.heap.size w' p n c (Mk.manyN (Mk.one 3) i m1).1 ∧ MkAt w w' w.heap.size (Mk.manyN (Mk.one 3) i m1).2 ∧ Upd (fun b => b = w.heap.size ∨ w1.heap.size ≤ b) w1 w' ∧ w1.heap.size ≤ w'.heap.size ∧ (Mk.manyN (Mk.one 3) i m1).2.nodes ≤ i * nb 3, fun _ _ _ j _ => j.toNat,
    ⟨0, Nat.zero_le _, rfl, made_nil, M3, U3.mono fun _ _ e => .inl e, by omega, by simp only [Mk.manyN]; omega⟩, ?_⟩
  rintro p n c j w9 ⟨i, hi, rfl, D9, M9, u9, g9, b9⟩ _
  refine brC_intro (fun hgt => ?_) fun hle => ?_
  · have hgt : i < cnt := by have := of_decide_eq_true hgt; omega
    have hib : i * nb 3 + nb 3 ≤ 6 * nb 3 := by
      have : i * nb 3 + nb 3 = (i + 1) * nb 3 := by rw [Nat.add_mul, Nat.one_mul]
      rw [this]; exact Nat.mul_le_mul_right _ (by omega)
    refine callC_of (mone_spec 3 w9 _ M9 (by omega)) fun v w12 ⟨q, e, ht, M12, u12, b12⟩ => ⟨q, e, ?_⟩
    refine made_one (W0 := w) (mb := w.heap.size) D9 (by omega) g9 (by omega) (by rw [many_len]; omega) ht M12 u12 fun p' n' c' w17 D17 M17 u17 g17 => ?_
    obtain ⟨e1, e2⟩ := many_snoc (Mk.one 3) i m1
    rw [wrap_small (by omega) (by omega)]
    refine ⟨⟨i + 1, hgt, by omega, by rw [e1]; exact D17, by rw [e2]; exact M17, u9.trans u17 fun x hx hs => hs, g17, ?_⟩, by dsimp only; omega⟩
    rw [e2, Nat.add_mul, Nat.one_mul]
    omega
  · have hi : i = cnt := by have := of_decide_eq_false hle; omega
    subst hi
    refine ⟨p, n, c, rfl, D9.row.mono fun b _ (hb : w1.heap.size ≤ b) => (show w.heap.size ≤ b by omega), u1.trans u9 fun x hx hs => by rcases hs with h | h <;> omega, by rw [many_len]; omega⟩
theorem kind_spec (k : Int) (w : World) : callC Tryz.prog 27 #[.int .i64 k] w fun v w' => ∃ q : Option Addr, v = .pointer q ∧ TyAt ids (From w.heap.size) w' (.pointer q) (.mk k .empty [] [] .nil) ∧ Upd No w w' :=
  kind_text _ _ _ (newC_mk fun w1 B1 u1 s1 => ⟨_, rfl, mkTy (nv := .slice none 0 0) (av := .slice none 0 0) (rv := .pointer none) (ns := []) (ta := []) (vs := []) (r := .nil) B1 (Nat.le_refl _) (RowAt.nil _ _ _) (fun b hb => (no_in b hb).elim) (RowAt.nil _ _ _) (fun b hb => (no_in b hb).elim) trivial rfl, u1⟩)
theorem same_spec {t u : T} {F G : Nat → Prop} {w : World} {x0 x2 : Option Addr} {e f : Int} (h : TyAt ids F w (.pointer x0) t) (g : TyAt ids G w (.pointer x2) u) :
    callC Tryz.prog 22 #[.pointer x0, .int .i64 e, .pointer x2, .int .i64 f] w fun v w' => v = .bool (e == f && same t u) ∧ Upd No w w' := by
  refine same_text _ _ _ _ _ _ (brC_intro (fun h1 => ?_) fun h1 => ⟨by rw [h1]; rfl, Upd.refl _ _⟩)
  rw [h1]
  exact callC_of (rSame_spec h g) fun v w1 ⟨e, u1⟩ => ⟨_, e, rfl, u1⟩
end Go.Proofs.YtpddhbdjcgkjcaaGreatDoor
