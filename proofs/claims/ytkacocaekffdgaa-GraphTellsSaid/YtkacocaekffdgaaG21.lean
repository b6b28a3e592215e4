/- GraphTells: the walk. -/
import Derived.Test.YtkacocaekffdgaaG20
namespace Go.Proofs.Ytkacocaekffdgaa
open Go.SX

theorem rtexts_spec {w : World} {p q : Option Addr} {l m : List ByteArray} (h : StrsAt w p l) (k : StrsAt w q m) (hl : l.length ≤ maxLen) (c d : Nat) :
    callC Try.prog 17 #[.slice p l.length c, .slice q m.length d] w fun v w' => v = .bool (decide (l = m)) ∧ Upd No w w' := by
  simp only [maxLen] at hl
  refine rtexts _ _ _ _ _ _ _ _ (brC_intro (fun hne => ?_) fun heq => ?_)
  · have : ¬ l = m := fun e => by rw [e] at hne; simp at hne
    simp [this, Upd.refl]
  have heq : l.length = m.length := by
    have : ¬ ((l.length : Int) ≠ m.length) := by simpa using heq
    omega
  refine ⟨fun n w' => ∃ i : Nat, n = i ∧ i ≤ l.length ∧ Upd No w w' ∧ l.take i = m.take i, fun n _ => (l.length - n).toNat, ⟨0, rfl, Nat.zero_le _, Upd.refl _ _, rfl⟩, ?_⟩
  rintro n w3 ⟨i, rfl, hi, u3, he⟩ d
  refine brC_intro (fun hlt => ?_) fun hge => ?_
  · have hlt : i < l.length := by simpa using hlt
    refine drawC_mk fun w5 u5 s5 => ?_
    obtain ⟨a, rfl, ha⟩ := (h.keep u3).keep u5 i hlt
    obtain ⟨b, rfl, hb⟩ := (k.keep u3).keep u5 i (by omega)
    refine ⟨by omega, by omega, ptrC_some ⟨_, by rw [Int.toNat_natCast]; exact ha, by omega, by omega, ptrC_some ⟨_, by rw [Int.toNat_natCast]; exact hb, ?_⟩⟩⟩
    rw [beq_bytes]
    refine brC_intro (fun hs => ?_) fun hs => ?_
    · have hs : ¬ l[i] = m[i] := by simpa using hs
      have : ¬ l = m := fun e => hs (by subst e; rfl)
      simp only [this, decide_false, true_and]
      exact u3.trans u5 fun _ _ => id
    · have hs : l[i] = m[i] := by simpa using hs
      have hw : IntKind.wrap .i64 ((i : Int) + 1) = ((i + 1 : Nat) : Int) := Go.SX.wrap_small (by omega) (by omega)
      rw [hw]
      refine ⟨⟨i + 1, rfl, hlt, u3.trans u5 fun _ _ => id, ?_⟩, by dsimp only; omega⟩
      rw [List.take_succ_eq_append_getElem hlt, List.take_succ_eq_append_getElem (by omega), he, hs]
  · have : i = l.length := by
      have : ¬ ((i : Int) < (l.length : Int)) := by simpa using hge
      omega
    subst this
    rw [List.take_length, heq, List.take_length] at he
    simp only [he, decide_true, true_and]
    exact u3
/-- two rows of the same texts. -/
theorem rtexts_same {w : World} {p q : Option Addr} {n c n' c' : Nat} {l : List ByteArray} (h : RowAt w 9 1 (.slice p n c) (strs l)) (k : RowAt w 9 1 (.slice q n' c') (strs l)) (hl : l.length ≤ 1000000) :
    callC Try.prog 17 #[.slice p n c, .slice q n' c'] w fun v w' => v = .bool true ∧ Upd No w w' := by
  have e1 := rowAt_len h
  have e2 := rowAt_len k
  subst e1
  subst e2
  have := rtexts_spec (StrsAt.of_row h) (StrsAt.of_row k) (by simp only [maxLen]; omega) c c'
  simpa using this

theorem tells_spec {w : World} {x0 x1 : Option Addr} {ps : List ByteArray} {imps : List (List ByteArray)} (hP0 : StrsAt w x0 ps) (hI0 : ImpsIn w x1 imps) (c0 c1 : Nat) (h0 : ps.length ≤ c0) (hsz : ∀ p ∈ ps, p.size ≤ maxLen) (ask : ByteArray) :
    callC Try.prog 3 #[.slice x0 ps.length c0, .slice x1 imps.length c1, .string ask] w fun v w' => v = .bool true ∧ Upd No w w' := by
  refine ltells _ _ _ _ _ _ _ _ _ ?_
  refine callC_of (cut_spec hP0 hI0 c0 c1 h0) fun v w1 ⟨u1, p8, k9, k10, hv, hk9, hk9c, hrow⟩ => ⟨_, _, _, _, _, _, hv, ?_⟩
  have hP1 : StrsAt w x0 (ps.take 40) := strsAt_take hP0 40
  have hI1 := impsAt_row hrow u1
  have hlenP : (ps.take 40).length = min ps.length 40 := by rw [List.length_take, Nat.min_comm]
  have hszP : ∀ p ∈ ps.take 40, p.size ≤ maxLen := fun p hp => hsz p (List.mem_of_mem_take hp)
  generalize hPd : ps.take 40 = P at hP1 hlenP hszP
  generalize hId : cut40 imps = I at hrow hk9 hI1
  subst hk9
  rw [← hlenP]
  have hP40 : P.length ≤ 40 := by omega
  refine callC_of (new_spec (hP1.keep u1) hI1 (by omega) c0 k10) fun v w9 ⟨u9, h⟩ => ?_
  have u09 : Upd No w w9 := u1.trans u9 fun _ _ => id
  have hr := rnew_spec (hP1.keep u09) (impsAt_keep hI1 u9) (by omega) c0 k10
  rcases h with ⟨hv, hno⟩ | ⟨g, m, f, hv, hPI, hN, G⟩
  · refine ⟨_, hv, callC_of hr fun v w12 ⟨u12, h⟩ => ?_⟩
    rcases h with ⟨hv, _⟩ | ⟨_, _, _, _, h1, h2, _⟩
    · exact ⟨_, hv, fun _ => False, fun _ h => h.elim, fun b w' => b = true ∧ w12 = w', fun b w99 ⟨hb, e⟩ d => brC_tt hb (brC_tt rfl (brC_tt rfl (callC_of (works_spec w99) fun v w102 ⟨hv, u⟩ => ⟨_, hv, rfl, (u09.trans u12 fun _ _ => id).trans (e ▸ u) fun _ _ => id⟩))), brC_tt rfl ⟨rfl, rfl⟩⟩
    · exact (hno ⟨h1, h2⟩).elim
  refine ⟨_, hv, callC_of hr fun v w12 ⟨u12, h⟩ => ?_⟩
  rcases h with ⟨_, h⟩ | ⟨g', vP, vT, hv', _, _, R⟩
  · exact (h ⟨hPI, hN⟩).elim
  have L := links_of hN hPI
  have G12 := G.keep u12
  have u012 : Upd No w w12 := u09.trans u12 fun _ _ => id
  have hP12 := hP1.keep u012
  generalize adjOf P I = A at G12 L
  generalize I.map (tosF P) = tos at R L
  clear G hr hI1 hrow
  refine ⟨_, hv', (w12 = ·), ?_, fun b w' => b = false ∧ w12 = w', fun b w99 ⟨hb, e⟩ d => brC_ff hb e, brC_ff rfl ⟨rfl, rfl⟩⟩
  rintro w15 rfl d
  have hol := (order_perm A hN).length_eq
  have hfl : ∀ s : ByteArray, (sortB (P.filter fun p => decide (s ∈ A p))).length ≤ 1000000 := fun s => by
    rw [length_sortB]; exact Nat.le_trans (List.length_filter_le _ _) (by omega)
  refine ⟨fun n w' => ∃ i : Nat, n = i ∧ i ≤ P.length ∧ Upd No w12 w', fun n _ => (P.length - n).toNat, ⟨0, rfl, Nat.zero_le _, Upd.refl _ _⟩, ?_⟩
  rintro n19 w20 ⟨i, rfl, hi, u20⟩ d
  refine brC_intro (fun hlt => ?_) fun hge => ?_
  · have hlt : i < P.length := by have := of_decide_eq_true hlt; omega
    refine ⟨(Upd No w12 ·), fun w23 u23 d => ?_, fun b w' => b = false ∧ Upd No w12 w', fun b w27 ⟨hb, u⟩ d => brC_ff hb u, drawC_mk fun w29 u29 s29 => ⟨(Upd No w12 ·), ?_⟩⟩
    · have hw : IntKind.wrap .i64 ((i : Int) + 1) = ((i + 1 : Nat) : Int) := Go.SX.wrap_small (by omega) (by omega)
      rw [hw]
      exact ⟨⟨i + 1, rfl, hlt, u23⟩, by dsimp only; omega⟩
    have u29 : Upd No w12 w29 := u20.trans u29 fun _ _ => id
    have hAt : ∀ w', Upd No w12 w' → ∃ a, x0 = some a ∧ w'.cell? (Addr.add a (Int.toNat (i : Int) * 1)) = some (.string P[i]) := fun w' u => by
      rw [Int.toNat_natCast]; exact hP12.keep u i hlt
    generalize P[i] = p at hAt
    obtain ⟨a, rfl, ha⟩ := hAt w29 u29
    have hL : ∀ w', Upd No w12 w' → Lds Try.prog 9 w' (Addr.add a (Int.toNat (i : Int) * 1)) (.string p) := fun w' u => lds_str (by obtain ⟨_, e, h⟩ := hAt w' u; cases e; exact h)
    refine ⟨by omega, by omega, ptrC_some ⟨_, ha, hL, by omega, by omega, ptrC_some ⟨_, ha, hL, callC_of (cyclic_spec (G12.keep u29) p) fun v w38 ⟨b, hv, hb, u38⟩ => ⟨b, hv, u29.trans u38 fun _ _ => id, ?_, trivial⟩, trivial⟩⟩⟩
    have u38 : Upd No w12 w38 := u29.trans u38 fun _ _ => id
    refine callC_of (rcyclic_spec (rGraphAt_keep R u38) L (by omega) p) fun v w41 ⟨b', hv, hb', u41⟩ => ⟨b', hv, u38.trans u41 fun _ _ => id, ?_⟩
    have u41 : Upd No w12 w41 := u38.trans u41 fun _ _ => id
    have ebb : b = b' := by rw [Bool.eq_iff_iff, hb, hb']
    subst ebb
    refine brC_ff (by cases b <;> rfl) ?_
    obtain ⟨_, e, ha⟩ := hAt w41 u41
    cases e
    refine ⟨by omega, by omega, ptrC_some ⟨_, ha, hL, by omega, by omega, ptrC_some ⟨_, ha, hL, callC_of (above_spec (G12.keep u41) (by omega) hszP p) fun v w50 ⟨hA1, u50, _⟩ => ?_, trivial⟩⟩⟩
    have u50 : Upd No w12 w50 := u41.trans u50 fun _ _ => id
    obtain ⟨p51, k52, k53, rfl, _⟩ := hA1.shape
    refine ⟨_, _, _, rfl, u50, callC_of (rabove_spec (rGraphAt_keep R u50) L (by omega) hszP p) fun v w55 ⟨hA2, u55⟩ => ?_, trivial⟩
    have hA1 := hA1.upd u55 fun _ _ => id
    have u55 : Upd No w12 w55 := u50.trans u55 fun _ _ => id
    obtain ⟨p56, k57, k58, rfl, _⟩ := hA2.shape
    exact ⟨_, _, _, rfl, u55, callC_of (rtexts_same hA1 hA2 (hfl p)) fun v w60 ⟨hv, u60⟩ => ⟨_, hv, u55.trans u60 fun _ _ => id, rfl, u55.trans u60 fun _ _ => id⟩, trivial⟩
  · refine callC_of (order_spec (G12.keep u20) (by omega) hszP) fun v w63 ⟨hO1, u63, _⟩ => ?_
    have u63 : Upd No w12 w63 := u20.trans u63 fun _ _ => id
    obtain ⟨p64, k65, k66, rfl, _⟩ := hO1.shape
    refine ⟨_, _, _, rfl, callC_of (rorder_spec (rGraphAt_keep R u63) L (by omega) hszP) fun v w68 ⟨hO2, u68⟩ => ?_⟩
    have hO1 := hO1.upd u68 fun _ _ => id
    have u68 : Upd No w12 w68 := u63.trans u68 fun _ _ => id
    obtain ⟨p69, k70, k71, rfl, _⟩ := hO2.shape
    refine ⟨_, _, _, rfl, callC_of (rtexts_same hO1 hO2 (by omega)) fun v w73 ⟨hv, u73⟩ => ⟨_, hv, brC_tt rfl ?_⟩⟩
    have u73 : Upd No w12 w73 := u68.trans u73 fun _ _ => id
    refine callC_of (cyclic_spec (G12.keep u73) ask) fun v w76 ⟨b, hv, hb, u76⟩ => ⟨b, hv, ?_⟩
    have u76 : Upd No w12 w76 := u73.trans u76 fun _ _ => id
    refine callC_of (rcyclic_spec (rGraphAt_keep R u76) L (by omega) ask) fun v w79 ⟨b', hv, hb', u79⟩ => ⟨b', hv, ?_⟩
    have u79 : Upd No w12 w79 := u76.trans u79 fun _ _ => id
    have ebb : b = b' := by rw [Bool.eq_iff_iff, hb, hb']
    subst ebb
    refine brC_tt (by cases b <;> rfl) ?_
    refine callC_of (above_spec (G12.keep u79) (by omega) hszP ask) fun v w82 ⟨hA1, u82, _⟩ => ?_
    have u82 : Upd No w12 w82 := u79.trans u82 fun _ _ => id
    obtain ⟨p83, k84, k85, rfl, _⟩ := hA1.shape
    refine ⟨_, _, _, rfl, callC_of (rabove_spec (rGraphAt_keep R u82) L (by omega) hszP ask) fun v w87 ⟨hA2, u87⟩ => ?_⟩
    have hA1 := hA1.upd u87 fun _ _ => id
    have u87 : Upd No w12 w87 := u82.trans u87 fun _ _ => id
    obtain ⟨p88, k89, k90, rfl, _⟩ := hA2.shape
    refine ⟨_, _, _, rfl, callC_of (rtexts_same hA1 hA2 (hfl ask)) fun v w92 ⟨hv, u92⟩ => ⟨_, hv, brC_tt rfl ?_⟩⟩
    have u92 : Upd No w12 w92 := u87.trans u92 fun _ _ => id
    exact callC_of (works_spec w92) fun v w95 ⟨hv, u95⟩ => ⟨_, hv, rfl, (u012.trans u92 fun _ _ => id).trans u95 fun _ _ => id⟩
end Go.Proofs.Ytkacocaekffdgaa
