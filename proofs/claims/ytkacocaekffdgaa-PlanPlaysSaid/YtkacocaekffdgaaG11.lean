/- The laws' own helpers: place, texts, cut. -/
import Derived.Test.YtkacocaekffdgaaG10
import Derived.Test.YtkacocaekffdgaaVr
namespace Go.Proofs.Ytkacocaekffdgaa
open Go.SX

theorem place_spec {w : World} {p : Option Addr} {l : List ByteArray} (h : StrsAt w p l) (hl : l.length ≤ maxLen) (c : Nat) (s : ByteArray) :
    callC Try.prog 22 #[.slice p l.length c, .string s] w fun v w' => v = .int .i64 (idxAt l s 0) ∧ w = w' :=
  lplace _ _ _ _ _ _ (index_loop (K := fun v w' => v = .int .i64 (idxAt l s 0) ∧ w = w') h hl ⟨rfl, rfl⟩ (fun x => x.toList == s.toList) fun x => by rw [beq_bytes])

theorem texts_spec {w : World} {p q : Option Addr} {l m : List ByteArray} (h : StrsAt w p l) (k : StrsAt w q m) (hl : l.length ≤ maxLen) (c d : Nat) :
    callC Try.prog 24 #[.slice p l.length c, .slice q m.length d] w fun v w' => v = .bool (decide (l = m)) ∧ Upd No w w' := by
  simp only [maxLen] at hl
  refine ltexts _ _ _ _ _ _ _ _ (brC_intro (fun hne => ?_) fun heq => ?_)
  · have : ¬ l = m := fun e => by rw [e] at hne; simp at hne
    simp [this, Upd.refl]
  have heq : l.length = m.length := by
    have : ¬ ((l.length : Int) ≠ m.length) := by simpa using heq
    omega
  refine ⟨fun n w' => ∃ i : Nat, n = i ∧ i ≤ l.length ∧ Upd No w w' ∧ l.take i = m.take i, fun n _ => (l.length - n).toNat, ⟨0, rfl, Nat.zero_le _, Upd.refl _ _, rfl⟩, ?_⟩
  rintro n w3 ⟨i, rfl, hi, u3, he⟩ d
  refine brC_intro (fun hlt => ?_) fun hge => ?_
  · have hlt : i < l.length := by simpa using hlt
    refine drawC_mk fun w5 u5 s5 => ?_
    obtain ⟨a, rfl, ha⟩ := (h.keep u3).keep u5 i hlt
    obtain ⟨b, rfl, hb⟩ := (k.keep u3).keep u5 i (by omega)
    refine ⟨by omega, by omega, ptrC_some ⟨_, by rw [Int.toNat_natCast]; exact ha, by omega, by omega, ptrC_some ⟨_, by rw [Int.toNat_natCast]; exact hb, ?_⟩⟩⟩
    rw [beq_bytes]
    refine brC_intro (fun hs => ?_) fun hs => ?_
    · have hs : ¬ l[i] = m[i] := by simpa using hs
      have : ¬ l = m := fun e => hs (by subst e; rfl)
      simp only [this, decide_false, true_and]
      exact u3.trans u5 fun _ _ => id
    · have hs : l[i] = m[i] := by simpa using hs
      have hw : IntKind.wrap .i64 ((i : Int) + 1) = ((i + 1 : Nat) : Int) := Go.SX.wrap_small (by omega) (by omega)
      rw [hw]
      refine ⟨⟨i + 1, rfl, hlt, u3.trans u5 fun _ _ => id, ?_⟩, by dsimp only; omega⟩
      rw [List.take_succ_eq_append_getElem hlt, List.take_succ_eq_append_getElem (by omega), he, hs]
  · have : i = l.length := by
      have : ¬ ((i : Int) < (l.length : Int)) := by simpa using hge
      omega
    subst this
    rw [List.take_length, heq, List.take_length] at he
    simp only [he, decide_true, true_and]
    exact u3

theorem subP_zero (x : Option Addr) (c s : Nat) : subP x c 0 s = x := by
  unfold subP
  split
  · rfl
  · cases x with
    | none => rfl
    | some a => simp [Addr.add]

/-- v is a list of lists of texts, made in w; the lists themselves were there in W. -/
def ImpsRow (W w : World) (v : Value) (imps : List (List ByteArray)) : Prop :=
  ∃ hds, RowAt w 22 1 v hds ∧ hds.length = imps.length ∧ ∀ j, (h : j < imps.length) → ∃ p c, hds[j]? = some (.slice p imps[j].length c) ∧ StrsAt W p imps[j] ∧ imps[j].length ≤ 1000000
theorem impsAt_row {W w : World} {p : Option Addr} {n c : Nat} {imps : List (List ByteArray)} (h : ImpsRow W w (.slice p n c) imps) (u : Upd No W w) : ImpsAt w p imps := by
  obtain ⟨hds, hr, hl, hj⟩ := h
  intro i hi
  obtain ⟨p', c', he, hs, hn⟩ := hj i hi
  obtain ⟨g, o, rfl, hc⟩ := hr.get (j := i) (by omega)
  exact ⟨_, p', c', rfl, by rw [add_mk, Nat.mul_one, hc, he], hs.keep u, hn⟩

set_option maxRecDepth 100000 in
theorem lds_slice22 {w : World} {a : Addr} {p : Option Addr} {n c : Nat} (h : w.cell? a = some (.slice p n c)) : Lds Try.prog 22 w a (.slice p n c) := by
  have key : (∃ p' n' c', w.cell? a = some (.slice p' n' c') ∧ .slice p' n' c' = Value.slice p n c) = ldVC Try.prog 22 w a (fun v => v = .slice p n c) := by kernel_rfl
  obtain ⟨v, rfl, hr⟩ := semR_out (ldVC_sound (of_eq ⟨_, _, _, h, rfl⟩ key))
  exact hr w rfl
set_option maxRecDepth 100000 in
theorem lds_str {w : World} {a : Addr} {s : ByteArray} (h : w.cell? a = some (.string s)) : Lds Try.prog 9 w a (.string s) := by
  have key : (∃ s', w.cell? a = some (.string s') ∧ Value.string s' = Value.string s) = ldVC Try.prog 9 w a (fun v => v = .string s) := by kernel_rfl
  obtain ⟨v, rfl, hr⟩ := semR_out (ldVC_sound (of_eq ⟨_, h, rfl⟩ key))
  exact hr w rfl

theorem strsAt_take {w : World} {p : Option Addr} {l : List ByteArray} (h : StrsAt w p l) (n : Nat) : StrsAt w p (l.take n) := fun i hi => by
  have hi' : i < l.length := by rw [List.length_take] at hi; omega
  obtain ⟨a, rfl, hc⟩ := h i hi'
  exact ⟨a, rfl, by rw [hc]; simp⟩
theorem min40 (n : Nat) : (if (40 : Int) < (n : Int) then (40 : Int) else (n : Int)) = ((min n 40 : Nat) : Int) := by
  split <;> omega

/-- the first forty, and the first forty of each. -/
def cut40 (imps : List (List ByteArray)) : List (List ByteArray) := (imps.take 40).map fun l => l.take 40

/-- lists of texts that came in: the lists' own lengths are any. -/
def ImpsIn (w : World) (q : Option Addr) (imps : List (List ByteArray)) : Prop :=
  ∀ i, (h : i < imps.length) → ∃ (a : Addr) (p : Option Addr) (c : Nat), q = some a ∧ w.cell? (Addr.add a (i * 1)) = some (.slice p imps[i].length c) ∧ StrsAt w p imps[i] ∧ imps[i].length ≤ c

theorem cut_spec {w : World} {x0 x1 : Option Addr} {ps : List ByteArray} {imps : List (List ByteArray)} (hP : StrsAt w x0 ps) (hI : ImpsIn w x1 imps) (c0 c1 : Nat) (h0 : ps.length ≤ c0) :
    callC Try.prog 11 #[.slice x0 ps.length c0, .slice x1 imps.length c1] w fun v w' => Upd No w w' ∧ ∃ p q c, v = .tuple #[.slice x0 (min ps.length 40) c0, .slice p q c] ∧ q = (cut40 imps).length ∧ q ≤ c ∧ ImpsRow w w' (.slice p q c) (cut40 imps) := by
  refine lcut _ _ _ _ _ _ _ _ ?_
  rw [min40]
  refine ⟨by omega, by omega, by omega, ?_⟩
  rw [subP_zero, Int.toNat_natCast, Nat.sub_zero, Nat.sub_zero]
  have hcl : (cut40 imps).length = min 40 imps.length := by simp [cut40]
  refine ⟨fun p q c w' => Upd No w w' ∧ q = (cut40 imps).length ∧ q ≤ c ∧ ImpsRow w w' (.slice p q c) (cut40 imps), fun p q c w' ⟨u, hq, hc, hr⟩ d => ⟨u, _, _, _, rfl, hq, hc, hr⟩, ?_⟩
  refine ⟨fun p q c n w' => ∃ i : Nat, n = i ∧ i ≤ 40 ∧ i ≤ imps.length ∧ Upd No w w' ∧ i = q ∧ q ≤ c ∧ ImpsRow w w' (.slice p q c) ((cut40 imps).take i) ∧ ∀ k, InRow (.slice p q c) k → w.heap.size ≤ k, fun _ _ _ n _ => (40 - n).toNat,
    ⟨0, rfl, by omega, Nat.zero_le _, Upd.refl _ _, rfl, Nat.le_refl _, ⟨[], RowAt.nil _ _ _, by simp, by simp⟩, fun k hk => (by cases hk)⟩, ?_⟩
  rintro p q c n w12 ⟨i, rfl, hi, hi2, u12, rfl, hqc, hrow, hge⟩ d
  have hend : ¬ (i < 40 ∧ i < imps.length) → (cut40 imps).take i = cut40 imps ∧ i = (cut40 imps).length := fun h => by
    have : i = (cut40 imps).length := by omega
    refine ⟨?_, this⟩
    conv => lhs; rw [this]
    exact List.take_length
  refine ⟨fun w' => i < 40 ∧ i < imps.length ∧ w12 = w', ?_, ?_⟩
  · rintro w15 ⟨h40, hlt, rfl⟩ d
    refine ⟨fun p q c w' => Upd No w w' ∧ q = i + 1 ∧ q ≤ c ∧ ImpsRow w w' (.slice p q c) ((cut40 imps).take (i + 1)) ∧ ∀ k, InRow (.slice p q c) k → w.heap.size ≤ k, ?_, ?_⟩
    · rintro p q c w21 ⟨u, rfl, hc, hr, hg⟩ d
      have hw : IntKind.wrap .i64 ((i : Int) + 1) = ((i + 1 : Nat) : Int) := Go.SX.wrap_small (by omega) (by omega)
      rw [hw]
      exact ⟨⟨i + 1, rfl, h40, hlt, u, rfl, hc, hr, hg⟩, by dsimp only; omega⟩
    · refine drawC_mk fun w23 u23 s23 => ?_
      have u023 : Upd No w w23 := u12.trans u23 fun _ _ => id
      obtain ⟨a, p', c', rfl, hc, hs, hlc⟩ := hI i hlt
      have hc23 := cell_keep hc u023
      refine ⟨fun w' => Upd No w w', by omega, by omega, ptrC_some ⟨_, _, _, by rw [Int.toNat_natCast]; exact hc23, fun w' u => lds_slice22 (by rw [Int.toNat_natCast]; exact cell_keep hc u), by omega, by omega, ptrC_some ⟨_, _, _, by rw [Int.toNat_natCast]; exact hc23, fun w' u => lds_slice22 (by rw [Int.toNat_natCast]; exact cell_keep hc u), ?_⟩⟩⟩
      rw [min40]
      refine ⟨by omega, by omega, by omega, ?_, trivial⟩
      rw [subP_zero, Int.toNat_natCast, Nat.sub_zero, Nat.sub_zero]
      refine newC_mk fun w36 h36 u36 s36 => ⟨u023.trans u36 fun _ _ => id, ?_, trivial⟩
      obtain ⟨hds, hr, hlen, hj⟩ := hrow
      have hli : ((cut40 imps).take i).length = i := by rw [List.length_take]; omega
      rw [hli] at hlen
      have hr36 := (hr.upd u23 fun _ _ => id).upd u36 fun _ _ => id
      obtain ⟨io, hi1, hi2, hi3, hi4⟩ := info_get (P := Try.prog) (e := 22) (s := 1) (b := 24) (z := .slice none 0 0) (by kernel_rfl)
      refine append_row (P := Try.prog) (e := 22) (news := [.slice p' (min imps[i].length 40) c']) Try.underlying23 hi1 hi2 hi3 hi4 rfl hr36 (n := i) (by rw [hlen, Nat.mul_one]) _ 1 1 (by omega) (by omega) rfl ?_ (by simp [Value.oneCell']) (by simp only [maxLen]; omega) (by omega)
        fun v' w38 r38 u38 f38 => ?_
      · intro j u hj
        match j, hj with
        | 0, hj => cases hj; exact h36.cell rfl
      have u38 : Upd (InRow (.slice p i c)) w36 w38 := u38
      have u038 : Upd No w w38 := (u023.trans u36 fun _ _ => id).trans u38 fun k hk e => by have := hge k e; omega
      have hz := u023.size
      obtain ⟨pn, nn, cn, rfl, hnl, hcc, _⟩ := r38.shape
      have hnn : nn = i + 1 := by
        rw [List.length_append, hlen, Nat.mul_one, List.length_singleton] at hnl
        omega
      subst hnn
      have htk : (cut40 imps).take (i + 1) = (cut40 imps).take i ++ [imps[i].take 40] := by
        rw [List.take_succ_eq_append_getElem (by omega)]
        simp [cut40]
      refine ⟨_, _, _, rfl, u038, u038, rfl, hcc, ⟨_, r38, by rw [htk]; simp [hlen]; omega, fun j hj' => ?_⟩, fun k hk => ?_⟩
      · have hcj : ∀ (M : List (List ByteArray)) (e : M = (cut40 imps).take i ++ [imps[i].take 40]) (h : j < M.length), ∃ p c, (hds ++ [.slice p' (min imps[i].length 40) c'])[j]? = some (.slice p M[j].length c) ∧ StrsAt w p M[j] ∧ M[j].length ≤ 1000000 := by
          intro M e h
          subst e
          by_cases hji : j < i
          · obtain ⟨p1, c1, e1, e2, e3⟩ := hj j (by omega)
            have hg : ((cut40 imps).take i ++ [imps[i].take 40])[j] = ((cut40 imps).take i)[j]'(by omega) := List.getElem_append_left (by omega)
            refine ⟨p1, c1, ?_, ?_, ?_⟩
            · rw [List.getElem?_append_left (by omega), e1, hg]
            · rw [hg]; exact e2
            · rw [hg]; exact e3
          · have hji : j = i := by simp [hli] at h; omega
            subst hji
            have hg : ((cut40 imps).take j ++ [imps[j].take 40])[j] = imps[j].take 40 := by
              rw [List.getElem_append_right (by omega)]; simp
            refine ⟨p', c', ?_, ?_, ?_⟩
            · rw [List.getElem?_append_right (by omega), hg, List.length_take, Nat.min_comm]; simp [hlen]
            · rw [hg]; exact strsAt_take hs 40
            · rw [hg, List.length_take]; omega
        exact hcj _ htk hj'
      · rcases f38 k hk with h | h
        · exact hge k h
        · omega
  · refine brC_intro (fun hlt => ?_) fun hge2 => ?_
    · have hlt : i < imps.length := by simpa using hlt
      refine brC_intro (fun h40 => ?_) fun h40 => ?_
      · have h40 : (i : Int) < 40 := by simpa using h40
        exact ⟨by omega, hlt, rfl⟩
      · have h40 : ¬ (i : Int) < 40 := by simpa using h40
        obtain ⟨e1, e2⟩ := hend (by omega)
        rw [e1] at hrow
        exact ⟨u12, e2, hqc, hrow⟩
    · have : ¬ ((i : Int) < (imps.length : Int)) := by simpa using hge2
      obtain ⟨e1, e2⟩ := hend (by omega)
      rw [e1] at hrow
      exact ⟨u12, e2, hqc, hrow⟩
end Go.Proofs.Ytkacocaekffdgaa
