/- GraphTurned: the walk. -/
import Derived.Test.YtkacocaekffdgaaG14
namespace Go.Proofs.Ytkacocaekffdgaa
open Go.SX

/-! ### the same graph, its paths turned -/
theorem uniq_congr {ps qs : List ByteArray} (h : ∀ x, x ∈ ps ↔ x ∈ qs) (l : List ByteArray) : uniq ps l = uniq qs l := by
  unfold uniq
  congr 1
  funext acc q
  unfold uniqF
  by_cases hq : q ∈ ps
  · have hq' := (h q).1 hq; simp [hq, hq']
  · have hq' := mt (h q).2 hq; simp [hq, hq']
theorem assoc_cons (p : ByteArray) (ps : List ByteArray) (l : List ByteArray) (ls : List (List ByteArray)) (x : ByteArray) : assoc (p :: ps) (l :: ls) x = if p = x then l else assoc ps ls x := rfl
theorem assoc_append : ∀ {A : List ByteArray} {LA : List (List ByteArray)} {B : List ByteArray} {LB : List (List ByteArray)} {x : ByteArray}, A.length = LA.length → assoc (A ++ B) (LA ++ LB) x = if x ∈ A then assoc A LA x else assoc B LB x
  | [], [], B, LB, x, _ => by simp
  | a :: A, l :: LA, B, LB, x, h => by
    rw [List.cons_append, List.cons_append, assoc_cons, assoc_cons]
    by_cases e : a = x
    · rw [if_pos e, if_pos e, if_pos (by simp [e])]
    · rw [if_neg e, if_neg e, assoc_append (by simpa using h)]
      have : (x ∈ a :: A) ↔ x ∈ A := by simp [Ne.symm e]
      by_cases hx : x ∈ A
      · rw [if_pos hx, if_pos (this.2 hx)]
      · rw [if_neg hx, if_neg (fun e => hx (this.1 e))]
theorem turn_mem {P : List ByteArray} {k : Nat} (x : ByteArray) : x ∈ P.drop k ++ P.take k ↔ x ∈ P := by
  rw [List.mem_append, Or.comm, ← List.mem_append, List.take_append_drop]
theorem turn_perm (P : List ByteArray) (k : Nat) : (P.drop k ++ P.take k).Perm P := by
  have := List.perm_append_comm (l₁ := P.drop k) (l₂ := P.take k)
  rwa [List.take_append_drop] at this
theorem adj_turn {P : List ByteArray} {I : List (List ByteArray)} (hn : P.Nodup) (hl : P.length = I.length) (k : Nat) : adjOf (P.drop k ++ P.take k) (I.drop k ++ I.take k) = adjOf P I := by
  funext x
  unfold adjOf
  have hu : uniq (P.drop k ++ P.take k) = uniq P := funext fun l => uniq_congr turn_mem l
  rw [hu]
  generalize hL : I.map (uniq P) = L
  have hl' : P.length = L.length := by rw [← hL]; simpa using hl
  have e1 : (I.drop k ++ I.take k).map (uniq P) = L.drop k ++ L.take k := by rw [← hL]; simp
  rw [e1, assoc_append (by simp [hl'])]
  have e2 : assoc P L x = assoc (P.take k ++ P.drop k) (L.take k ++ L.drop k) x := by rw [List.take_append_drop, List.take_append_drop]
  rw [e2, assoc_append (by simp [hl'])]
  have hd : ∀ y, y ∈ P.take k → y ∉ P.drop k := fun y h1 h2 => by
    have : (P.take k ++ P.drop k).Nodup := by rwa [List.take_append_drop]
    exact (List.nodup_append.1 this).2.2 y h1 y h2 rfl
  by_cases h1 : x ∈ P.drop k
  · rw [if_pos h1, if_neg (fun h => hd x h h1)]
  · rw [if_neg h1]
    split
    · rfl
    · rename_i h2
      rw [assoc_out h1, assoc_out h2]
theorem order_turn {P : List ByteArray} (adj : ByteArray → List ByteArray) (k : Nat) : orderOf (P.drop k ++ P.take k) adj = orderOf P adj := by
  unfold orderOf
  have h := turn_perm P k
  rw [sortB_perm (h.filter _), (h.filter fun p => !cyc adj p).length_eq, place_perm _ (h.filter _)]

/-! ### parts of lists in memory -/
theorem add_add (a : Addr) (k j : Nat) : (a.add k).add j = a.add (k + j) := by
  unfold Addr.add
  by_cases hk : k = 0
  · subst hk; simp
  · by_cases hj : j = 0
    · subst hj; simp [hk]
    · rw [if_neg hj, if_neg hk, if_neg (by omega)]
      simp [Nat.add_assoc]
theorem strsAt_drop {w : World} {x0 : Option Addr} {P : List ByteArray} (h : StrsAt w x0 P) {c k : Nat} (hk : k < P.length) (hc : P.length ≤ c) : StrsAt w (subP x0 c k 1) (P.drop k) := fun i hi => by
  have hi' : k + i < P.length := by rw [List.length_drop] at hi; omega
  obtain ⟨a, rfl, ha⟩ := h (k + i) hi'
  refine ⟨a.add (k * 1), ?_, ?_⟩
  · unfold subP; rw [if_neg (by omega)]; rfl
  · rw [Nat.mul_one, Nat.mul_one, add_add]
    rw [Nat.mul_one] at ha
    rw [ha]; simp
theorem strsAt_news {w : World} {p : Option Addr} {l : List ByteArray} (h : StrsAt w p l) : ∀ j u, (strs l)[j]? = some u → ∃ a : Addr, p = some a ∧ w.cell? (a.add j) = some u := fun j u hj => by
  have hj' : j < l.length := by
    rcases Nat.lt_or_ge j l.length with h | h
    · exact h
    · rw [List.getElem?_eq_none (by simpa [strs] using h)] at hj; cases hj
  obtain ⟨a, e, ha⟩ := h j hj'
  rw [Nat.mul_one] at ha
  refine ⟨a, e, ?_⟩
  rw [ha, ← hj]
  simp [strs, hj']
theorem rowAt_news {w : World} {e : TypeId} {p : Option Addr} {n c : Nat} {xs : List Value} (h : RowAt w e 1 (.slice p n c) xs) : ∀ j u, xs[j]? = some u → ∃ a : Addr, p = some a ∧ w.cell? (a.add j) = some u := fun j u hj => by
  have hj' : j < xs.length := (List.getElem?_eq_some_iff.1 hj).1
  obtain ⟨g, o, rfl, hc⟩ := h.get hj'
  exact ⟨_, rfl, by rw [add_mk, hc, hj]⟩
theorem strs_one {l : List ByteArray} : ∀ u ∈ strs l, u.oneCell' = true := fun u hu => by
  obtain ⟨s, _, rfl⟩ := List.mem_map.1 hu
  rfl

set_option maxRecDepth 4000 in
theorem turned_spec {w : World} {x0 x1 : Option Addr} {ps : List ByteArray} {imps : List (List ByteArray)} (hP0 : StrsAt w x0 ps) (hI0 : ImpsIn w x1 imps) (c0 c1 : Nat) (h0 : ps.length ≤ c0) (hsz : ∀ p ∈ ps, p.size ≤ maxLen) (t : Nat) (ht : t ≤ 255) :
    callC Try.prog 6 #[.slice x0 ps.length c0, .slice x1 imps.length c1, .int .u8 t] w fun v w' => v = .bool true ∧ Upd No w w' := by
  refine lturned _ _ _ _ _ _ _ _ _ (callC_of (works_spec w) fun v w1 ⟨hv, u1⟩ => ⟨_, hv, brC_ff rfl ?_⟩)
  have hI1 : ImpsIn w1 x1 imps := fun i hi => by
    obtain ⟨a, p, c, e, hc, hs, hl⟩ := hI0 i hi
    exact ⟨a, p, c, e, cell_keep hc u1, hs.keep u1, hl⟩
  refine callC_of (cut_spec (hP0.keep u1) hI1 c0 c1 h0) fun v w4 ⟨u4, p8, k9, k10, hv, hk9, hk9c, hrow⟩ => ⟨_, _, _, _, _, _, hv, ?_⟩
  have hP1 : StrsAt w1 x0 (ps.take 40) := strsAt_take (hP0.keep u1) 40
  have hI4 := impsAt_row hrow u4
  have hlenP : (ps.take 40).length = min ps.length 40 := by rw [List.length_take, Nat.min_comm]
  have hszP : ∀ p ∈ ps.take 40, p.size ≤ maxLen := fun p hp => hsz p (List.mem_of_mem_take hp)
  generalize hPd : ps.take 40 = P at hP1 hlenP hszP
  generalize hId : cut40 imps = I at hrow hk9 hI4
  subst hk9
  rw [← hlenP]
  have hP40 : P.length ≤ 40 := by omega
  have hPc : P.length ≤ c0 := by omega
  refine callC_of (new_spec (hP1.keep u4) hI4 (by omega) c0 k10) fun v w12 ⟨u12, h⟩ => ?_
  have u012 : Upd No w w12 := (u1.trans u4 fun _ _ => id).trans u12 fun _ _ => id
  rcases h with ⟨hv, _⟩ | ⟨g, m, f, hv, hPI, hN, G⟩
  · exact ⟨_, hv, fun _ => False, fun _ h => h.elim, fun b w' => b = true ∧ w12 = w', fun b w' ⟨hb, e⟩ d => brC_tt hb ⟨rfl, e ▸ u012⟩, brC_tt rfl ⟨rfl, rfl⟩⟩
  refine ⟨_, hv, ?_⟩
  rcases Nat.eq_zero_or_pos P.length with hz | hpos
  · exact ⟨fun _ => False, fun _ h => h.elim, fun b w' => b = true ∧ w12 = w', fun b w' ⟨hb, e⟩ d => brC_tt hb ⟨rfl, e ▸ u012⟩, brC_ff rfl ⟨by rw [hz]; rfl, rfl⟩⟩
  refine ⟨(w12 = ·), ?_, fun b w' => b = false ∧ w12 = w', fun b w' ⟨hb, e⟩ d => brC_ff hb e, brC_ff rfl ⟨by simpa using List.ne_nil_of_length_pos hpos, rfl⟩⟩
  rintro w15 rfl d
  refine brC_tt (by simpa using List.ne_nil_of_length_pos hpos) ?_
  have ek : Int.tmod (IntKind.wrap .i64 (t : Int)) (P.length : Int) = ((t % P.length : Nat) : Int) := by
    rw [Go.SX.wrap_small (by omega) (by omega), tmod_nat]
  rw [ek]
  have hk : t % P.length < P.length := Nat.mod_lt _ hpos
  generalize t % P.length = k at hk
  rw [Int.toNat_natCast, Int.toNat_natCast, Int.toNat_natCast, Nat.sub_zero, Nat.sub_zero, Nat.sub_zero, subP_zero, subP_zero]
  obtain ⟨io, hi1, hi2, hi3, hi4⟩ := info_get (P := Try.prog) (e := 9) (s := 1) (b := 16) (z := .string ByteArray.empty) (by kernel_rfl)
  obtain ⟨io2, hj1, hj2, hj3, hj4⟩ := info_get (P := Try.prog) (e := 22) (s := 1) (b := 24) (z := .slice none 0 0) (by kernel_rfl)
  have u112 : Upd No w1 w12 := u4.trans u12 fun _ _ => id
  have hP12 := hP1.keep u112
  -- the paths
  refine ⟨by omega, by omega, by omega, append_slice (P := Try.prog) (e := 9) (news := strs (P.drop k)) Try.underlying22 hi1 hi2 hi3 hi4 rfl (RowAt.nil w12 9 1) (n := 0) rfl _ _ _ (by omega) (by rw [strs_len, List.length_drop, Nat.mul_one])
    (strsAt_news (strsAt_drop hP12 hk hPc)) strs_one (by simp only [maxLen]; omega) (by omega) fun v' w18 r18 u18 f18 => ?_⟩
  have u18 : Upd No w12 w18 := u18.mono fun x _ h => by cases h
  have g18 : ∀ b, InRow v' b → w12.heap.size ≤ b := fun b hb => (f18 b hb).elim (fun h => by cases h) id
  obtain ⟨p19, k20, k21, rfl, _⟩ := r18.shape
  rw [List.nil_append] at r18
  have hk20 := rowAt_len r18
  refine ⟨_, _, _, rfl, by omega, by omega, by omega, append_slice (P := Try.prog) (e := 9) (news := strs (P.take k)) Try.underlying22 hi1 hi2 hi3 hi4 rfl r18 (n := (P.drop k).length) (by rw [strs_len, Nat.mul_one]) _ _ _ (by omega) (by rw [strs_len, List.length_take, Nat.mul_one]; omega)
    (strsAt_news (strsAt_take (hP12.keep u18) k)) strs_one (by simp only [maxLen, List.length_drop]; omega) (by rw [List.length_drop]; omega) fun v' w23 r23 u23 f23 => ?_⟩
  have u23 : Upd No w12 w23 := u18.trans u23 fun b hb h => by have := g18 b h; omega
  have g23 : ∀ b, InRow v' b → w12.heap.size ≤ b := fun b hb => (f23 b hb).elim (g18 b) fun h => Nat.le_trans u18.size h
  obtain ⟨p24, k25, k26, rfl, _⟩ := r23.shape
  have es : strs (P.drop k) ++ strs (P.take k) = strs (P.drop k ++ P.take k) := by simp [strs]
  rw [es] at r23
  have hk25 := rowAt_len r23
  -- the imports
  obtain ⟨hds, hr, hhl, hj⟩ := hrow
  have hr12 := hr.upd u12 fun _ _ => id
  have hkI : k < I.length := by omega
  have hone : ∀ u ∈ hds, u.oneCell' = true := fun u hu => by
    obtain ⟨j, hj', rfl⟩ := List.mem_iff_getElem.1 hu
    obtain ⟨p, c, e, _⟩ := hj j (by omega)
    rw [List.getElem?_eq_getElem hj'] at e
    rw [Option.some.inj e]; rfl
  refine ⟨_, _, _, rfl, by omega, by omega, by omega, ?_⟩
  have hcut := (hr12.upd u23 fun _ _ => id).cut (lo := k) (hi := I.length) (by omega) (Nat.le_refl _)
  rw [Nat.mul_one, Nat.mul_one, List.take_of_length_le (by rw [List.length_drop]; omega)] at hcut
  refine append_slice (P := Try.prog) (e := 22) (news := hds.drop k) Try.underlying23 hj1 hj2 hj3 hj4 rfl (RowAt.nil w23 22 1) (n := 0) rfl _ _ _ (by omega) (by rw [List.length_drop, hhl, Nat.mul_one])
    (rowAt_news hcut) (fun u hu => hone u (List.mem_of_mem_drop hu)) (by simp only [maxLen]; omega) (by omega) fun v' w28 r28 u28 f28 => ?_
  have u28 : Upd No w23 w28 := u28.mono fun x _ h => by cases h
  have g28 : ∀ b, InRow v' b → w23.heap.size ≤ b := fun b hb => (f28 b hb).elim (fun h => by cases h) id
  obtain ⟨p29, k30, k31, rfl, hk30, _⟩ := r28.shape
  rw [List.nil_append] at r28 hk30
  have hcut2 := ((hr12.upd u23 fun _ _ => id).upd u28 fun _ _ => id).cut (lo := 0) (hi := k) (by omega) (by omega)
  rw [Nat.zero_mul, List.drop_zero, subP_zero, Nat.sub_zero, Nat.sub_zero, Nat.mul_one] at hcut2
  refine ⟨_, _, _, rfl, by omega, by omega, by omega, append_slice (P := Try.prog) (e := 22) (news := hds.take k) Try.underlying23 hj1 hj2 hj3 hj4 rfl r28 (n := (hds.drop k).length) (by rw [Nat.mul_one]) _ _ _ (by omega) (by rw [List.length_take, Nat.mul_one]; omega)
    (rowAt_news hcut2) (fun u hu => hone u (List.mem_of_mem_take hu)) (by simp only [maxLen, List.length_drop]; omega) (by rw [List.length_drop]; omega) fun v' w33 r33 u33 f33 => ?_⟩
  have u33' : Upd No w23 w33 := u28.trans u33 fun b hb h => by have := g28 b h; omega
  obtain ⟨p34, k35, k36, rfl, hk35, _⟩ := r33.shape
  have hIm : ImpsRow w1 w33 (.slice p34 k35 k36) (I.drop k ++ I.take k) := by
    refine ⟨_, r33, by simp [hhl], fun j hj' => ?_⟩
    have hj2 : j < I.length := by simp at hj'; omega
    have key : ∀ i, (hi : i < I.length) → (hds.drop k ++ hds.take k)[j]? = hds[i]? → (I.drop k ++ I.take k)[j] = I[i] → ∃ p c, (hds.drop k ++ hds.take k)[j]? = some (.slice p (I.drop k ++ I.take k)[j].length c) ∧ StrsAt w1 p (I.drop k ++ I.take k)[j] ∧ (I.drop k ++ I.take k)[j].length ≤ 1000000 := by
      intro i hi e1 e2
      obtain ⟨p, c, h1, h2, h3⟩ := hj i hi
      rw [e1, e2]
      exact ⟨p, c, h1, h2, h3⟩
    by_cases hjk : j < I.length - k
    · refine key (k + j) (by omega) ?_ ?_
      · rw [List.getElem?_append_left (by rw [List.length_drop]; omega), List.getElem?_drop]
      · rw [List.getElem_append_left (by rw [List.length_drop]; omega), List.getElem_drop]
    · refine key (j - (I.length - k)) (by omega) ?_ ?_
      · rw [List.getElem?_append_right (by rw [List.length_drop]; omega), List.length_drop, hhl, List.getElem?_take_of_lt (by omega)]
      · rw [List.getElem_append_right (by rw [List.length_drop]; omega), List.getElem_take]
        simp only [List.length_drop]
  have u133 : Upd No w1 w33 := (u112.trans u23 fun _ _ => id).trans u33' fun _ _ => id
  have hI33 := impsAt_row hIm u133
  have hP33 := (StrsAt.of_row r23).keep u33'
  have hk35' : k35 = (I.drop k ++ I.take k).length := by
    rw [List.length_append, List.length_drop, List.length_take, hhl, Nat.mul_one] at hk35
    rw [List.length_append, List.length_drop, List.length_take]; omega
  subst hk35'
  subst hk25
  have hN' : (P.drop k ++ P.take k).Nodup := (turn_perm P k).nodup_iff.2 hN
  have hlT : (P.drop k ++ P.take k).length = P.length := (turn_perm P k).length_eq
  refine ⟨_, _, _, rfl, callC_of (new_spec hP33 hI33 (by omega) k26 k36) fun v w38 ⟨u38, h⟩ => ?_⟩
  rcases h with ⟨_, h⟩ | ⟨g', m', f', hv', _, _, G'⟩
  · refine (h ⟨?_, hN'⟩).elim
    simp only [List.length_append, List.length_drop, List.length_take]; omega
  rw [adj_turn hN hPI k] at G'
  have u1238 : Upd No w12 w38 := (u23.trans u33' fun _ _ => id).trans u38 fun _ _ => id
  have G38 := G.keep u1238
  have hP38 := hP12.keep u1238
  generalize hAd : adjOf P I = A at G38 G'
  have u038 : Upd No w w38 := u012.trans u1238 fun _ _ => id
  have hszT : ∀ p ∈ P.drop k ++ P.take k, p.size ≤ maxLen := fun p hp => hszP p ((turn_mem p).1 hp)
  clear hI33 hP33 hIm r33 r28 r23 r18 hcut hcut2 hr12 hr hI4
  refine ⟨_, hv', (Upd No w38 ·), ?_, fun b w' => b = false ∧ Upd No w38 w', fun b w90 ⟨hb, u⟩ d => brC_ff hb u, brC_ff rfl ?_⟩
  · intro w41 u41 d
    refine ⟨fun n w' => ∃ i : Nat, n = i ∧ i ≤ P.length ∧ Upd No w38 w', fun n _ => (P.length - n).toNat, ⟨0, rfl, Nat.zero_le _, u41⟩, ?_⟩
    rintro n45 w46 ⟨i, rfl, hi, u46⟩ d
    refine brC_intro (fun hlt => ?_) fun hge => ⟨rfl, u038.trans u46 fun _ _ => id⟩
    have hlt : i < P.length := by simpa using hlt
    refine ⟨(Upd No w38 ·), fun w49 u49 d => ?_, fun b w' => b = false ∧ Upd No w38 w', fun b w53 ⟨hb, u⟩ d => brC_ff hb u, drawC_mk fun w55 u55 s55 => ⟨(Upd No w38 ·), ?_⟩⟩
    · have hw : IntKind.wrap .i64 ((i : Int) + 1) = ((i + 1 : Nat) : Int) := Go.SX.wrap_small (by omega) (by omega)
      rw [hw]
      exact ⟨⟨i + 1, rfl, hlt, u49⟩, by dsimp only; omega⟩
    have u55 : Upd No w38 w55 := u46.trans u55 fun _ _ => id
    have hAt : ∀ w', Upd No w38 w' → ∃ a, x0 = some a ∧ w'.cell? (Addr.add a (Int.toNat (i : Int) * 1)) = some (.string P[i]) := fun w' u => by
      rw [Int.toNat_natCast]; exact hP38.keep u i hlt
    generalize P[i] = p at hAt
    obtain ⟨a, rfl, ha⟩ := hAt w55 u55
    have hL : ∀ w', Upd No w38 w' → Lds Try.prog 9 w' (Addr.add a (Int.toNat (i : Int) * 1)) (.string p) := fun w' u => lds_str (by obtain ⟨_, e, h⟩ := hAt w' u; cases e; exact h)
    refine ⟨by omega, by omega, ptrC_some ⟨_, ha, hL, by omega, by omega, ptrC_some ⟨_, ha, hL, callC_of (cyclic_spec (G38.keep u55) p) fun v w64 ⟨b, hv, hb, u64⟩ => ⟨b, hv, u55.trans u64 fun _ _ => id, ?_, trivial⟩, trivial⟩⟩⟩
    have u64 : Upd No w38 w64 := u55.trans u64 fun _ _ => id
    refine callC_of (cyclic_spec (G'.keep u64) p) fun v w67 ⟨b', hv, hb', u67⟩ => ⟨b', hv, u64.trans u67 fun _ _ => id, ?_⟩
    have u67 : Upd No w38 w67 := u64.trans u67 fun _ _ => id
    have ebb : b = b' := by rw [Bool.eq_iff_iff, hb, hb']
    subst ebb
    refine brC_ff (by cases b <;> rfl) ?_
    obtain ⟨_, e, ha⟩ := hAt w67 u67
    cases e
    refine ⟨by omega, by omega, ptrC_some ⟨_, ha, hL, by omega, by omega, ptrC_some ⟨_, ha, hL, callC_of (above_spec (G38.keep u67) (by omega) hszP p) fun v w76 ⟨hA1, u76, _⟩ => ?_, trivial⟩⟩⟩
    have u76 : Upd No w38 w76 := u67.trans u76 fun _ _ => id
    obtain ⟨p77, k78, k79, rfl, _⟩ := hA1.shape
    refine ⟨_, _, _, rfl, u76, callC_of (above_spec (G'.keep u76) (by omega) hszT p) fun v w81 ⟨hA2, u81, _⟩ => ?_, trivial⟩
    have hA1 := hA1.upd u81 fun _ _ => id
    have u81 : Upd No w38 w81 := u76.trans u81 fun _ _ => id
    obtain ⟨p82, k83, k84, rfl, _⟩ := hA2.shape
    rw [sortB_perm ((turn_perm P k).filter _)] at hA2
    have e1 := rowAt_len hA1
    have e2 := rowAt_len hA2
    subst e1
    subst e2
    refine ⟨_, _, _, rfl, u81, callC_of (texts_spec (StrsAt.of_row hA1) (StrsAt.of_row hA2) (by rw [length_sortB]; exact Nat.le_trans (List.length_filter_le _ _) (by simp only [maxLen]; omega)) _ _) fun v w86 ⟨hv, u86⟩ => ⟨_, hv, u81.trans u86 fun _ _ => id, ?_, u81.trans u86 fun _ _ => id⟩, trivial⟩
    simp
  · refine callC_of (order_spec G' (by omega) hszT) fun v w93 ⟨hO1, u93, _⟩ => ?_
    obtain ⟨p94, k95, k96, rfl, _⟩ := hO1.shape
    refine ⟨_, _, _, rfl, callC_of (order_spec (G38.keep u93) (by omega) hszP) fun v w98 ⟨hO2, u98, _⟩ => ?_⟩
    obtain ⟨p99, k100, k101, rfl, _⟩ := hO2.shape
    have hO1 := hO1.upd u98 fun _ _ => id
    rw [order_turn] at hO1
    have e1 := rowAt_len hO1
    have e2 := rowAt_len hO2
    subst e1
    subst e2
    have hol := (order_perm A hN).length_eq
    refine ⟨_, _, _, rfl, callC_of (texts_spec (StrsAt.of_row hO1) (StrsAt.of_row hO2) (by simp only [maxLen]; omega) _ _) fun v w103 ⟨hv, u103⟩ => ⟨_, hv, ?_, (u93.trans u98 fun _ _ => id).trans u103 fun _ _ => id⟩⟩
    simp
end Go.Proofs.Ytkacocaekffdgaa
