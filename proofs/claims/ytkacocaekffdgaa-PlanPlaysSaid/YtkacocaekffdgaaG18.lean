/- The document's graph, made. -/
import Derived.Test.YtkacocaekffdgaaG17
namespace Go.Proofs.Ytkacocaekffdgaa
open Go.SX

/-- a text's number. -/
def num (ps : List ByteArray) (x : ByteArray) : Nat := (idxAt ps x 0).toNat
theorem idxAt_get {l : List ByteArray} {s : ByteArray} : ∀ {i : Nat}, s ∈ l → ∃ j : Nat, idxAt l s i = ((i + j : Nat) : Int) ∧ l[j]? = some s := by
  induction l with
  | nil => intro i h; cases h
  | cons x l ih =>
    intro i h
    rw [idxAt_cons]
    split
    · rename_i e; subst e; exact ⟨0, by simp, rfl⟩
    · rename_i e
      obtain ⟨j, h1, h2⟩ := ih (i := i + 1) ((List.mem_cons.1 h).resolve_left fun h => e h.symm)
      exact ⟨j + 1, by rw [h1]; omega, by simpa using h2⟩
theorem num_spec {ps : List ByteArray} {x : ByteArray} (h : x ∈ ps) : idxAt ps x 0 = (num ps x : Int) ∧ ps[num ps x]? = some x := by
  obtain ⟨j, h1, h2⟩ := idxAt_get (i := 0) h
  unfold num
  rw [h1]
  exact ⟨by simp, by simpa using h2⟩
theorem num_lt {ps : List ByteArray} {x : ByteArray} (h : x ∈ ps) : num ps x < ps.length := (List.getElem?_eq_some_iff.1 (num_spec h).2).1
theorem num_inj {ps : List ByteArray} {x y : ByteArray} (hx : x ∈ ps) (hy : y ∈ ps) (h : num ps x = num ps y) : x = y := by
  have h1 := (num_spec hx).2
  have h2 := (num_spec hy).2
  rw [h, h2] at h1
  exact (Option.some.inj h1).symm
theorem num_at {ps : List ByteArray} (hn : ps.Nodup) {i : Nat} (hi : i < ps.length) : num ps ps[i] = i := by
  have h := (num_spec (List.getElem_mem hi)).2
  obtain ⟨h1, h2⟩ := List.getElem?_eq_some_iff.1 h
  exact (List.getElem_inj hn).1 h2
/-- what a list of texts imports, by numbers. -/
def tosF (ps l : List ByteArray) : List Nat := (uniq ps l).map (num ps)

/-- block g is the document's graph. -/
structure RGraphAt (w : World) (g : Nat) (ps : List ByteArray) (tos : List (List Nat)) (vP vT : Value) : Prop where
  blk : Blk w g #[vP, vT] 64
  ps : RowAt w 9 1 vP (strs ps)
  to : ∃ hds, RowAt w 66 1 vT hds ∧ hds.length = tos.length ∧ ∀ j, (h : j < tos.length) → ∃ v, hds[j]? = some v ∧ RowAt w 3 1 v (ints tos[j])
theorem rGraphAt_keep {w w' : World} {g : Nat} {ps : List ByteArray} {tos : List (List Nat)} {vP vT : Value} (h : RGraphAt w g ps tos vP vT) (u : Upd No w w') : RGraphAt w' g ps tos vP vT := by
  obtain ⟨hds, h1, h2, h3⟩ := h.to
  refine ⟨h.blk.upd u id, h.ps.upd u fun _ _ => id, hds, h1.upd u fun _ _ => id, h2, fun j hj => ?_⟩
  obtain ⟨v, e, hr⟩ := h3 j hj
  exact ⟨v, e, hr.upd u fun _ _ => id⟩

/-- one that is made: W is the world ahead. -/
structure RPart (W w : World) (k0 i : Nat) (ps : List ByteArray) (tos : List (List Nat)) (vP vT : Value) (hds : List Value) : Prop where
  blk : Blk w k0 #[vP, vT] 64
  ps : RowAt w 9 1 vP (strs ps)
  to : RowAt w 66 1 vT hds
  len : hds.length = i
  each : ∀ j, (h : j < i) → ∃ v l, hds[j]? = some v ∧ tos[j]? = some l ∧ RowAt w 3 1 v (ints l) ∧ ∀ b, InRow v b → ¬ InRow vT b ∧ b ≠ k0
  sep : ∀ b, InRow vP b → ¬ InRow vT b ∧ b ≠ k0
  newT : ∀ b, InRow vT b → W.heap.size ≤ b ∧ b ≠ k0
theorem rPart_upd {W w w' : World} {k0 i : Nat} {ps : List ByteArray} {tos : List (List Nat)} {vP vT : Value} {hds : List Value} (h : RPart W w k0 i ps tos vP vT hds) {S : Nat → Prop} (u : Upd S w w') (hS : ∀ b, b < w.heap.size → ¬ S b) : RPart W w' k0 i ps tos vP vT hds := by
  have u : Upd No w w' := u.mono fun x hx h => (hS x hx h).elim
  refine ⟨h.blk.upd u id, h.ps.upd u fun _ _ => id, h.to.upd u fun _ _ => id, h.len, fun j hj => ?_, h.sep, h.newT⟩
  obtain ⟨v, l, e1, e2, hr, hs⟩ := h.each j hj
  exact ⟨v, l, e1, e2, hr.upd u fun _ _ => id, hs⟩

theorem rnew_spec {w : World} {x0 x1 : Option Addr} {ps : List ByteArray} {imps : List (List ByteArray)} (hP : StrsAt w x0 ps) (hI : ImpsAt w x1 imps) (hl : ps.length ≤ 1000000) (c0 c1 : Nat) :
    callC Try.prog 13 #[.slice x0 ps.length c0, .slice x1 imps.length c1] w fun v w' => Upd No w w' ∧
      ((v = .pointer none ∧ ¬ (ps.length = imps.length ∧ ps.Nodup)) ∨ ∃ g vP vT, v = .pointer (some ⟨g, 0, none⟩) ∧ ps.length = imps.length ∧ ps.Nodup ∧ RGraphAt w' g ps (imps.map (tosF ps)) vP vT) := by
  obtain ⟨io, hi1, hi2, hi3, hi4⟩ := info_get (P := Try.prog) (e := 9) (s := 1) (b := 16) (z := .string ByteArray.empty) (by kernel_rfl)
  obtain ⟨io2, hj1, hj2, hj3, hj4⟩ := info_get (P := Try.prog) (e := 3) (s := 1) (b := 8) (z := .int .i64 0) (by kernel_rfl)
  obtain ⟨io3, hk1, hk2, hk3, hk4⟩ := info_get (P := Try.prog) (e := 66) (s := 1) (b := 24) (z := .slice none 0 0) (by kernel_rfl)
  refine rnew _ _ _ _ _ _ _ _ (brC_intro (fun hne => ?_) fun heq => ?_)
  · exact ⟨Upd.refl _ _, .inl ⟨rfl, fun h => by rw [h.1] at hne; simp at hne⟩⟩
  have heq : ps.length = imps.length := by
    have : ¬ ((ps.length : Int) ≠ imps.length) := by simpa using heq
    omega
  refine newC_mk fun w1 h1 u1 s1 => ?_
  generalize hk0 : w.heap.size = k0 at h1 s1 ⊢
  -- the paths
  refine ⟨fun n w' => ∃ (i : Nat) (vP : Value), n = i ∧ i ≤ ps.length ∧ Blk w' k0 #[vP, .slice none 0 0] 64 ∧ RowAt w' 9 1 vP (strs (ps.take i)) ∧ (ps.take i).Nodup ∧ (∀ b, InRow vP b → k0 < b) ∧ Upd No w w' ∧ k0 < w'.heap.size, fun n _ => (ps.length - n).toNat,
    ⟨0, _, rfl, Nat.zero_le _, h1, RowAt.nil _ _ _, by simp, fun b hb => (by cases hb), u1, by omega⟩, ?_⟩
  rintro n4 w5 ⟨i, vP, rfl, hi, B5, R5, N5, g5, u5, z5⟩ d
  refine brC_intro (fun hlt => ?_) fun hge => ?_
  · have hlt : i < ps.length := by have := of_decide_eq_true hlt; omega
    refine ⟨fun w' => ∃ vP, Blk w' k0 #[vP, .slice none 0 0] 64 ∧ RowAt w' 9 1 vP (strs (ps.take (i + 1))) ∧ (ps.take (i + 1)).Nodup ∧ (∀ b, InRow vP b → k0 < b) ∧ Upd No w w' ∧ k0 < w'.heap.size, ?_, ?_⟩
    · rintro w8 ⟨vP, B, R, N, g, u, z⟩ d
      have hw : IntKind.wrap .i64 ((i : Int) + 1) = ((i + 1 : Nat) : Int) := Go.SX.wrap_small (by omega) (by omega)
      rw [hw]
      exact ⟨⟨i + 1, vP, rfl, hlt, B, R, N, g, u, z⟩, by dsimp only; omega⟩
    have hAt : ∀ w', Upd No w w' → ∃ a, x0 = some a ∧ w'.cell? (Addr.add a (Int.toNat (i : Int) * 1)) = some (.string ps[i]) := fun w' u => by
      rw [Int.toNat_natCast]; exact hP.keep u i hlt
    have htake : ps.take (i + 1) = ps.take i ++ [ps[i]] := List.take_succ_eq_append_getElem hlt
    generalize ps[i] = x at hAt htake
    obtain ⟨a, rfl, ha⟩ := hAt w5 u5
    obtain ⟨p, n, c, rfl, _⟩ := R5.shape
    have hn := rowAt_len R5
    subst hn
    have hlt5 : (ps.take i).length ≤ 1000000 := by rw [List.length_take]; omega
    refine ⟨by omega, by omega, ptrC_some ⟨_, ha, callC_of (number_spec (B5.cell rfl) (StrsAt.of_row R5) hlt5 x) fun v w13 ⟨hv, e⟩ => ⟨_, hv, ?_⟩⟩⟩
    subst e
    refine brC_intro (fun hin => ?_) fun hout => ?_
    · have hin := (idxAt_mem _ _ 0).1 (of_decide_eq_true hin)
      refine ⟨u5, .inl ⟨rfl, fun h => ?_⟩⟩
      have : (ps.take (i + 1)).Nodup := h.2.sublist (List.take_sublist _ _)
      rw [htake, List.nodup_append] at this
      exact this.2.2 x hin x (by simp) rfl
    · have hout : x ∉ ps.take i := fun h => by
        have h1 := (idxAt_mem _ _ 0).2 h
        have h2 := of_decide_eq_false hout
        omega
      refine drawC_mk fun w15 u15 s15 => ?_
      have B15 := B5.upd u15 id
      have u015 : Upd No w w15 := u5.trans u15 fun _ _ => id
      obtain ⟨_, e, ha15⟩ := hAt w15 u015
      cases e
      refine ⟨fun w' => w'.cell? ⟨k0, 0, none⟩ = some (.slice p (ps.take i).length c) ∧ Upd No w w', _, _, _, B15.cell rfl, fun w' h => lds_slice22 h.1, by omega, by omega, ptrC_some ⟨_, ha15, fun w' h => lds_str (by obtain ⟨_, e, h⟩ := hAt w' h.2; cases e; exact h), ?_, trivial⟩⟩
      refine newC_mk fun w25 h25 u25 s25 => ⟨⟨(B15.upd u25 id).cell rfl, u015.trans u25 fun _ _ => id⟩, ?_, trivial⟩
      have R25 := (R5.upd u15 fun _ _ => id).upd u25 fun _ _ => id
      refine append_row (P := Try.prog) (e := 9) (news := [.string x]) Try.underlying22 hi1 hi2 hi3 hi4 rfl R25 (n := (ps.take i).length) (by rw [strs_len, Nat.mul_one]) _ 1 1 (by omega) (by omega) rfl ?_ (by simp [Value.oneCell']) (by simp only [maxLen]; omega) (by omega)
        fun v' w27 r27 u27 f27 => ?_
      · intro j u hj
        match j, hj with
        | 0, hj => cases hj; exact h25.cell rfl
      have u27 : Upd (InRow (.slice p (ps.take i).length c)) w25 w27 := u27
      have u027 : Upd No w w27 := (u015.trans u25 fun _ _ => id).trans u27 fun b hb h => by have := g5 b h; omega
      have B27 := (B15.upd u25 id).upd u27 fun h => by have := g5 k0 h; omega
      obtain ⟨p28, n28, c28, rfl, _⟩ := r27.shape
      have hz := u27.size
      have hz2 := u25.size
      refine ⟨_, _, _, rfl, ⟨B27.cell rfl, u027⟩, stC_mk B27 (by simp) fun w31 h31 u31 s31 => ?_, trivial⟩
      have e2 : strs (ps.take i) ++ [Value.string x] = strs (ps.take (i + 1)) := by rw [htake]; simp [strs]
      rw [e2] at r27
      have g27 : ∀ b, InRow (.slice p28 n28 c28) b → k0 < b := fun b hb => (f27 b hb).elim (g5 b) fun h => by omega
      refine ⟨_, h31, r27.upd u31 fun b hb e => by have := g27 b hb; omega, ?_, g27, u027.trans u31 fun b hb e => by omega, by omega⟩
      rw [htake]
      exact List.nodup_append.2 ⟨N5, by simp, fun y hy b hb e => hout ((e.trans (List.mem_singleton.1 hb)) ▸ hy)⟩
  have : i = ps.length := by have := of_decide_eq_false hge; omega
  subst this
  rw [List.take_length] at R5 N5
  -- the imports
  have hz5 := u5.size
  refine ⟨fun n w' => ∃ (i : Nat) (vT : Value) (hds : List Value), n = i ∧ i ≤ ps.length ∧ RPart w w' k0 i ps (imps.map (tosF ps)) vP vT hds ∧ Upd No w w', fun n _ => (ps.length - n).toNat,
    ⟨0, _, [], rfl, Nat.zero_le _, ⟨B5, R5, RowAt.nil _ _ _, rfl, fun j hj => absurd hj (by omega), fun b hb => ⟨fun h => (by cases h), by have := g5 b hb; omega⟩, fun b hb => (by cases hb)⟩, u5⟩, ?_⟩
  clear B5 R5 h1
  rintro n34 w35 ⟨i, vT, hds, rfl, hi, P35, u35⟩ d
  refine brC_intro (fun hlt => ?_) fun hge2 => ?_
  · have hlt : i < ps.length := by have := of_decide_eq_true hlt; omega
    have hltI : i < imps.length := by omega
    obtain ⟨aI, pI, cI, rfl, hcI, hsI, hlI⟩ := hI i hltI
    have hcIat : ∀ w', Upd No w w' → w'.cell? (Addr.add aI (Int.toNat (i : Int) * 1)) = some (.slice pI imps[i].length cI) := fun w' u => by
      rw [Int.toNat_natCast]; exact cell_keep hcI u
    have hto : (imps.map (tosF ps))[i]? = some (tosF ps imps[i]) := by simp [hltI]
    generalize imps[i] = L at hcIat hsI hlI hto
    have hz35 := u35.size
    have hk035 := P35.blk.lt
    obtain ⟨pP, nP, cP, rfl, _⟩ := P35.ps.shape
    have hnP := rowAt_len P35.ps
    subst hnP
    refine ⟨fun p k c n w' => ∃ m : Nat, n = m ∧ m ≤ L.length ∧ RPart w w' k0 i ps (imps.map (tosF ps)) (.slice pP ps.length cP) vT hds ∧ RowAt w' 3 1 (.slice p k c) (ints (tosF ps (L.take m))) ∧ (∀ b, InRow (.slice p k c) b → w35.heap.size ≤ b) ∧ Upd No w35 w',
      fun _ _ _ n _ => (L.length - n).toNat, ⟨0, rfl, Nat.zero_le _, P35, RowAt.nil _ _ _, fun b hb => (by cases hb), Upd.refl _ _⟩, ?_⟩
    rintro p39 k40 k41 n42 w43 ⟨m, rfl, hm, P43, T43, g43, u43⟩ d
    have u043 : Upd No w w43 := u35.trans u43 fun _ _ => id
    have hk40 := rowInt_len T43
    have hz43 := u43.size
    have hbig : (tosF ps (L.take m)).length ≤ 1000000 := by
      unfold tosF; rw [List.length_map]
      have h1 := uniq_inv ps (L.take m)
      have := subset_length h1.1 fun x hx => ((h1.2 x).1 hx).1
      omega
    refine ⟨by omega, by omega, ptrC_some ⟨_, _, _, hcIat w43 u043, brC_intro (fun hlt2 => ?_) fun hge3 => ?_⟩⟩
    · have hlt2 : m < L.length := by have := of_decide_eq_true hlt2; omega
      have hw : IntKind.wrap .i64 ((m : Int) + 1) = ((m + 1 : Nat) : Int) := Go.SX.wrap_small (by omega) (by omega)
      have hstep := uniq_step (ps := ps) hlt2
      obtain ⟨aq, eq, hq⟩ := hsI.keep u043 m hlt2
      subst eq
      generalize L[m] = q at hstep hq
      have hcur := uniq_inv ps (L.take m)
      have etos : tosF ps (L.take (m + 1)) = (uniqF ps (uniq ps (L.take m)) q).map (num ps) := by unfold tosF; rw [hstep]
      have etos0 : tosF ps (L.take m) = (uniq ps (L.take m)).map (num ps) := rfl
      rw [etos0] at T43 hk40 hbig
      generalize uniq ps (L.take m) = cur at hcur etos T43 hk40 hbig
      refine ⟨fun p k c w' => RPart w w' k0 i ps (imps.map (tosF ps)) (.slice pP ps.length cP) vT hds ∧ RowAt w' 3 1 (.slice p k c) (ints (tosF ps (L.take (m + 1)))) ∧ (∀ b, InRow (.slice p k c) b → w35.heap.size ≤ b) ∧ Upd No w35 w', ?_, ?_⟩
      · rintro p k c w' ⟨P, T, g, u⟩ d
        rw [hw]
        exact ⟨⟨m + 1, rfl, hlt2, P, T, g, u⟩, by dsimp only; omega⟩
      refine ⟨by omega, by omega, ptrC_some ⟨_, _, _, hcIat w43 u043, by omega, by omega, ptrC_some ⟨_, by rw [Int.toNat_natCast]; exact hq, callC_of (number_spec (P43.blk.cell rfl) (StrsAt.of_row P43.ps) hl q) fun v w62 ⟨hv, e⟩ => ⟨_, hv, ?_⟩⟩⟩⟩
      subst e
      refine ⟨fun b w' => b = decide (q ∈ ps ∧ q ∉ cur) ∧ w43 = w', ?_, ?_⟩
      · rintro b w66 ⟨rfl, rfl⟩ d
        refine brC_intro (fun hadd => ?_) fun hno => ?_
        · have hadd : q ∈ ps ∧ q ∉ cur := by simpa using hadd
          have hnew : uniqF ps cur q = cur ++ [q] := if_pos hadd
          rw [(num_spec hadd.1).1]
          refine newC_mk fun w69 h69 u69 s69 => ?_
          refine append_row (P := Try.prog) (e := 3) (news := [.int .i64 (num ps q)]) Try.underlying66 hj1 hj2 hj3 hj4 rfl (T43.upd u69 fun _ _ => id) (n := k40) (by rw [ints_len, Nat.mul_one]; exact hk40.symm) _ 1 1 (by omega) (by omega) rfl ?_ (by simp [Value.oneCell']) (by simp only [maxLen]; omega) (by omega)
            fun v' w71 r71 u71 f71 => ?_
          · intro j u hj
            match j, hj with
            | 0, hj => cases hj; exact h69.cell rfl
          have u71 : Upd (InRow (.slice p39 k40 k41)) w69 w71 := u71
          have u4371 : Upd (fun b => w35.heap.size ≤ b) w43 w71 := (u69.no).trans u71 fun b hb h => g43 b h
          obtain ⟨p72, k73, k74, rfl, _⟩ := r71.shape
          have hz69 := u69.size
          refine ⟨_, _, _, rfl, ?_, ?_, fun b hb => (f71 b hb).elim (g43 b) fun h => by omega, u43.trans u4371 fun b hb h => by omega⟩
          · have hold : ∀ b, InRow (.slice pP ps.length cP) b → b < w35.heap.size := fun b hb => P35.ps.lt hb
            obtain ⟨q1, q2, q3, q4, q5, q6, q7⟩ := P43
            refine ⟨q1.upd u4371 (by omega), q2.upd u4371 fun b hb h => by have := hold b hb; omega, q3.upd u4371 fun b hb h => by have := P35.to.lt hb; omega, q4, fun j hj => ?_, q6, q7⟩
            obtain ⟨v, l, e1, e2, hr, hs⟩ := q5 j hj
            obtain ⟨v', l', e1', e2', hr', _⟩ := P35.each j hj
            rw [e1] at e1'
            cases e1'
            exact ⟨v, l, e1, e2, hr.upd u4371 fun b hb h => by have := hr'.lt hb; omega, hs⟩
          · rw [etos, hnew]
            have e2 : ints (cur.map (num ps)) ++ [Value.int .i64 (num ps q)] = ints ((cur ++ [q]).map (num ps)) := by simp [ints]
            rw [e2] at r71
            exact r71
        · have hno : ¬ (q ∈ ps ∧ q ∉ cur) := by simpa using hno
          have hnew : uniqF ps cur q = cur := if_neg hno
          rw [etos, hnew]
          exact ⟨P43, T43, g43, u43⟩
      · refine brC_intro (fun hin => ?_) fun hout => ?_
        · have hin : q ∈ ps := (idxAt_mem _ _ 0).1 (of_decide_eq_true hin)
          rw [(num_spec hin).1]
          subst hk40
          refine callC_of (has_spec (intsAt_row T43) (by simp only [maxLen]; omega) k41 _) fun v w76 ⟨⟨b, hv, hb⟩, e⟩ => ⟨b, hv, ?_, e⟩
          rw [Bool.eq_iff_iff, Bool.not_eq_true', decide_eq_true_eq, ← Bool.not_eq_true, hb]
          constructor
          · exact fun h => ⟨hin, fun hc => h ⟨num ps q, List.mem_map_of_mem hc, rfl⟩⟩
          · rintro ⟨_, h⟩ ⟨y, hy, e⟩
            obtain ⟨z, hz, rfl⟩ := List.mem_map.1 hy
            have : z = q := num_inj ((hcur.2 z).1 hz).1 hin (by omega)
            exact h (this ▸ hz)
        · have hout : q ∉ ps := fun h => by
            have h1 := (idxAt_mem ps q 0).2 h
            have h2 := of_decide_eq_false hout
            omega
          exact ⟨by simp [hout], rfl⟩
    · have : m = L.length := by have := of_decide_eq_false hge3; omega
      subst this
      rw [List.take_length] at T43
      obtain ⟨pT, nT, cT, rfl, hlT, _⟩ := P43.to.shape
      rw [P43.len, Nat.mul_one] at hlT
      have hlT' := P43.len
      refine ⟨_, _, _, P43.blk.cell rfl, newC_mk fun w82 h82 u82 s82 => ?_⟩
      have P82 := rPart_upd P43 u82 fun _ _ => id
      refine append_row (P := Try.prog) (e := 66) (news := [.slice p39 k40 k41]) Try.underlying62 hk1 hk2 hk3 hk4 rfl P82.to (n := i) (by rw [hlT', Nat.mul_one]) _ 1 1 (by omega) (by omega) rfl ?_ (by simp [Value.oneCell']) (by simp only [maxLen]; omega) (by omega)
        fun v' w84 r84 u84 f84 => ?_
      · intro j u hj
        match j, hj with
        | 0, hj => cases hj; exact h82.cell rfl
      have u84 : Upd (InRow (.slice pT nT cT)) w82 w84 := u84
      obtain ⟨p85, k86, k87, rfl, _⟩ := r84.shape
      have B84 := P82.blk.upd u84 fun h => (P82.newT k0 h).2 rfl
      have hk082 := P82.blk.lt
      have hz82 := u82.size
      refine ⟨_, _, _, rfl, stC_mk B84 (by simp) fun w88 h88 u88 s88 => ?_⟩
      have u8288 : Upd (fun b => InRow (.slice pT nT cT) b ∨ b = k0) w82 w88 := (u84.mono fun b _ h => .inl h).trans u88 fun b hb h => .inr h
      have hwI : IntKind.wrap .i64 ((i : Int) + 1) = ((i + 1 : Nat) : Int) := Go.SX.wrap_small (by omega) (by omega)
      rw [hwI]
      refine ⟨⟨i + 1, _, hds ++ [.slice p39 k40 k41], rfl, hlt, ⟨h88, ?_, ?_, by simp [hlT'], fun j hj => ?_, fun b hb => ⟨fun h => ?_, (P82.sep b hb).2⟩, fun b hb => ?_⟩, ?_⟩, by dsimp only; omega⟩
      · exact P82.ps.upd u8288 fun b hb h => h.elim (P82.sep b hb).1 (P82.sep b hb).2
      · refine r84.upd u88 fun b hb h => ?_
        rcases f84 b hb with h' | h'
        · exact (P82.newT b h').2 h
        · omega
      · by_cases hji : j < i
        · obtain ⟨v, l, e1, e2, hr, hs⟩ := P82.each j hji
          refine ⟨v, l, by rw [List.getElem?_append_left (by omega)]; exact e1, e2, hr.upd u8288 fun b hb h => h.elim (hs b hb).1 (hs b hb).2, fun b hb => ⟨fun h => ?_, (hs b hb).2⟩⟩
          rcases f84 b h with h' | h'
          · exact (hs b hb).1 h'
          · have := hr.lt hb; omega
        · have hji : j = i := by omega
          subst hji
          have T82 := T43.upd u82 fun _ _ => id
          have hb35 : ∀ b, InRow (.slice p39 k40 k41) b → ¬ InRow (.slice pT nT cT) b ∧ b ≠ k0 := fun b hb => ⟨fun h => by
            have a1 := g43 b hb
            have a2 := P35.to.lt h
            omega, by have := g43 b hb; omega⟩
          refine ⟨.slice p39 k40 k41, _, by rw [List.getElem?_append_right (by omega)]; simp [hlT'], hto, T82.upd u8288 fun b hb h => h.elim (hb35 b hb).1 (hb35 b hb).2, fun b hb => ⟨fun h => ?_, (hb35 b hb).2⟩⟩
          rcases f84 b h with h' | h'
          · exact (hb35 b hb).1 h'
          · have := T82.lt hb; omega
      · rcases f84 b h with h' | h'
        · exact (P82.sep b hb).1 h'
        · have := P82.ps.lt hb; omega
      · rcases f84 b hb with h' | h'
        · exact P82.newT b h'
        · exact ⟨by omega, by omega⟩
      · refine (u043.trans u82 fun _ _ => id).trans u8288 fun b hb h => ?_
        rcases h with h | h
        · have := (P82.newT b h).1; omega
        · omega
  · have : i = ps.length := by have := of_decide_eq_false hge2; omega
    subst this
    refine ⟨u35, .inr ⟨k0, _, _, rfl, heq, N5, P35.blk, P35.ps, hds, P35.to, by rw [P35.len]; simp [heq], fun j hj => ?_⟩⟩
    obtain ⟨v, l, e1, e2, hr, _⟩ := P35.each j (by simp at hj; omega)
    obtain ⟨_, e⟩ := List.getElem?_eq_some_iff.1 e2
    exact ⟨v, e1, by rw [e]; exact hr⟩
end Go.Proofs.Ytkacocaekffdgaa
