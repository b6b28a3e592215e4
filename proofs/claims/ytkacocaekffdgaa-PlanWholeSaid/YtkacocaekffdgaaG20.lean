/- The document's order. -/
import Derived.Test.YtkacocaekffdgaaG19
namespace Go.Proofs.Ytkacocaekffdgaa
open Go.SX

theorem pick_min {adj : ByteArray → List ByteArray} {W : List ByteArray} {b : ByteArray} (hb : b ∈ W) (hr : ∀ q ∈ adj b, q ∉ W) (hmin : ∀ p ∈ W, (∀ q ∈ adj p, q ∉ W) → lessB p b = false) : pick adj W = some b := by
  unfold pick
  have hf : ∀ p, ((adj p).all fun q => !decide (q ∈ W)) = true ↔ ∀ q ∈ adj p, q ∉ W := fun p => by rw [List.all_eq_true]; simp
  cases h : (sortB W).find? fun p => (adj p).all fun q => !decide (q ∈ W) with
  | none =>
    rw [List.find?_eq_none] at h
    exact (h b (mem_sortB.2 hb) ((hf b).2 hr)).elim
  | some p =>
    obtain ⟨hp, l1, l2, hs, has⟩ := List.find?_eq_some_iff_append.1 h
    have hpW : p ∈ W := mem_sortB.1 (by rw [hs]; simp)
    have hbs : b ∈ sortB W := mem_sortB.2 hb
    rw [hs, List.mem_append, List.mem_cons] at hbs
    rcases hbs with h1 | rfl | h1
    · have := has b h1
      rw [(hf b).2 hr] at this
      cases this
    · rfl
    · have hsort := sortB_sorted W
      rw [hs] at hsort
      have hle : p.data.toList ≤ b.data.toList := (List.pairwise_cons.1 (List.pairwise_append.1 hsort).2.1).1 b h1
      have hnl := hmin p hpW ((hf p).1 hp)
      rcases List.le_iff_lt_or_eq.1 hle with h | h
      · rw [lessB_iff.2 h] at hnl; cases hnl
      · rw [data_inj h]

def bools (l : List Bool) : List Value := l.map Value.bool
theorem madeBools (n : Nat) : (madeCells (Value.bool false).cells (n * 1)).toList = bools (List.replicate n false) := by
  unfold madeCells bools
  rw [Nat.mul_one, List.map_replicate]
  refine List.eq_replicate_iff.2 ⟨by simp, fun b hb => ?_⟩
  simp only [Array.toList_map, List.mem_map] at hb
  obtain ⟨i, _, rfl⟩ := hb
  have : i % (Value.bool false).cells.size = 0 := Nat.mod_one i
  rw [this]; rfl

theorem rorder_spec3 {w : World} {g : Nat} {ps : List ByteArray} {adj : ByteArray → List ByteArray} {tos : List (List Nat)} {vP vT : Value} (R : RGraphAt w g ps tos vP vT) (L : Links ps adj tos) (hl : ps.length ≤ 1000000) (hs : ∀ p ∈ ps, p.size ≤ maxLen) :
    callC Try.prog 21 #[.pointer (some ⟨g, 0, none⟩)] w fun v w' => RowAt w' 9 1 v (strs (orderOf ps adj)) ∧ Upd No w w' ∧ ∀ b, InRow v b → w.heap.size ≤ b := by
  obtain ⟨io, hi1, hi2, hi3, hi4⟩ := info_get (P := Try.prog) (e := 9) (s := 1) (b := 16) (z := .string ByteArray.empty) (by kernel_rfl)
  obtain ⟨io2, hj1, hj2, hj3, hj4⟩ := info_get (P := Try.prog) (e := 4) (s := 1) (b := 1) (z := .bool false) (by kernel_rfl)
  obtain ⟨pP, nP, cP, rfl, _⟩ := R.ps.shape
  have hn := rowAt_len R.ps
  subst hn
  obtain ⟨pT, cT, rfl, hT⟩ := toAt R
  have hP := StrsAt.of_row R.ps
  have hN := L.nodup
  have hcP : ∀ w', Upd No w w' → w'.cell? ⟨g, 0, none⟩ = some (.slice pP ps.length cP) := fun w' u => (R.blk.upd u id).cell rfl
  have hcT : ∀ w', Upd No w w' → w'.cell? (Addr.add ⟨g, 0, none⟩ 1) = some (.slice pT tos.length cT) := fun w' u => by rw [add_mk]; exact (R.blk.upd u id).cell rfl
  have hPAt : ∀ i, (h : i < ps.length) → ∃ a, pP = some a ∧ ∀ w', Upd No w w' → w'.cell? (Addr.add a (Int.toNat (i : Int) * 1)) = some (.string ps[i]) := fun i h => by
    obtain ⟨a, e, hc⟩ := hP i h
    exact ⟨a, e, fun w' u => by rw [Int.toNat_natCast]; exact cell_keep hc u⟩
  have hTAt : ∀ i, (h : i < ps.length) → ∃ (a : Addr) (q : Option Addr) (c : Nat), pT = some a ∧ IntsAt w q ((adj ps[i]).map (num ps)) ∧ ∀ w', Upd No w w' → w'.cell? (Addr.add a (Int.toNat (i : Int) * 1)) = some (.slice q (adj ps[i]).length c) := fun i h => by
    have hltT : i < tos.length := by rw [L.len]; exact h
    obtain ⟨a, q, c, e, hc, hia, _⟩ := hT i hltT
    have he : tos[i] = (adj ps[i]).map (num ps) := by have := L.each i h; rw [List.getElem?_eq_getElem hltT] at this; exact Option.some.inj this
    rw [he] at hc hia
    rw [List.length_map] at hc
    exact ⟨a, q, c, e, hia, fun w' u => by rw [Int.toNat_natCast]; exact cell_keep hc u⟩
  have hmk := run_makeSlice (P := Try.prog) w 56 4 io2 (.bool false) Try.underlying56 hj1 hj2 .i64 .i64 (ps.length : Int) (ps.length : Int) (by omega) (Int.le_refl _) (by rw [hj3]; omega) (by rw [hj4]; omega) (by omega)
  rw [Int.toNat_natCast, hj3] at hmk
  refine rorder _ _ _ (ptrC_some ⟨_, _, _, hcP w (Upd.refl _ _), _, _, hmk, _, _, _, rfl, ?_⟩)
  generalize hw5 : w.alloc (.cells (madeCells (Value.bool false).cells (ps.length * 1)) 4) = w5
  have B5 : Blk w5 w.heap.size (bools (ps.map fun _ => false)).toArray 4 := by
    rw [← hw5]
    have := blk_alloc w (madeCells (Value.bool false).cells (ps.length * 1)) 4
    have e : (bools (ps.map fun _ => false)).toArray = madeCells (Value.bool false).cells (ps.length * 1) := by
      have h := madeBools ps.length
      rw [List.map_const']
      rw [← h]
    rw [e]; exact this
  have u5 : Upd No w w5 := hw5 ▸ upd_alloc w _
  have s5 : w5.heap.size = w.heap.size + 1 := by rw [← hw5]; simp
  clear hw5 hmk
  generalize hbd : w.heap.size = bd at B5 s5
  have hsize : ∀ D : ByteArray → Bool, (bools (ps.map D)).toArray.size = ps.length := fun D => by simp [bools]
  have hflag : ∀ (w' : World) (D : ByteArray → Bool), Blk w' bd (bools (ps.map D)).toArray 4 → ∀ i, (h : i < ps.length) → w'.cell? (Addr.add ⟨bd, 0, none⟩ (Int.toNat (i : Int) * 1)) = some (.bool (D ps[i])) := fun w' D B i h => by
    rw [Int.toNat_natCast, Nat.mul_one, add_mk, Nat.zero_add]
    exact B.cell (by simp [bools, h])
  have hset : ∀ (D : ByteArray → Bool) (i : Nat) (h : i < ps.length), (bools (ps.map D)).toArray.setIfInBounds i (.bool true) = (bools (ps.map fun p => decide (p = ps[i]) || D p)).toArray := fun D i h => by
    apply Array.ext'
    rw [Array.toList_setIfInBounds]
    refine List.ext_getElem? fun j => ?_
    rw [List.getElem?_set]
    by_cases hj : j < ps.length
    · by_cases hij : i = j
      · subst hij
        simp [bools, h]
      · have : ¬ ps[j] = ps[i] := fun e => hij ((List.getElem_inj hN).1 e).symm
        simp [bools, hij, hj, this]
    · rw [List.getElem?_eq_none (by simp [bools]; omega), List.getElem?_eq_none (by simp [bools]; omega)]
      split
      · omega
      · rfl
  -- those that lead to themselves
  refine ⟨fun p k c n w' => ∃ (i : Nat) (D : ByteArray → Bool), n = i ∧ i ≤ ps.length ∧ RowAt w' 9 1 (.slice p k c) (strs ((ps.take i).filter fun p => cyc adj p)) ∧ Blk w' bd (bools (ps.map D)).toArray 4 ∧ (∀ p ∈ ps, D p = (decide (p ∈ ps.take i) && cyc adj p)) ∧ (∀ b, InRow (.slice p k c) b → bd < b) ∧ Upd No w w' ∧ bd < w'.heap.size, fun _ _ _ n _ => (ps.length - n).toNat,
    ⟨0, fun _ => false, rfl, Nat.zero_le _, RowAt.nil _ _ _, B5, fun p _ => by simp, fun b hb => (by cases hb), u5, by omega⟩, ?_⟩
  rintro p11 k12 k13 n14 w15 ⟨i, D, rfl, hi, R15, B15, D15, g15, u15, z15⟩ d
  have hk12 := rowAt_len R15
  subst hk12
  refine ptrC_some ⟨_, _, _, hcP w15 u15, brC_intro (fun hlt => ?_) fun hge => ?_⟩
  · have hlt : i < ps.length := by have := of_decide_eq_true hlt; omega
    have hw : IntKind.wrap .i64 ((i : Int) + 1) = ((i + 1 : Nat) : Int) := Go.SX.wrap_small (by omega) (by omega)
    rw [hw]
    have htake : ps.take (i + 1) = ps.take i ++ [ps[i]] := List.take_succ_eq_append_getElem hlt
    have hmem : ∀ p, p ∈ ps.take (i + 1) ↔ p ∈ ps.take i ∨ p = ps[i] := fun p => by rw [htake, List.mem_append, List.mem_singleton]
    have hnin : ps[i] ∉ ps.take i := fun h => by
      have : (ps.take (i + 1)).Nodup := hN.sublist (List.take_sublist _ _)
      rw [htake, List.nodup_append] at this
      exact this.2.2 _ h _ (by simp) rfl
    have hfl : ((ps.take i).filter fun p => cyc adj p).length ≤ ps.length := Nat.le_trans (List.length_filter_le _ _) (by rw [List.length_take]; omega)
    refine ⟨fun p k c w' => ∃ D : ByteArray → Bool, RowAt w' 9 1 (.slice p k c) (strs ((ps.take (i + 1)).filter fun p => cyc adj p)) ∧ Blk w' bd (bools (ps.map D)).toArray 4 ∧ (∀ p ∈ ps, D p = (decide (p ∈ ps.take (i + 1)) && cyc adj p)) ∧ (∀ b, InRow (.slice p k c) b → bd < b) ∧ Upd No w w' ∧ bd < w'.heap.size, ?_, ?_⟩
    · rintro p k c w' ⟨D, h1, h2, h3, h4, h5, h6⟩ d
      exact ⟨⟨i + 1, D, rfl, hlt, h1, h2, h3, h4, h5, h6⟩, by dsimp only; omega⟩
    obtain ⟨a, rfl, ha⟩ := hPAt i hlt
    refine ptrC_some ⟨_, _, _, hcP w15 u15, by omega, by omega, ptrC_some ⟨_, ha w15 u15, callC_of (rcyclic_spec (rGraphAt_keep R u15) L hl ps[i]) fun v w34 ⟨b, hv, hb, u34⟩ => ⟨b, hv, ?_⟩⟩⟩
    have u034 : Upd No w w34 := u15.trans u34 fun _ _ => id
    have hbc : b = cyc adj ps[i] := by rw [Bool.eq_iff_iff, hb, cyc_iff]
    have hz34 := u34.size
    refine brC_intro (fun hbt => ?_) fun hbf => ?_
    · refine ptrC_some ⟨_, _, _, hcP w34 u034, by omega, by omega, ptrC_some ⟨_, ha w34 u034, newC_mk fun w43 h43 u43 s43 => ?_⟩⟩
      refine append_row (P := Try.prog) (e := 9) (news := [.string ps[i]]) Try.underlying22 hi1 hi2 hi3 hi4 rfl ((R15.upd u34 fun _ _ => id).upd u43 fun _ _ => id) (n := ((ps.take i).filter fun p => cyc adj p).length) (by rw [strs_len, Nat.mul_one]) _ 1 1 (by omega) (by omega) rfl ?_ (by simp [Value.oneCell']) (by simp only [maxLen]; omega) (by omega)
        fun v' w45 r45 u45 f45 => ?_
      · intro j u hj
        match j, hj with
        | 0, hj => cases hj; exact h43.cell rfl
      have hz43 := u43.size
      have g45 : ∀ b, InRow v' b → bd < b := fun b hb => (f45 b hb).elim (g15 b) fun h => by omega
      have B45 := ((B15.upd u34 id).upd u43 id).upd u45 fun h => by have := g15 bd h; omega
      have u045 : Upd No w w45 := (u034.trans u43 fun _ _ => id).trans u45 fun b hb h => by have := g15 b h; omega
      obtain ⟨p46, k47, k48, rfl, _⟩ := r45.shape
      have hz45 := u45.size
      refine ⟨_, _, _, rfl, by omega, by omega, ptrC_some ?_⟩
      rw [Int.toNat_natCast, Nat.mul_one, add_mk, Nat.zero_add]
      refine stC_mk B45 (by rw [hsize]; exact hlt) fun w50 h50 u50 s50 => ⟨fun p => decide (p = ps[i]) || D p, ?_, by rw [← hset D i hlt]; exact h50, fun p hp => ?_, g45, u045.trans u50 fun b hb e => by omega, by omega⟩
      · have e2 : strs ((ps.take i).filter fun p => cyc adj p) ++ [Value.string ps[i]] = strs ((ps.take (i + 1)).filter fun p => cyc adj p) := by
          rw [htake, List.filter_append, List.filter_cons_of_pos (by rw [← hbc]; exact hbt)]; simp [strs]
        rw [e2] at r45
        exact r45.upd u50 fun b hb e => by have := g45 b hb; omega
      · show (decide (p = ps[i]) || D p) = _
        have hc : cyc adj ps[i] = true := by rw [← hbc]; exact hbt
        rw [D15 p hp, Bool.eq_iff_iff, Bool.or_eq_true, Bool.and_eq_true, Bool.and_eq_true, decide_eq_true_eq, decide_eq_true_eq, decide_eq_true_eq, hmem]
        constructor
        · rintro (e | ⟨h1, h2⟩)
          · exact ⟨.inr e, by rw [e]; exact hc⟩
          · exact ⟨.inl h1, h2⟩
        · rintro ⟨h1 | e, h2⟩
          · exact .inr ⟨h1, h2⟩
          · exact .inl e
    · refine ⟨D, ?_, B15.upd u34 id, fun p hp => ?_, g15, u034, by omega⟩
      · have e2 : (ps.take (i + 1)).filter (fun p => cyc adj p) = (ps.take i).filter fun p => cyc adj p := by
          rw [htake, List.filter_append, List.filter_cons_of_neg (by rw [← hbc, hbf]; simp)]; simp
        rw [e2]; exact R15.upd u34 fun _ _ => id
      · have hc : cyc adj ps[i] = false := by rw [← hbc]; exact hbf
        rw [D15 p hp, Bool.eq_iff_iff, Bool.and_eq_true, Bool.and_eq_true, decide_eq_true_eq, decide_eq_true_eq, hmem]
        constructor
        · exact fun h => ⟨.inl h.1, h.2⟩
        · rintro ⟨h1 | e, h2⟩
          · exact ⟨h1, h2⟩
          · rw [e, hc] at h2; cases h2
  have : i = ps.length := by have := of_decide_eq_false hge; omega
  subst this
  rw [List.take_length] at R15 D15
  have hfl : (ps.filter fun p => cyc adj p).length ≤ ps.length := List.length_filter_le _ _
  rw [List.take_length]
  refine callC_of (sorted_spec (StrsAt.of_row R15) (by omega) (fun p hp => hs p (List.mem_filter.1 hp).1) k13) fun v w52 ⟨hr52, u52, g52⟩ => ?_
  obtain ⟨p53, k54, k55, rfl, _⟩ := hr52.shape
  have u052 : Upd No w w52 := u15.trans u52 fun _ _ => id
  have hz52 := u52.size
  have hDc : ∀ p ∈ ps, D p = cyc adj p := fun p hp => by rw [D15 p hp]; simp [hp]
  have hW0 : (ps.filter fun p => !D p) = ps.filter fun p => !cyc adj p := List.filter_congr fun p hp => by rw [hDc p hp]
  have hlen0 : (sortB (ps.filter fun p => cyc adj p)).length + (ps.filter fun p => !D p).length = ps.length := by
    rw [length_sortB, hW0]
    have h := (List.filter_append_perm (fun p => cyc adj p) ps).length_eq
    rw [List.length_append] at h
    exact h
  refine ⟨_, _, _, rfl, fun p k c w' => ∃ (out : List ByteArray) (D : ByteArray → Bool), RowAt w' 9 1 (.slice p k c) (strs out) ∧ Blk w' bd (bools (ps.map D)).toArray 4 ∧ orderOf ps adj = out ++ place adj (ps.filter fun p => !D p).length (ps.filter fun p => !D p) ∧
      out.length + (ps.filter fun p => !D p).length = ps.length ∧ (∀ p ∈ ps, D p = false → ¬ Reach adj p p) ∧ (∀ b, InRow (.slice p k c) b → bd < b) ∧ Upd No w w' ∧ bd < w'.heap.size, fun _ k _ _ => ps.length - k,
    ⟨_, D, hr52, B15.upd u52 id, by rw [hW0]; rfl, hlen0, fun p hp h => by rw [hDc p hp, ← Bool.not_eq_true, cyc_iff] at h; exact h, fun b hb => Nat.lt_of_lt_of_le z15 (g52 b hb), u052, by omega⟩, ?_⟩
  clear R15 B15 D15 g15 hr52 g52 hDc hW0 hlen0 D
  rintro p58 k59 k60 w61 ⟨out, D, R61, B61, hord, hlen, hnc, g61, u61, z61⟩ d
  have hk59 := rowAt_len R61
  subst hk59
  refine ptrC_some ⟨_, _, _, hcP w61 u61, brC_intro (fun hlt => ?_) fun hge => ?_⟩
  · have hlt : out.length < ps.length := by have := of_decide_eq_true hlt; omega
    have hWmem : ∀ p, p ∈ (ps.filter fun p => !D p) ↔ p ∈ ps ∧ D p = false := fun p => by rw [List.mem_filter, Bool.not_eq_true']
    have hready : ∀ p, p ∈ ps → ((∀ q ∈ adj p, q ∉ ps.filter fun p => !D p) ↔ ∀ q ∈ adj p, D q = true) := fun p hp =>
      ⟨fun h q hq => by
        have := h q hq
        rw [hWmem] at this
        cases hD : D q with
        | true => rfl
        | false => exact (this ⟨L.sub p q hq, hD⟩).elim, fun h q hq hw => by rw [hWmem, h q hq] at hw; cases hw.2⟩
    generalize hWd : (ps.filter fun p => !D p) = W at hord hlen hWmem hready
    have hWn : W.Nodup := by rw [← hWd]; exact hN.filter _
    -- the least that is ready, of the first i
    refine ⟨fun n m w' => ∃ i : Nat, m = i ∧ i ≤ ps.length ∧ Upd No w61 w' ∧ ((n = -1 ∧ ∀ p ∈ ps.take i, ¬ (p ∈ W ∧ ∀ q ∈ adj p, q ∉ W)) ∨ ∃ b, b ∈ ps ∧ n = (num ps b : Int) ∧ b ∈ W ∧ (∀ q ∈ adj b, q ∉ W) ∧ ∀ p ∈ ps.take i, p ∈ W → (∀ q ∈ adj p, q ∉ W) → lessB p b = false),
      fun _ m _ => (ps.length - m).toNat, ⟨0, rfl, Nat.zero_le _, Upd.refl _ _, .inl ⟨rfl, by simp⟩⟩, ?_⟩
    rintro n69 n70 w71 ⟨i, rfl, hi, u71, hbest⟩ d
    have u071 : Upd No w w71 := u61.trans u71 fun _ _ => id
    have B71 := B61.upd u71 id
    refine ptrC_some ⟨_, _, _, hcP w71 u071, brC_intro (fun hlt2 => ?_) fun hge2 => ?_⟩
    · have hlt2 : i < ps.length := by have := of_decide_eq_true hlt2; omega
      have hw : IntKind.wrap .i64 ((i : Int) + 1) = ((i + 1 : Nat) : Int) := Go.SX.wrap_small (by omega) (by omega)
      rw [hw]
      have htake : ps.take (i + 1) = ps.take i ++ [ps[i]] := List.take_succ_eq_append_getElem hlt2
      have hx : ps[i] ∈ ps := List.getElem_mem hlt2
      refine ⟨fun n w' => Upd No w61 w' ∧ ((n = -1 ∧ ∀ p ∈ ps.take (i + 1), ¬ (p ∈ W ∧ ∀ q ∈ adj p, q ∉ W)) ∨ ∃ b, b ∈ ps ∧ n = (num ps b : Int) ∧ b ∈ W ∧ (∀ q ∈ adj b, q ∉ W) ∧ ∀ p ∈ ps.take (i + 1), p ∈ W → (∀ q ∈ adj p, q ∉ W) → lessB p b = false), ?_, ?_⟩
      · rintro n w' ⟨u, h⟩ d
        exact ⟨⟨i + 1, rfl, hlt2, u, h⟩, by dsimp only; omega⟩
      refine ⟨by omega, by omega, ptrC_some ⟨_, hflag w71 D B71 i hlt2, ?_⟩⟩
      obtain ⟨aT, q, c, rfl, hia, hcA⟩ := hTAt i hlt2
      obtain ⟨aP, rfl, haP⟩ := hPAt i hlt2
      have hal := subset_length (L.uniq ps[i]) (L.sub ps[i])
      refine ⟨fun b n w' => ∃ k : Nat, n = k ∧ k ≤ (adj ps[i]).length ∧ w71 = w' ∧ (b = true ↔ D ps[i] = false ∧ ∀ q ∈ (adj ps[i]).take k, D q = true), fun _ n _ => ((adj ps[i]).length - n).toNat, ⟨0, rfl, Nat.zero_le _, rfl, by simp⟩, ?_⟩
      rintro b85 n86 w87 ⟨k, rfl, hk, rfl, hb85⟩ d
      refine ptrC_some ⟨_, _, _, hcT w71 u071, by omega, by rw [L.len]; omega, ptrC_some ⟨_, _, _, hcA w71 u071, brC_intro (fun hlt3 => ?_) fun hge3 => ?_⟩⟩
      · have hlt3 : k < (adj ps[i]).length := by have := of_decide_eq_true hlt3; omega
        have hw3 : IntKind.wrap .i64 ((k : Int) + 1) = ((k + 1 : Nat) : Int) := Go.SX.wrap_small (by omega) (by omega)
        rw [hw3]
        have htk : (adj ps[i]).take (k + 1) = (adj ps[i]).take k ++ [(adj ps[i])[k]] := List.take_succ_eq_append_getElem hlt3
        refine ⟨fun b w' => w71 = w' ∧ (b = true ↔ D ps[i] = false ∧ ∀ q ∈ (adj ps[i]).take (k + 1), D q = true), ?_, ?_⟩
        · rintro b w' ⟨e, h⟩ d
          exact ⟨⟨k + 1, rfl, hlt3, e, h⟩, by dsimp only; omega⟩
        refine brC_intro (fun hbt => ?_) fun hbf => ?_
        · obtain ⟨aq, e, hq⟩ := hia k (by simpa using hlt3)
          rw [List.getElem_map] at hq
          subst e
          have hqps := L.sub _ _ (List.getElem_mem hlt3)
          have hqn := num_lt hqps
          refine ptrC_some ⟨_, _, _, hcT w71 u071, by omega, by rw [L.len]; omega, ptrC_some ⟨_, _, _, hcA w71 u071, by omega, by omega, ptrC_some ⟨_, by rw [Int.toNat_natCast]; exact cell_keep hq u071, by omega, by omega, ptrC_some ⟨_, hflag w71 D B71 _ hqn, rfl, ?_⟩⟩⟩⟩
          have hpx : ps[num ps (adj ps[i])[k]] = (adj ps[i])[k] := by have := (num_spec hqps).2; rw [List.getElem?_eq_getElem hqn] at this; exact Option.some.inj this
          rw [hpx, htk]
          obtain ⟨h1, h2⟩ := hb85.1 hbt
          constructor
          · intro h
            refine ⟨h1, fun q hq => ?_⟩
            rcases List.mem_append.1 hq with hq | hq
            · exact h2 q hq
            · rw [List.mem_singleton.1 hq]; exact h
          · exact fun h => h.2 _ (List.mem_append_right _ (List.mem_singleton.2 rfl))
        · refine ⟨rfl, fun h => (by cases h), fun h => ?_⟩
          have := hb85.2 ⟨h.1, fun q hq => h.2 q (by rw [htk]; exact List.mem_append_left _ hq)⟩
          rw [this] at hbf; cases hbf
      · have : k = (adj ps[i]).length := by have := of_decide_eq_false hge3; omega
        subst this
        rw [List.take_length] at hb85
        have hbr : b85 = true ↔ ps[i] ∈ W ∧ ∀ q ∈ adj ps[i], q ∉ W := by
          rw [hb85, hready _ hx, hWmem]
          exact ⟨fun h => ⟨⟨hx, h.1⟩, h.2⟩, fun h => ⟨h.1.2, h.2⟩⟩
        refine ⟨fun b w' => Upd No w61 w' ∧ (b = true ↔ b85 = true ∧ (n69 = -1 ∨ ∃ y, y ∈ ps ∧ n69 = (num ps y : Int) ∧ lessB ps[i] y = true)), ?_, drawC_mk fun w117 u117 s117 => ?_⟩
        · rintro b114 w115 ⟨u115, hb114⟩ d
          refine brC_intro (fun hbt => ?_) fun hbf => ?_
          · obtain ⟨h1, h2⟩ := hb114.1 hbt
            obtain ⟨r1, r2⟩ := hbr.1 h1
            refine ⟨u115, .inr ⟨ps[i], hx, by rw [num_at hN hlt2], r1, r2, fun p hp hpW hpr => ?_⟩⟩
            rw [htake, List.mem_append] at hp
            rcases hp with hp | hp
            · rcases hbest with ⟨_, hno⟩ | ⟨b, hbps, hnb, hbW, hbr', hmin⟩
              · exact (hno p hp ⟨hpW, hpr⟩).elim
              · rcases h2 with h2 | ⟨y, hy, hny, hly⟩
                · omega
                · have : y = b := num_inj hy hbps (by omega)
                  subst this
                  have h3 := hmin p hp hpW hpr
                  cases h4 : lessB p ps[i] with
                  | false => rfl
                  | true => rw [lessB_iff.2 (List.lt_trans (lessB_iff.1 h4) (lessB_iff.1 hly))] at h3; cases h3
            · rw [List.mem_singleton.1 hp]
              cases h4 : lessB ps[i] ps[i] with
              | false => rfl
              | true => exact (List.lt_irrefl _ (lessB_iff.1 h4)).elim
          · refine ⟨u115, ?_⟩
            have hnb : ¬ (b85 = true ∧ (n69 = -1 ∨ ∃ y, y ∈ ps ∧ n69 = (num ps y : Int) ∧ lessB ps[i] y = true)) := fun h => by rw [hb114.2 h] at hbf; cases hbf
            rcases hbest with ⟨hn1, hno⟩ | ⟨b, hbps, hnb', hbW, hbr', hmin⟩
            · refine .inl ⟨hn1, fun p hp => ?_⟩
              rw [htake, List.mem_append] at hp
              rcases hp with hp | hp
              · exact hno p hp
              · rw [List.mem_singleton.1 hp]
                exact fun h => hnb ⟨hbr.2 h, .inl hn1⟩
            · refine .inr ⟨b, hbps, hnb', hbW, hbr', fun p hp hpW hpr => ?_⟩
              rw [htake, List.mem_append] at hp
              rcases hp with hp | hp
              · exact hmin p hp hpW hpr
              · rw [List.mem_singleton.1 hp] at hpW hpr ⊢
                cases h4 : lessB ps[i] b with
                | false => rfl
                | true => exact (hnb ⟨hbr.2 ⟨hpW, hpr⟩, .inr ⟨b, hbps, hnb', h4⟩⟩).elim
        · have u117 : Upd No w61 w117 := u71.trans u117 fun _ _ => id
          have u0117 : Upd No w w117 := u61.trans u117 fun _ _ => id
          refine brC_intro (fun hbt => ?_) fun hbf => ?_
          · refine brC_intro (fun hneg => ?_) fun hpos => ?_
            · have hneg := of_decide_eq_true hneg
              refine ⟨u117, fun _ => ⟨hbt, ?_⟩, fun _ => rfl⟩
              rcases hbest with ⟨h, _⟩ | ⟨b, _, h, _⟩
              · exact .inl h
              · omega
            · have hpos := of_decide_eq_false hpos
              rcases hbest with ⟨h, _⟩ | ⟨b, hbps, hnb, _⟩
              · omega
              · subst hnb
                have hbn := num_lt hbps
                obtain ⟨_, e, haB⟩ := hPAt (num ps b) hbn
                cases e
                have hpb : ps[num ps b] = b := by have := (num_spec hbps).2; rw [List.getElem?_eq_getElem hbn] at this; exact Option.some.inj this
                rw [hpb] at haB
                refine ptrC_some ⟨_, _, _, hcP w117 u0117, by omega, by omega, ptrC_some ⟨_, haP w117 u0117, ptrC_some ⟨_, _, _, hcP w117 u0117, by omega, by omega, ptrC_some ⟨_, haB w117 u0117, callC_of (less_spec ps[i] b w117 (hs _ hx)) fun v w131 ⟨hv, u131⟩ => ⟨_, hv, u117.trans u131 fun _ _ => id, ?_⟩⟩⟩⟩⟩
                constructor
                · exact fun h => ⟨hbt, .inr ⟨b, hbps, rfl, h⟩⟩
                · rintro ⟨_, h | ⟨y, hy, hny, hly⟩⟩
                  · omega
                  · have : y = b := num_inj hy hbps (by omega)
                    subst this; exact hly
          · exact ⟨u117, fun h => (by cases h), fun h => by rw [h.1] at hbf; cases hbf⟩
    · have : i = ps.length := by have := of_decide_eq_false hge2; omega
      subst this
      rw [List.take_length] at hbest
      have hW0 : W ≠ [] := by
        intro e; rw [e, List.length_nil] at hlen; omega
      have hWc : ∀ p ∈ W, ¬ Reach adj p p := fun p hp => hnc p ((hWmem p).1 hp).1 ((hWmem p).1 hp).2
      rcases hbest with ⟨hn1, hno⟩ | ⟨b, hbps, hnb, hbW, hbr, hmin⟩
      · obtain ⟨p, _, hp, hr⟩ := pick_some hW0 hWc
        exact (hno p ((hWmem p).1 hp).1 ⟨hp, hr⟩).elim
      · subst hnb
        refine brC_ff (by simp) ?_
        have hbn := num_lt hbps
        have hpb : ps[num ps b] = b := by have := (num_spec hbps).2; rw [List.getElem?_eq_getElem hbn] at this; exact Option.some.inj this
        have hpick := pick_min hbW hbr fun p hp hr => hmin p ((hWmem p).1 hp).1 hp hr
        have hpl : place adj W.length W = b :: place adj (W.length - 1) (W.filter fun y => decide (y ≠ b)) := by
          obtain ⟨k, hk⟩ : ∃ k, W.length = k + 1 := ⟨W.length - 1, by have := List.length_pos_iff.2 hW0; omega⟩
          rw [hk]
          show (match pick adj W with | none => [] | some p => p :: place adj k (W.filter fun x => decide (x ≠ p))) = _
          rw [hpick]; rfl
        have hWf : (W.filter fun y => decide (y ≠ b)).length + 1 = W.length := by
          have hperm : (b :: W.filter fun y => decide (y ≠ b)).Perm W := by
            refine (List.perm_ext_iff_of_nodup (List.nodup_cons.2 ⟨by simp, hWn.filter _⟩) hWn).2 fun x => ?_
            rw [List.mem_cons, List.mem_filter, decide_eq_true_eq]
            constructor
            · rintro (rfl | ⟨h, _⟩)
              · exact hbW
              · exact h
            · intro h
              by_cases e : x = b
              · exact .inl e
              · exact .inr ⟨h, e⟩
          have := hperm.length_eq
          simpa using this
        have hWnew : (ps.filter fun p => !(decide (p = b) || D p)) = W.filter fun y => decide (y ≠ b) := by
          rw [← hWd, List.filter_filter]
          refine List.filter_congr fun p _ => ?_
          by_cases e : p = b <;> simp [e]
        refine ⟨by omega, by omega, ptrC_some ?_⟩
        rw [Int.toNat_natCast, Nat.mul_one, add_mk, Nat.zero_add]
        refine stC_mk B71 (by rw [hsize]; exact hbn) fun w134 h134 u134 s134 => ?_
        rw [hset D _ hbn, hpb] at h134
        have u0134 : Upd No w w134 := u071.trans u134 fun x hx e => by omega
        obtain ⟨aB, e, haB⟩ := hPAt (num ps b) hbn
        subst e
        rw [hpb, Int.toNat_natCast, Nat.mul_one] at haB
        refine ptrC_some ⟨_, _, _, hcP w134 u0134, by omega, by omega, ptrC_some ⟨_, haB w134 u0134, newC_mk fun w142 h142 u142 s142 => ?_⟩⟩
        have hz71 := u71.size
        have hz134 := u134.size
        have hz142 := u142.size
        have R142 := ((R61.upd u71 fun _ _ => id).upd u134 fun x hx e => by have := g61 x hx; omega).upd u142 fun _ _ => id
        refine append_row (P := Try.prog) (e := 9) (news := [.string b]) Try.underlying22 hi1 hi2 hi3 hi4 rfl R142 (n := out.length) (by rw [strs_len, Nat.mul_one]) _ 1 1 (by omega) (by omega) rfl ?_ (by simp [Value.oneCell']) (by simp only [maxLen]; omega) (by omega)
          fun v' w144 r144 u144 f144 => ?_
        · intro j u hj
          match j, hj with
          | 0, hj => cases hj; exact h142.cell rfl
        have g144 : ∀ x, InRow v' x → bd < x := fun x hx => (f144 x hx).elim (g61 x) fun h => by omega
        have B144 := (h134.upd u142 id).upd u144 fun h => by have := g61 bd h; omega
        have u0144 : Upd No w w144 := (u0134.trans u142 fun _ _ => id).trans u144 fun x hx h => by have := g61 x h; omega
        obtain ⟨p145, k146, k147, rfl, _⟩ := r144.shape
        have hz144 := u144.size
        have e2 : strs out ++ [Value.string b] = strs (out ++ [b]) := by simp [strs]
        rw [e2] at r144
        have hk146 := rowAt_len r144
        refine ⟨_, _, _, rfl, ⟨out ++ [b], fun p => decide (p = b) || D p, r144, B144, ?_, ?_, fun p hp h => ?_, g144, u0144, by omega⟩, ?_⟩
        · have e3 : W.length - 1 = (W.filter fun y => decide (y ≠ b)).length := by omega
          rw [hord, hpl, hWnew, List.append_assoc, e3]
          rfl
        · rw [hWnew, List.length_append, List.length_singleton]; omega
        · refine hnc p hp ?_
          rw [Bool.or_eq_false_iff] at h
          exact h.2
        · show ps.length - k146 < ps.length - out.length
          rw [hk146, List.length_append, List.length_singleton]
          omega
  · have hge := of_decide_eq_false hge
    have h0 : (ps.filter fun p => !D p).length = 0 := by omega
    have h1 : (ps.filter fun p => !D p) = [] := List.eq_nil_of_length_eq_zero h0
    have : orderOf ps adj = out := by rw [hord, h1]; simp [place]
    rw [this]
    exact ⟨R61, u61, fun b hb => by have := g61 b hb; omega⟩
theorem rorder_spec {w : World} {g : Nat} {ps : List ByteArray} {adj : ByteArray → List ByteArray} {tos : List (List Nat)} {vP vT : Value} (R : RGraphAt w g ps tos vP vT) (L : Links ps adj tos) (hl : ps.length ≤ 1000000) (hs : ∀ p ∈ ps, p.size ≤ maxLen) :
    callC Try.prog 21 #[.pointer (some ⟨g, 0, none⟩)] w fun v w' => RowAt w' 9 1 v (strs (orderOf ps adj)) ∧ Upd No w w' :=
  callC_of (rorder_spec3 R L hl hs) fun _ _ ⟨a, b, _⟩ => ⟨a, b⟩
end Go.Proofs.Ytkacocaekffdgaa
