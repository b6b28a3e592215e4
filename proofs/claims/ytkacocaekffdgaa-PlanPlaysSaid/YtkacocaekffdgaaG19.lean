/- The document's graph: who is reached, who is cyclic, who imports whom. -/
import Derived.Test.YtkacocaekffdgaaG18
namespace Go.Proofs.Ytkacocaekffdgaa
open Go.SX

/-- the numbers tos say what adj says. -/
structure Links (ps : List ByteArray) (adj : ByteArray → List ByteArray) (tos : List (List Nat)) : Prop where
  nodup : ps.Nodup
  len : tos.length = ps.length
  each : ∀ i, (h : i < ps.length) → tos[i]? = some ((adj ps[i]).map (num ps))
  sub : ∀ p, ∀ q ∈ adj p, q ∈ ps
  none : ∀ p, p ∉ ps → adj p = []
  uniq : ∀ p, (adj p).Nodup
theorem links_of {ps : List ByteArray} {imps : List (List ByteArray)} (hn : ps.Nodup) (hl : ps.length = imps.length) : Links ps (adjOf ps imps) (imps.map (tosF ps)) := by
  refine ⟨hn, by simp [hl], fun i hi => ?_, fun p q hq => ?_, fun p hp => assoc_out hp, fun p => ?_⟩
  · have hi' : i < imps.length := by omega
    rw [adjOf_at hn hi hi']
    simp [hi', tosF]
  · rcases assoc_mem (ps := ps) (ls := imps.map (Proofs.Ytkacocaekffdgaa.uniq ps)) (x := p) with h | h
    · unfold adjOf at hq; rw [h] at hq; cases hq
    · obtain ⟨l, _, e⟩ := List.mem_map.1 h
      unfold adjOf at hq
      rw [← e] at hq
      exact (((uniq_inv ps l).2 q).1 hq).1
  · unfold adjOf
    rcases assoc_mem (ps := ps) (ls := imps.map (Proofs.Ytkacocaekffdgaa.uniq ps)) (x := p) with h | h
    · rw [h]; simp
    · obtain ⟨l, _, e⟩ := List.mem_map.1 h
      rw [← e]
      exact (uniq_inv ps l).1
theorem num_mem {ps X : List ByteArray} (hX : ∀ x ∈ X, x ∈ ps) {q : ByteArray} (hq : q ∈ ps) : (∃ m ∈ X.map (num ps), ((m : Nat) : Int) = (num ps q : Int)) ↔ q ∈ X := by
  constructor
  · rintro ⟨m, hm, e⟩
    obtain ⟨x, hx, rfl⟩ := List.mem_map.1 hm
    exact num_inj (hX x hx) hq (by omega) ▸ hx
  · exact fun h => ⟨num ps q, List.mem_map_of_mem h, rfl⟩

/-- the lists of numbers, one by one. -/
theorem toAt {w : World} {g : Nat} {ps : List ByteArray} {tos : List (List Nat)} {vP vT : Value} (R : RGraphAt w g ps tos vP vT) : ∃ pT cT, vT = .slice pT tos.length cT ∧
    ∀ j, (h : j < tos.length) → ∃ (a : Addr) (p : Option Addr) (c : Nat), pT = some a ∧ w.cell? (Addr.add a (j * 1)) = some (.slice p tos[j].length c) ∧ IntsAt w p tos[j] ∧ RowAt w 3 1 (.slice p tos[j].length c) (ints tos[j]) := by
  obtain ⟨hds, h1, h2, h3⟩ := R.to
  obtain ⟨pT, nT, cT, rfl, hl, _⟩ := h1.shape
  have hnT : nT = tos.length := by omega
  subst hnT
  refine ⟨pT, cT, rfl, fun j hj => ?_⟩
  obtain ⟨v, e, hr⟩ := h3 j hj
  obtain ⟨g', o, rfl, hc⟩ := h1.get (j := j) (by omega)
  obtain ⟨p, n, c, rfl, _⟩ := hr.shape
  have hn := rowInt_len hr
  subst hn
  exact ⟨_, p, c, rfl, by rw [add_mk, Nat.mul_one, hc, e], intsAt_row hr, hr⟩

theorem reach_spec {w : World} {g : Nat} {ps : List ByteArray} {adj : ByteArray → List ByteArray} {tos : List (List Nat)} {vP vT : Value} (R : RGraphAt w g ps tos vP vT) (L : Links ps adj tos) (hl : ps.length ≤ 1000000) {p : ByteArray} (hp : p ∈ ps) :
    callC Try.prog 41 #[.pointer (some ⟨g, 0, none⟩), .int .i64 (num ps p)] w fun v w' => (∃ X : List ByteArray, RowAt w' 3 1 v (ints (X.map (num ps))) ∧ (∀ x ∈ X, x ∈ ps) ∧ X.length ≤ 1000000 ∧ ∀ x, x ∈ X ↔ Reach adj p x) ∧ Upd No w w' := by
  obtain ⟨io2, hj1, hj2, hj3, hj4⟩ := info_get (P := Try.prog) (e := 3) (s := 1) (b := 8) (z := .int .i64 0) (by kernel_rfl)
  obtain ⟨pT, cT, rfl, hT⟩ := toAt R
  have hcT : ∀ w', Upd No w w' → w'.cell? (Addr.add ⟨g, 0, none⟩ 1) = some (.slice pT tos.length cT) := fun w' u => by rw [add_mk]; exact (R.blk.upd u id).cell rfl
  have hAt : ∀ x, x ∈ ps → ∃ (a : Addr) (q : Option Addr) (c : Nat), pT = some a ∧ IntsAt w q ((adj x).map (num ps)) ∧ RowAt w 3 1 (.slice q (adj x).length c) (ints ((adj x).map (num ps))) ∧ ∀ w', Upd No w w' → w'.cell? (Addr.add a (Int.toNat (num ps x : Int) * 1)) = some (.slice q (adj x).length c) := fun x hx => by
    have hlt := num_lt hx
    obtain ⟨a, q, c, e, hc, hi, hr⟩ := hT (num ps x) (by rw [L.len]; exact hlt)
    have he := L.each (num ps x) hlt
    have hpx : ps[num ps x] = x := by have := (num_spec hx).2; rw [List.getElem?_eq_getElem hlt] at this; exact Option.some.inj this
    rw [hpx] at he
    have het : tos[num ps x]'(by rw [L.len]; exact hlt) = (adj x).map (num ps) := by rw [List.getElem?_eq_getElem (by rw [L.len]; exact hlt)] at he; exact Option.some.inj he
    rw [het] at hc hi hr
    rw [List.length_map] at hc hr
    exact ⟨a, q, c, e, hi, hr, fun w' u => by rw [Int.toNat_natCast]; exact cell_keep hc u⟩
  have hlp := num_lt hp
  have hsz : ∀ X : List ByteArray, X.Nodup → (∀ x ∈ X, x ∈ ps) → X.length ≤ ps.length := fun X h1 h2 => subset_length h1 h2
  obtain ⟨a, q, c, rfl, hi0, hr0, hc0⟩ := hAt p hp
  refine rreach _ _ _ _ (ptrC_some ⟨_, _, _, hcT w (Upd.refl _ _), by omega, by rw [L.len]; omega, ptrC_some ⟨_, _, _, hc0 w (Upd.refl _ _), ?_⟩⟩)
  have hal : (adj p).length ≤ ps.length := hsz _ (L.uniq p) (L.sub p)
  refine append_slice (P := Try.prog) (e := 3) (news := ints ((adj p).map (num ps))) Try.underlying66 hj1 hj2 hj3 hj4 rfl (RowAt.nil w 3 1) (n := 0) rfl _ _ _ (by omega) (by rw [ints_len, List.length_map, Nat.mul_one])
    (rowAt_news hr0) (fun u hu => by obtain ⟨m, _, rfl⟩ := List.mem_map.1 hu; rfl) (by simp only [maxLen]; omega) (by omega) fun v' w9 r9 u9 f9 => ?_
  have u9 : Upd No w w9 := u9.mono fun x _ h => by cases h
  have g9 : ∀ b, InRow v' b → w.heap.size ≤ b := fun b hb => (f9 b hb).elim (fun h => by cases h) id
  obtain ⟨p10, k11, k12, rfl, _⟩ := r9.shape
  rw [List.nil_append] at r9
  refine ⟨_, _, _, rfl, fun p' k' c' n w' => ∃ (i : Nat) (X : List ByteArray), n = i ∧ i ≤ X.length ∧ RowAt w' 3 1 (.slice p' k' c') (ints (X.map (num ps))) ∧ X.Nodup ∧ (∀ x ∈ X, x ∈ ps ∧ Reach adj p x) ∧ (∀ y ∈ adj p, y ∈ X) ∧ (∀ x ∈ X.take i, ∀ y ∈ adj x, y ∈ X) ∧ (∀ b, InRow (.slice p' k' c') b → w.heap.size ≤ b) ∧ Upd No w w',
    fun _ _ _ n _ => (ps.length - n).toNat, ⟨0, adj p, rfl, Nat.zero_le _, r9, L.uniq p, fun x hx => ⟨L.sub p x hx, .one hx⟩, fun y hy => hy, by simp, g9, u9⟩, ?_⟩
  clear r9 g9 u9 f9
  rintro p15 k16 k17 n18 w19 ⟨i, X, rfl, hi, R19, N19, S19, A19, C19, g19, u19⟩ d
  have hXl := hsz X N19 fun x hx => (S19 x hx).1
  have hk16 := rowInt_len R19
  rw [List.length_map] at hk16
  subst hk16
  refine brC_intro (fun hlt => ?_) fun hge => ?_
  · have hlt : i < X.length := by have := of_decide_eq_true hlt; omega
    refine drawC_mk fun w21 u21 s21 => ?_
    have u021 : Upd No w w21 := u19.trans u21 fun _ _ => id
    have R21 := R19.upd u21 fun _ _ => id
    obtain ⟨ax, rfl, hax⟩ := intsAt_row R21 i (by simpa using hlt)
    rw [List.getElem_map] at hax
    have hxX : X[i] ∈ X := List.getElem_mem hlt
    have htake : X.take (i + 1) = X.take i ++ [X[i]] := List.take_succ_eq_append_getElem hlt
    generalize X[i] = x at hax hxX htake
    have hxps := (S19 x hxX).1
    obtain ⟨a', qx, cx, e, hix, hrx, hcx⟩ := hAt x hxps
    cases e
    have hlx := num_lt hxps
    refine ptrC_some ⟨_, _, _, hcT w21 u021, by omega, by omega, ptrC_some ⟨_, by rw [Int.toNat_natCast]; exact hax, by omega, by rw [L.len]; omega, ptrC_some ⟨_, _, _, hcx w21 u021, ?_⟩⟩⟩
    refine ⟨fun p' k' c' n w' => ∃ (k : Nat) (Y : List ByteArray), n = k ∧ k ≤ (adj x).length ∧ RowAt w' 3 1 (.slice p' k' c') (ints (Y.map (num ps))) ∧ Y.Nodup ∧ (∀ x ∈ Y, x ∈ ps ∧ Reach adj p x) ∧ (∃ Z, Y = X ++ Z) ∧ (∀ y ∈ (adj x).take k, y ∈ Y) ∧ (∀ b, InRow (.slice p' k' c') b → w.heap.size ≤ b) ∧ Upd No w w',
      fun _ _ _ n _ => ((adj x).length - n).toNat, ⟨0, X, rfl, Nat.zero_le _, R21, N19, S19, ⟨[], by simp⟩, by simp, g19, u021⟩, ?_⟩
    rintro p34 k35 k36 n37 w38 ⟨k, Y, rfl, hk, R38, N38, S38, ⟨Z, hZ⟩, A38, g38, u38⟩ d
    have hYl := hsz Y N38 fun x hx => (S38 x hx).1
    have hk35 := rowInt_len R38
    rw [List.length_map] at hk35
    subst hk35
    have hxl := hsz (adj x) (L.uniq x) (L.sub x)
    refine brC_intro (fun hlt2 => ?_) fun hge2 => ?_
    · have hlt2 : k < (adj x).length := by have := of_decide_eq_true hlt2; omega
      have hw : IntKind.wrap .i64 ((k : Int) + 1) = ((k + 1 : Nat) : Int) := Go.SX.wrap_small (by omega) (by omega)
      rw [hw]
      refine ⟨fun p' k' c' w' => ∃ Y : List ByteArray, RowAt w' 3 1 (.slice p' k' c') (ints (Y.map (num ps))) ∧ Y.Nodup ∧ (∀ x ∈ Y, x ∈ ps ∧ Reach adj p x) ∧ (∃ Z, Y = X ++ Z) ∧ (∀ y ∈ (adj x).take (k + 1), y ∈ Y) ∧ (∀ b, InRow (.slice p' k' c') b → w.heap.size ≤ b) ∧ Upd No w w', ?_, ?_⟩
      · rintro p' k' c' w' ⟨Y, h1, h2, h3, h4, h5, h6, h7⟩ d
        exact ⟨⟨k + 1, Y, rfl, hlt2, h1, h2, h3, h4, h5, h6, h7⟩, by dsimp only; omega⟩
      have hqAt : ∀ w', Upd No w w' → ∃ a, qx = some a ∧ w'.cell? (Addr.add a (Int.toNat (k : Int) * 1)) = some (.int .i64 (num ps (adj x)[k])) := fun w' u => by
        obtain ⟨a, e, h⟩ := hix k (by simpa using hlt2)
        refine ⟨a, e, ?_⟩
        rw [Int.toNat_natCast, cell_keep h u, List.getElem_map]
      have hqx : (adj x)[k] ∈ adj x := List.getElem_mem hlt2
      have htk : (adj x).take (k + 1) = (adj x).take k ++ [(adj x)[k]] := List.take_succ_eq_append_getElem hlt2
      generalize (adj x)[k] = q at hqAt hqx htk
      have hqps := L.sub x q hqx
      obtain ⟨aq, rfl, hq⟩ := hqAt w38 u38
      refine ⟨by omega, by omega, ptrC_some ⟨_, hq, ?_⟩⟩
      have hs := has_spec (intsAt_row R38) (by rw [List.length_map]; simp only [maxLen]; omega) k36 (num ps q)
      rw [List.length_map] at hs
      refine callC_of hs fun v w49 ⟨⟨b, hv, hb⟩, e⟩ => ⟨b, hv, ?_⟩
      subst e
      rw [num_mem (fun y hy => (S38 y hy).1) hqps] at hb
      refine brC_intro (fun hnb => ?_) fun hbt => ?_
      · have hqY : q ∉ Y := fun h => by rw [hb.2 h] at hnb; cases hnb
        refine ⟨by omega, by omega, ptrC_some ⟨_, hq, newC_mk fun w54 h54 u54 s54 => ?_⟩⟩
        refine append_row (P := Try.prog) (e := 3) (news := [.int .i64 (num ps q)]) Try.underlying66 hj1 hj2 hj3 hj4 rfl (R38.upd u54 fun _ _ => id) (n := Y.length) (by rw [ints_len, List.length_map, Nat.mul_one]) _ 1 1 (by omega) (by omega) rfl ?_ (by simp [Value.oneCell']) (by simp only [maxLen]; omega) (by omega)
          fun v' w56 r56 u56 f56 => ?_
        · intro j u hj
          match j, hj with
          | 0, hj => cases hj; exact h54.cell rfl
        have u56 : Upd (InRow (.slice p34 Y.length k36)) w54 w56 := u56
        obtain ⟨p57, k58, k59, rfl, _⟩ := r56.shape
        have e2 : ints (Y.map (num ps)) ++ [Value.int .i64 (num ps q)] = ints ((Y ++ [q]).map (num ps)) := by simp [ints]
        rw [e2] at r56
        have hz := u38.size
        have hz2 := u54.size
        refine ⟨_, _, _, rfl, Y ++ [q], r56, List.nodup_append.2 ⟨N38, by simp, fun y hy z hz e => hqY ((e.trans (List.mem_singleton.1 hz)) ▸ hy)⟩, fun y hy => ?_, ⟨Z ++ [q], by rw [hZ, List.append_assoc]⟩, fun y hy => ?_, fun b hb => (f56 b hb).elim (g38 b) fun h => by omega, (u38.trans u54 fun _ _ => id).trans u56 fun b hb h => by have := g38 b h; omega⟩
        · rcases List.mem_append.1 hy with hy | hy
          · exact S38 y hy
          · rw [List.mem_singleton.1 hy]
            exact ⟨hqps, (S19 x hxX).2.trans (.one hqx)⟩
        · rw [htk, List.mem_append] at hy
          rcases hy with hy | hy
          · exact List.mem_append_left _ (A38 y hy)
          · exact List.mem_append_right _ hy
      · have hqY : q ∈ Y := hb.1 (by simpa using hbt)
        refine ⟨Y, R38, N38, S38, ⟨Z, hZ⟩, fun y hy => ?_, g38, u38⟩
        rw [htk, List.mem_append] at hy
        rcases hy with hy | hy
        · exact A38 y hy
        · rw [List.mem_singleton.1 hy]; exact hqY
    · have : k = (adj x).length := by have := of_decide_eq_false hge2; omega
      subst this
      rw [List.take_length] at A38
      have hw : IntKind.wrap .i64 ((i : Int) + 1) = ((i + 1 : Nat) : Int) := Go.SX.wrap_small (by omega) (by omega)
      rw [hw]
      refine ⟨⟨i + 1, Y, rfl, by rw [hZ, List.length_append]; omega, R38, N38, S38, fun y hy => by rw [hZ]; exact List.mem_append_left _ (A19 y hy), fun z hz y hy => ?_, g38, u38⟩, by dsimp only; omega⟩
      have hz2 : z ∈ X.take (i + 1) := by
        rw [hZ, List.take_append_of_le_length hlt] at hz
        exact hz
      rw [htake, List.mem_append] at hz2
      rcases hz2 with h | h
      · rw [hZ]; exact List.mem_append_left _ (C19 z h y hy)
      · rw [List.mem_singleton.1 h] at hy; exact A38 y hy
  · have : i = X.length := by have := of_decide_eq_false hge; omega
    subst this
    rw [List.take_length] at C19
    exact ⟨⟨X, R19, fun x hx => (S19 x hx).1, by omega, fun x => ⟨fun h => (S19 x h).2, fun h => h.closed (S := fun x => x ∈ X) A19 C19⟩⟩, u19⟩

theorem rcyclic_spec {w : World} {g : Nat} {ps : List ByteArray} {adj : ByteArray → List ByteArray} {tos : List (List Nat)} {vP vT : Value} (R : RGraphAt w g ps tos vP vT) (L : Links ps adj tos) (hl : ps.length ≤ 1000000) (p : ByteArray) :
    callC Try.prog 16 #[.pointer (some ⟨g, 0, none⟩), .string p] w fun v w' => ∃ b, v = .bool b ∧ (b = true ↔ Reach adj p p) ∧ Upd No w w' := by
  obtain ⟨pP, nP, cP, rfl, _⟩ := R.ps.shape
  have hn := rowAt_len R.ps
  subst hn
  refine rcyclic _ _ _ _ (callC_of (number_spec (R.blk.cell rfl) (StrsAt.of_row R.ps) hl p) fun v w1 ⟨hv, e⟩ => ⟨_, hv, ?_⟩)
  subst e
  refine brC_intro (fun hin => ?_) fun hout => ?_
  · have hp : p ∈ ps := (idxAt_mem _ _ 0).1 (of_decide_eq_true hin)
    rw [(num_spec hp).1]
    refine callC_of (reach_spec R L hl hp) fun v w4 ⟨⟨X, hr, hX, hXl, hiff⟩, u4⟩ => ?_
    obtain ⟨p5, k6, k7, rfl, _⟩ := hr.shape
    have hk := rowInt_len hr
    subst hk
    refine ⟨_, _, _, rfl, callC_of (has_spec (intsAt_row hr) (by rw [List.length_map]; simp only [maxLen]; omega) k7 _) fun v w9 ⟨⟨b, hv, hb⟩, e⟩ => ⟨b, hv, b, rfl, ?_, e ▸ u4⟩⟩
    rw [hb, num_mem hX hp, hiff]
  · have hp : p ∉ ps := fun h => by
      have h1 := (idxAt_mem ps p 0).2 h
      have h2 := of_decide_eq_false hout
      omega
    refine ⟨false, rfl, ⟨fun h => (by cases h), fun h => ?_⟩, Upd.refl _ _⟩
    have e := L.none p hp
    cases h with
    | one h => rw [e] at h; cases h
    | step h _ => rw [e] at h; cases h

theorem rabove_spec {w : World} {g : Nat} {ps : List ByteArray} {adj : ByteArray → List ByteArray} {tos : List (List Nat)} {vP vT : Value} (R : RGraphAt w g ps tos vP vT) (L : Links ps adj tos) (hl : ps.length ≤ 1000000) (hs : ∀ p ∈ ps, p.size ≤ maxLen) (s : ByteArray) :
    callC Try.prog 19 #[.pointer (some ⟨g, 0, none⟩), .string s] w fun v w' => RowAt w' 9 1 v (strs (sortB (ps.filter fun p => decide (s ∈ adj p)))) ∧ Upd No w w' := by
  obtain ⟨io, hi1, hi2, hi3, hi4⟩ := info_get (P := Try.prog) (e := 9) (s := 1) (b := 16) (z := .string ByteArray.empty) (by kernel_rfl)
  obtain ⟨pP, nP, cP, rfl, _⟩ := R.ps.shape
  have hn := rowAt_len R.ps
  subst hn
  obtain ⟨pT, cT, rfl, hT⟩ := toAt R
  have hP := StrsAt.of_row R.ps
  have hcP : ∀ w', Upd No w w' → w'.cell? ⟨g, 0, none⟩ = some (.slice pP ps.length cP) := fun w' u => (R.blk.upd u id).cell rfl
  have hcT : ∀ w', Upd No w w' → w'.cell? (Addr.add ⟨g, 0, none⟩ 1) = some (.slice pT tos.length cT) := fun w' u => by rw [add_mk]; exact (R.blk.upd u id).cell rfl
  refine rabove _ _ _ _ (callC_of (number_spec (R.blk.cell rfl) hP hl s) fun v w1 ⟨hv, e⟩ => ⟨_, hv, ?_⟩)
  subst e
  refine ⟨fun p k c n w' => ∃ i : Nat, n = i ∧ i ≤ ps.length ∧ RowAt w' 9 1 (.slice p k c) (strs ((ps.take i).filter fun p => decide (s ∈ adj p))) ∧ (∀ b, InRow (.slice p k c) b → w.heap.size ≤ b) ∧ Upd No w w', fun _ _ _ n _ => (ps.length - n).toNat,
    ⟨0, rfl, Nat.zero_le _, RowAt.nil _ _ _, fun b hb => (by cases hb), Upd.refl _ _⟩, ?_⟩
  rintro p5 k6 k7 n8 w9 ⟨i, rfl, hi, R9, g9, u9⟩ d
  have hk6 := rowAt_len R9
  subst hk6
  have hfl : ((ps.take i).filter fun p => decide (s ∈ adj p)).length ≤ ps.length := Nat.le_trans (List.length_filter_le _ _) (by rw [List.length_take]; omega)
  refine ptrC_some ⟨_, _, _, hcP w9 u9, brC_intro (fun hlt => ?_) fun hge => ?_⟩
  · have hlt : i < ps.length := by have := of_decide_eq_true hlt; omega
    have hw : IntKind.wrap .i64 ((i : Int) + 1) = ((i + 1 : Nat) : Int) := Go.SX.wrap_small (by omega) (by omega)
    rw [hw]
    have htake : ps.take (i + 1) = ps.take i ++ [ps[i]] := List.take_succ_eq_append_getElem hlt
    refine ⟨fun p k c w' => RowAt w' 9 1 (.slice p k c) (strs ((ps.take (i + 1)).filter fun p => decide (s ∈ adj p))) ∧ (∀ b, InRow (.slice p k c) b → w.heap.size ≤ b) ∧ Upd No w w', ?_, ?_⟩
    · rintro p k c w' ⟨h1, h2, h3⟩ d
      exact ⟨⟨i + 1, rfl, hlt, h1, h2, h3⟩, by dsimp only; omega⟩
    have hltT : i < tos.length := by rw [L.len]; exact hlt
    obtain ⟨a, q, c, rfl, hc, hia, hra⟩ := hT i hltT
    have he : tos[i] = (adj ps[i]).map (num ps) := by have := L.each i hlt; rw [List.getElem?_eq_getElem hltT] at this; exact Option.some.inj this
    rw [he] at hc hia
    have hx : ps[i] ∈ ps := List.getElem_mem hlt
    have hxAt := hP i hlt
    have hal := subset_length (L.uniq ps[i]) (L.sub ps[i])
    refine ptrC_some ⟨_, _, _, hcT w9 u9, by omega, by omega, ptrC_some ⟨_, _, _, by rw [Int.toNat_natCast]; exact cell_keep hc u9, ?_⟩⟩
    have hia9 : IntsAt w9 q ((adj ps[i]).map (num ps)) := fun j hj => by
      obtain ⟨a', e', h'⟩ := hia j hj
      exact ⟨a', e', cell_keep h' u9⟩
    refine callC_of (has_spec hia9 (by rw [List.length_map]; simp only [maxLen]; omega) c _) fun v w30 ⟨⟨b, hv, hb⟩, e⟩ => ⟨b, hv, ?_⟩
    subst e
    have hb' : b = true ↔ s ∈ adj ps[i] := by
      rw [hb]
      by_cases hsp : s ∈ ps
      · rw [(num_spec hsp).1, num_mem (L.sub ps[i]) hsp]
      · rw [idxAt_out hsp]
        constructor
        · rintro ⟨m, _, e⟩; omega
        · exact fun h => (hsp (L.sub _ _ h)).elim
    obtain ⟨ax, rfl, hax⟩ := hxAt
    generalize ps[i] = x at htake hb' hax hx
    refine brC_intro (fun hbt => ?_) fun hbf => ?_
    · have hin := hb'.1 hbt
      refine ptrC_some ⟨_, _, _, hcP w9 u9, by omega, by omega, ptrC_some ⟨_, by rw [Int.toNat_natCast]; exact cell_keep hax u9, newC_mk fun w39 h39 u39 s39 => ?_⟩⟩
      refine append_row (P := Try.prog) (e := 9) (news := [.string x]) Try.underlying22 hi1 hi2 hi3 hi4 rfl (R9.upd u39 fun _ _ => id) (n := ((ps.take i).filter fun p => decide (s ∈ adj p)).length) (by rw [strs_len, Nat.mul_one]) _ 1 1 (by omega) (by omega) rfl ?_ (by simp [Value.oneCell']) (by simp only [maxLen]; omega) (by omega)
        fun v' w41 r41 u41 f41 => ?_
      · intro j u hj
        match j, hj with
        | 0, hj => cases hj; exact h39.cell rfl
      obtain ⟨p42, k43, k44, rfl, _⟩ := r41.shape
      have hz := u9.size
      have hz2 := u39.size
      refine ⟨_, _, _, rfl, ?_, fun b hb => (f41 b hb).elim (g9 b) fun h => by omega, (u9.trans u39 fun _ _ => id).trans u41 fun b hb h => by have := g9 b h; omega⟩
      have e2 : strs ((ps.take i).filter fun p => decide (s ∈ adj p)) ++ [Value.string x] = strs ((ps.take (i + 1)).filter fun p => decide (s ∈ adj p)) := by
        rw [htake, List.filter_append, List.filter_cons_of_pos (by simpa using hin)]; simp [strs]
      rw [e2] at r41
      exact r41
    · have hout : s ∉ adj x := fun h => by rw [hb'.2 h] at hbf; cases hbf
      refine ⟨?_, g9, u9⟩
      have e2 : (ps.take (i + 1)).filter (fun p => decide (s ∈ adj p)) = (ps.take i).filter fun p => decide (s ∈ adj p) := by
        rw [htake, List.filter_append, List.filter_cons_of_neg (by simpa using hout)]; simp
      rw [e2]
      exact R9
  · have : i = ps.length := by have := of_decide_eq_false hge; omega
    subst this
    rw [List.take_length] at R9 hfl ⊢
    refine callC_of (sorted_spec (StrsAt.of_row R9) (by omega) (fun p hp => hs p (List.mem_filter.1 hp).1) k7) fun v w46 ⟨hr, u46, _⟩ => ?_
    obtain ⟨p47, k48, k49, rfl, _⟩ := hr.shape
    exact ⟨_, _, _, rfl, hr, u9.trans u46 fun _ _ => id⟩
end Go.Proofs.Ytkacocaekffdgaa
