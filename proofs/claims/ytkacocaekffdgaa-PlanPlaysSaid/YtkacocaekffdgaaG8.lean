/- Order. -/
import Derived.Test.YtkacocaekffdgaaG7
namespace Go.Proofs.Ytkacocaekffdgaa
open Go.SX

open Classical in
/-- does p lead to itself? -/
noncomputable def cyc (adj : ByteArray → List ByteArray) (p : ByteArray) : Bool := decide (Reach adj p p)
theorem cyc_iff {adj : ByteArray → List ByteArray} {p : ByteArray} : cyc adj p = true ↔ Reach adj p p := by simp [cyc]

theorem sortB_perm {l m : List ByteArray} (h : l.Perm m) : sortB l = sortB m := by
  unfold sortB
  rw [sort_perm (h.map _)]
theorem bs_data (s : ByteArray) : bs s.data.toList = s := by cases s; simp [bs]
theorem sortB_self (l : List ByteArray) : (sortB l).Perm l := by
  unfold sortB
  have h := (List.mergeSort_perm (l.map (fun s => s.data.toList)) (fun x y => decide (x ≤ y))).map bs
  rw [List.map_map] at h
  have e : l.map (bs ∘ fun s => s.data.toList) = l := by
    conv => rhs; rw [← List.map_id l]
    exact List.map_congr_left fun x _ => bs_data x
  rw [e] at h
  exact h
theorem mem_sortB {l : List ByteArray} {x : ByteArray} : x ∈ sortB l ↔ x ∈ l := (sortB_self l).mem_iff
theorem length_sortB (l : List ByteArray) : (sortB l).length = l.length := (sortB_self l).length_eq

/-- the first of W that imports none of W. -/
def pick (adj : ByteArray → List ByteArray) (W : List ByteArray) : Option ByteArray := (sortB W).find? fun p => (adj p).all fun q => !decide (q ∈ W)
def place (adj : ByteArray → List ByteArray) : Nat → List ByteArray → List ByteArray
  | 0, _ => []
  | n + 1, W => match pick adj W with
    | none => []
    | some p => p :: place adj n (W.filter fun x => decide (x ≠ p))
/-- all paths, those that are imported first. -/
noncomputable def orderOf (ps : List ByteArray) (adj : ByteArray → List ByteArray) : List ByteArray :=
  sortB (ps.filter fun p => cyc adj p) ++ place adj (ps.filter fun p => !cyc adj p).length (ps.filter fun p => !cyc adj p)

theorem pick_perm {adj : ByteArray → List ByteArray} {W V : List ByteArray} (h : W.Perm V) : pick adj W = pick adj V := by
  unfold pick
  rw [sortB_perm h]
  have : ∀ q, decide (q ∈ W) = decide (q ∈ V) := fun q => by rw [decide_eq_decide]; exact h.mem_iff
  simp only [this]
theorem place_perm {adj : ByteArray → List ByteArray} : ∀ (n : Nat) {W V : List ByteArray}, W.Perm V → place adj n W = place adj n V
  | 0, _, _, _ => rfl
  | n + 1, W, V, h => by
    unfold place
    rw [pick_perm h]
    cases pick adj V with
    | none => rfl
    | some p => simp only; rw [place_perm n (h.filter _)]

/-- a list each of which imports one of it holds one that leads to itself. -/
theorem ring_of {adj : ByteArray → List ByteArray} : ∀ (n : Nat) (W : List ByteArray), W.length ≤ n → W ≠ [] → (∀ p ∈ W, ∃ q ∈ adj p, q ∈ W) → ∃ p ∈ W, Reach adj p p := by
  intro n
  induction n with
  | zero => intro W h h0 _; exact (h0 (List.eq_nil_of_length_eq_zero (by omega))).elim
  | succ n ih =>
    intro W hl h0 h
    obtain ⟨p0, hp0⟩ := List.exists_mem_of_ne_nil W h0
    by_cases hc : Reach adj p0 p0
    · exact ⟨p0, hp0, hc⟩
    · have hlt : (W.filter fun x => @decide (Reach adj p0 x) (Classical.propDecidable _)).length < W.length := by
        refine List.length_filter_lt_length_iff_exists.2 ⟨p0, hp0, ?_⟩
        simpa using hc
      obtain ⟨q, hq, hqW⟩ := h p0 hp0
      obtain ⟨p, hp, hr⟩ := ih (W.filter fun x => @decide (Reach adj p0 x) (Classical.propDecidable _)) (by omega) (List.ne_nil_of_mem (List.mem_filter.2 ⟨hqW, by simpa using Reach.one hq⟩)) (fun x hx => by
        obtain ⟨hx1, hx2⟩ := List.mem_filter.1 hx
        obtain ⟨y, hy, hyW⟩ := h x hx1
        have hx2 : Reach adj p0 x := by simpa using hx2
        exact ⟨y, hy, List.mem_filter.2 ⟨hyW, by simpa using hx2.trans (.one hy)⟩⟩)
      exact ⟨p, (List.mem_filter.1 hp).1, hr⟩

/-- how many keys the map in block b has. -/
def keysOf (w : World) (b : Nat) : Nat := match w.heap[b]? with | some (.map es _) => es.size | _ => 0
theorem mapF_count {d : TypeDesc} {w : World} {b : Nat} {ks : List Value} {f : Value → Value} (h : MapF d w b ks f) : keysOf w b = ks.length := by
  obtain ⟨es, clock, h1, rfl, _⟩ := h
  unfold keysOf
  rw [h1]
  simp
theorem strs_len (l : List ByteArray) : (strs l).length = l.length := by simp [strs]
theorem rowAt_not_map {w : World} {e : TypeId} {size : Nat} {v : Value} {xs : List Value} (h : RowAt w e size v xs) {d : TypeDesc} {b : Nat} {ks : List Value} {f : Value → Value} (hm : MapF d w b ks f) : ¬ InRow v b := by
  intro hb
  obtain ⟨es, clock, h1, _⟩ := hm
  obtain ⟨n, _, ⟨rfl, _⟩ | ⟨g, o, cap, cur, rfl, hg, _⟩⟩ := h
  · cases hb
  · have : g = b := by simpa [InRow, Value.ownBlock] using hb
    subst this
    unfold Blk at hg
    rw [hg] at h1
    cases h1

theorem order_nil (w : World) : callC Try.prog 20 #[.pointer none] w fun v w' => v = .slice none 0 0 ∧ w = w' := gorder _ _ _ (brC_tt rfl ⟨rfl, rfl⟩)

theorem order_spec {w : World} {g : Nat} {ps : List ByteArray} {adj : ByteArray → List ByteArray} {m : Nat} {f : Value → Value} (G : GraphAt w g ps adj m f) (hn : ps.length ≤ 1000000) (hs : ∀ p ∈ ps, p.size ≤ maxLen) :
    callC Try.prog 20 #[.pointer (some ⟨g, 0, none⟩)] w fun v w' => RowAt w' 9 1 v (strs (orderOf ps adj)) ∧ Upd No w w' ∧ ∀ k, InRow v k → w.heap.size ≤ k := by
  have hnd : ps.Nodup := strs_nodup G.map.nodup
  have hm0 := G.map.lt
  have hg0 := G.blk.lt
  refine gorder _ _ _ (brC_ff rfl ?_)
  refine newM_mk (d := .string) (f := one) fun w1 h1 u1 s1 => newM_mk (d := .string) (f := one) fun w3 h3 u3 s3 => newC_mk fun w5 h5 u5 s5 => stC_mk h5 (by simp) fun w6 h6 u6 s6 => ?_
  have u06 : Upd No w w6 := ((u1.trans u3 fun _ _ => id).trans u5 fun _ _ => id).trans u6 fun k hk e => by omega
  refine ptrC_some ⟨_, (G.keep u06).blk.cell rfl, range_mk (P := Try.prog) (kt := 9) (et := 22) Try.underlying58 (G.keep u06).map fun w10 R10 u10 s10 => ?_⟩
  generalize hr : w6.heap.size = r at R10 s10 ⊢
  generalize hk0 : w.heap.size = k0 at h1 s1 ⊢
  generalize hk2 : w1.heap.size = k2 at h3 s3 h6 ⊢
  generalize hk4 : w3.heap.size = k4 at h5 h6 s5 u6 ⊢
  have C10 : MapF .string w10 k0 (strs []) one := (((h1.upd u3 id).upd u5 id).upd u6 (by omega)).upd u10 id
  have W10 : MapF .string w10 k2 (strs []) one := ((h3.upd u5 id).upd u6 (by omega)).upd u10 id
  have B10 : w10.cell? ⟨k4, 0, none⟩ = some (.map (some k2)) := (h6.upd u10 id).cell rfl
  refine ⟨fun w' => ∃ vis cy wa : List ByteArray, RangeF .string w' m (strs ps) f r (strs vis) ∧ vis.Nodup ∧ MapF .string w' k0 (strs cy) one ∧ MapF .string w' k2 (strs wa) one ∧ (∀ x, x ∈ cy ↔ x ∈ vis ∧ Reach adj x x) ∧ (∀ x, x ∈ wa ↔ x ∈ vis ∧ ¬ Reach adj x x) ∧
      w'.cell? ⟨k4, 0, none⟩ = some (.map (some k2)) ∧ Upd No w w' ∧ w10.heap.size ≤ w'.heap.size, fun w' => ps.length - seenOf w' r,
    ⟨[], [], [], R10, by simp, C10, W10, by simp, by simp, B10, u06.trans u10 fun _ _ => id, Nat.le_refl _⟩, ?_⟩
  rintro w13 ⟨vis, cy, wa, R13, nd13, C13, W13, hcy, hwa, B13, u13, z13⟩ d
  have hvs : ∀ x ∈ vis, x ∈ ps := fun x hx => strs_mem.1 (R13.vis_sub _ (strs_mem.2 hx))
  refine next_mk (P := Try.prog) R13 0 (fun hall => .inl ⟨rfl, ?_⟩) fun w16 k hkin hkn R16 u16 s16 => .inr ⟨_, _, rfl, ?_⟩
  · have hall : ∀ x ∈ ps, x ∈ vis := fun x hx => strs_mem.1 (hall _ (strs_mem.2 hx))
    have hsub : ∀ x ∈ cy, x ∈ ps := fun x hx => hvs x ((hcy x).1 hx).1
    have hkd : cy.Nodup := strs_nodup C13.nodup
    have hwd : wa.Nodup := strs_nodup W13.nodup
    have hkl := subset_length hkd hsub
    have ecy : cy.Perm (ps.filter fun p => cyc adj p) := (List.perm_ext_iff_of_nodup hkd (hnd.filter _)).2 fun x => by
      rw [hcy, List.mem_filter, cyc_iff]
      exact ⟨fun ⟨a, b⟩ => ⟨hvs x a, b⟩, fun ⟨a, b⟩ => ⟨hall x a, b⟩⟩
    have ewa : wa.Perm (ps.filter fun p => !cyc adj p) := (List.perm_ext_iff_of_nodup hwd (hnd.filter _)).2 fun x => by
      rw [hwa, List.mem_filter, Bool.not_eq_true', ← Bool.not_eq_true, cyc_iff]
      exact ⟨fun ⟨a, b⟩ => ⟨hvs x a, b⟩, fun ⟨a, b⟩ => ⟨hall x a, b⟩⟩
    have eord : orderOf ps adj = sortB cy ++ place adj wa.length wa := by
      unfold orderOf
      rw [sortB_perm ecy, ewa.length_eq, place_perm _ ewa]
    refine callC_of (rising_spec C13 (by omega) fun x hx => hs x (hsub x hx)) fun v w18 ⟨hrow, u18, hge⟩ => ?_
    obtain ⟨p, n, c, rfl, _⟩ := hrow.shape
    refine ⟨p, n, c, rfl, ?_⟩
    refine ⟨fun p n c w' => ∃ out wa : List ByteArray, RowAt w' 9 1 (.slice p n c) (strs out) ∧ MapF .string w' k2 (strs wa) one ∧ (∀ x ∈ wa, x ∈ ps ∧ ¬ Reach adj x x) ∧ orderOf ps adj = out ++ place adj wa.length wa ∧ out.length + wa.length ≤ ps.length + ps.length ∧
        w'.cell? ⟨k4, 0, none⟩ = some (.map (some k2)) ∧ Upd No w w' ∧ w10.heap.size ≤ w'.heap.size ∧ (∀ k, InRow (.slice p n c) k → w10.heap.size ≤ k), fun _ _ _ w' => keysOf w' k2,
      ⟨_, wa, hrow, W13.upd u18 id, fun x hx => ⟨hvs x ((hwa x).1 hx).1, ((hwa x).1 hx).2⟩, eord, ?_, cell_upd B13 u18 id, u13.trans u18 fun _ _ => id, Nat.le_trans z13 u18.size, fun k hk => Nat.le_trans z13 (hge k hk)⟩, ?_⟩
    · have := subset_length hwd fun x hx => hvs x ((hwa x).1 hx).1
      rw [length_sortB]; omega
    clear hrow hge u18 hkl hkd hsub ecy ewa eord hwd
    rintro p n c w27 ⟨out, wa, hrow, W27, hwa2, eord, hlen, B27, u27, z27, hge⟩ d
    have hwd : wa.Nodup := strs_nodup W27.nodup
    have hwl := subset_length hwd fun x hx => (hwa2 x hx).1
    refine ⟨_, B27, runR_of (run_len (P := Try.prog) Try.underlying69 W27 3) ⟨_, rfl, ?_⟩⟩
    rw [strs_len]
    refine brC_intro (fun hpos => ?_) fun hzero => ?_
    · have hpos : 0 < wa.length := by simpa using hpos
      refine ⟨_, B27, callC_of (rising_spec W27 (by omega) fun x hx => hs x (hwa2 x hx).1) fun v w34 ⟨hrow2, u34, hge2⟩ => ?_⟩
      obtain ⟨p2, n2, c2, rfl, hl2, hc2, hm2⟩ := hrow2.shape
      have hn2 : n2 = (sortB wa).length := by rw [strs_len, Nat.mul_one] at hl2; omega
      subst hn2
      have hl2 := length_sortB wa
      have S34 := StrsAt.of_row hrow2
      have W34 := W27.upd u34 id
      have B34 := cell_upd B27 u34 id
      have hrow34 := hrow.upd u34 fun _ _ => id
      have u034 : Upd No w w34 := u27.trans u34 fun _ _ => id
      refine ⟨p2, _, c2, rfl, fun p' n' c' n43 w' => ∃ i : Nat, n43 = i ∧ i ≤ (sortB wa).length ∧ (Value.slice p' n' c' = .slice p n c) ∧ w34 = w' ∧ ∀ x ∈ (sortB wa).take i, ∃ q ∈ adj x, q ∈ wa, fun _ _ _ n43 _ => ((sortB wa).length - n43).toNat,
        ⟨0, rfl, Nat.zero_le _, rfl, rfl, by simp⟩, ?_⟩
      rintro p' n' c' n43 w44 ⟨i, rfl, hi, e, rfl, hno⟩ d
      cases e
      refine brC_intro (fun hlt => ?_) fun hge3 => ?_
      · have hlt : i < (sortB wa).length := by simpa using hlt
        obtain ⟨a, rfl, ha⟩ := S34 i hlt
        refine ⟨by omega, by omega, ptrC_some ⟨_, by rw [Int.toNat_natCast]; exact ha, ptrC_some ⟨_, (G.keep u034).blk.cell rfl, ?_⟩⟩⟩
        have hxin : (sortB wa)[i] ∈ wa := mem_sortB.1 (List.getElem_mem hlt)
        have htake : (sortB wa).take (i + 1) = (sortB wa).take i ++ [(sortB wa)[i]] := List.take_succ_eq_append_getElem hlt
        have hdrop : sortB wa = (sortB wa).take i ++ (sortB wa)[i] :: (sortB wa).drop (i + 1) := by rw [List.getElem_cons_drop, List.take_append_drop]
        generalize hx : (sortB wa)[i] = x at hxin htake hdrop ⊢
        obtain ⟨q, cq, hqlen, hto⟩ := G.to x
        obtain ⟨hlook, hstr⟩ := hto w34 u034
        refine runR_of hlook ⟨_, _, _, rfl, callC_of (containsF_spec B34 W34 hstr hqlen cq) fun v w55 ⟨b, hv, hb, ew⟩ => ⟨b, hv, ?_⟩⟩
        subst ew
        refine brC_intro (fun hnb => ?_) fun hbt => ?_
        · have hfree : ∀ q ∈ adj x, q ∉ wa := by
            intro q hq hw
            have : b = true := hb.2 ⟨q, hq, hw⟩
            rw [this] at hnb; cases hnb
          have hpick : pick adj wa = some x := by
            unfold pick
            rw [hdrop, List.find?_append, List.find?_eq_none.2, Option.none_or, List.find?_cons_of_pos]
            · rw [List.all_eq_true]
              intro q hq
              simpa using hfree q hq
            · intro y hy
              obtain ⟨q, hq, hqw⟩ := hno y hy
              rw [List.all_eq_true]
              intro h
              have := h q hq
              simp [hqw] at this
          have heq : place adj wa.length wa = x :: place adj (wa.length - 1) (wa.filter fun y => decide (y ≠ x)) := by
            obtain ⟨k, hk⟩ : ∃ k, wa.length = k + 1 := ⟨wa.length - 1, by omega⟩
            rw [hk]
            show (match pick adj wa with | none => [] | some p => p :: place adj k (wa.filter fun x => decide (x ≠ p))) = _
            rw [hpick]; rfl
          refine ⟨_, B34, delete_in (P := Try.prog) (kt := 9) (et := 3) Try.underlying69 Try.underlying9 (k := .string x) trivial W34 (strs_mem.2 hxin) 0 fun l1 l2 w59 hl W59 u59 s59 => newC_mk fun w61 h61 u61 s61 => ?_⟩
          obtain ⟨m1, m2, hm, rfl, rfl⟩ : ∃ m1 m2, wa = m1 ++ x :: m2 ∧ l1 = strs m1 ∧ l2 = strs m2 := by
            unfold strs at hl
            obtain ⟨m1, m', hm, e1, e2⟩ := List.map_eq_append_iff.1 hl
            obtain ⟨y, m2, rfl, e3, e4⟩ := List.map_eq_cons_iff.1 e2
            cases e3
            exact ⟨m1, m2, hm, e1.symm, e4.symm⟩
          have hfil : wa.filter (fun y => decide (y ≠ x)) = m1 ++ m2 := by
            rw [hm] at hwd ⊢
            rw [List.nodup_append, List.nodup_cons] at hwd
            obtain ⟨_, ⟨h2, _⟩, h3⟩ := hwd
            rw [List.filter_append, List.filter_cons_of_neg (by simp)]
            rw [List.filter_eq_self.2 fun y hy => by simpa using h3 y hy x (by simp), List.filter_eq_self.2 fun y hy => by simpa using fun e : y = x => h2 (e ▸ hy)]
          have hlm : wa.length = (m1 ++ m2).length + 1 := by rw [hm]; simp; omega
          have nrow : ¬ InRow (.slice p n c) k2 := rowAt_not_map hrow34 W34
          have hrow61 := (hrow34.upd u59 fun k hk e => by subst e; exact nrow hk).upd u61 fun _ _ => id
          have W61 : MapF .string w61 k2 (strs (m1 ++ m2)) one := by
            have := W59.upd u61 id
            rw [strs, strs, ← List.map_append] at this
            exact this
          have B61 := cell_upd (cell_upd B34 u59 (by show k4 ≠ k2; omega)) u61 id
          have u061 : Upd No w w61 := (u034.trans u59 fun k hk e => by omega).trans u61 fun _ _ => id
          obtain ⟨io, hi1, hi2, hi3, hi4⟩ := info_get (P := Try.prog) (e := 9) (s := 1) (b := 16) (z := .string ByteArray.empty) (by kernel_rfl)
          refine append_row (P := Try.prog) (e := 9) (news := [.string x]) Try.underlying22 hi1 hi2 hi3 hi4 rfl hrow61 (n := out.length) (by rw [strs_len, Nat.mul_one]) _ 1 1 (by omega) (by omega) rfl ?_ (by simp [Value.oneCell']) (by simp only [maxLen]; omega) (by omega)
            fun v' w63 r63 u63 f63 => ?_
          · intro j u hj
            match j, hj with
            | 0, hj => cases hj; exact h61.cell rfl
          obtain ⟨p', n', c', rfl, _⟩ := r63.shape
          have u63 : Upd (InRow (.slice p n c)) w61 w63 := u63
          have hw10 : w.heap.size ≤ w10.heap.size := (u06.trans u10 fun _ _ => id).size
          have hz34 := u34.size
          have W63 := W61.upd u63 nrow
          refine ⟨_, _, _, rfl, ⟨out ++ [x], m1 ++ m2, ?_, W63, fun y hy => hwa2 y (by rw [hm]; rw [List.mem_append] at hy; rw [List.mem_append, List.mem_cons]; exact hy.elim .inl fun h => .inr (.inr h)), ?_, ?_, cell_upd B61 u63 fun h => ?_, u061.trans u63 fun k hk e => ?_, ?_, fun k hk => ?_⟩, ?_⟩
          · have e : strs (out ++ [x]) = strs out ++ [.string x] := by simp [strs]
            rw [e]; exact r63
          · rw [eord, heq, hfil, List.append_assoc, hlm]
            rfl
          · simp only [List.length_append, List.length_singleton] at hlm ⊢
            omega
          · have := hge _ h
            simp only at this
            omega
          · have := hge _ e; omega
          · have := u63.size; have := u59.size; have := u61.size; omega
          · rcases f63 k hk with h | h
            · exact hge k h
            · have := u59.size; have := u61.size; omega
          · dsimp only
            rw [mapF_count W63, mapF_count W27, strs_len, strs_len, hlm]
            omega
        · have hbt : b = true := by simpa using hbt
          have hw : IntKind.wrap .i64 ((i : Int) + 1) = i + 1 := Go.SX.wrap_small (by omega) (by omega)
          rw [hw]
          refine ⟨⟨i + 1, by omega, hlt, rfl, rfl, fun y hy => ?_⟩, by dsimp only; omega⟩
          rw [htake, List.mem_append, List.mem_singleton] at hy
          rcases hy with hy | rfl
          · exact hno y hy
          · exact hb.1 hbt
      · have : i = (sortB wa).length := by
          have : ¬ ((i : Int) < ((sortB wa).length : Int)) := by simpa using hge3
          omega
        subst this
        rw [List.take_length] at hno
        obtain ⟨y, hy, hr⟩ := ring_of (adj := adj) wa.length wa (Nat.le_refl _) (List.ne_nil_of_length_pos hpos) fun y hy => hno y (mem_sortB.2 hy)
        exact ((hwa2 y hy).2 hr).elim
    · have h0 : wa.length = 0 := by
        have : ¬ ((wa.length : Int) > 0) := by simpa using hzero
        omega
      have h0 : wa = [] := List.eq_nil_of_length_eq_zero h0
      subst h0
      have hw10 : w.heap.size ≤ w10.heap.size := (u06.trans u10 fun _ _ => id).size
      have : orderOf ps adj = out := by rw [eord]; simp [place]
      rw [this]
      exact ⟨hrow, u27, fun k hk => Nat.le_trans (by omega) (hge k hk)⟩
  · obtain ⟨p, hp, rfl⟩ := key_of_strs hkin
    have hpv : p ∉ vis := fun e => hkn (strs_mem.2 e)
    have u016 : Upd No w w16 := u13.trans u16 fun k hk e => by have := u06.size; omega
    have hs5 := u5.size
    refine entry_mk (vis := strs vis) R16 ⟨_, _, rfl, callC_of (cyclic_spec (G.keep u016) p) fun v w74 ⟨b, hv, hb, u74⟩ => ⟨b, hv, ?_⟩⟩
    have C16 := (C13.upd u16 (by omega)).upd u74 id
    have W16 := (W13.upd u16 (by omega)).upd u74 id
    have B16 := cell_upd (cell_upd B13 u16 (by show k4 ≠ r; omega)) u74 id
    have R74 := R16.upd u74 id id
    have u074 : Upd No w w74 := u016.trans u74 fun _ _ => id
    have nd16 : (p :: vis).Nodup := List.nodup_cons.2 ⟨hpv, nd13⟩
    have hlen := subset_length nd16 fun x hx => by
      rcases List.mem_cons.1 hx with rfl | hx
      · exact hp
      · exact hvs x hx
    simp only [List.length_cons] at hlen
    have hseen8 := R13.seen
    simp only [strs, List.length_map] at hseen8
    have hz16 := u74.size
    refine brC_intro (fun hin => ?_) fun hin => ?_
    · have hin := hb.1 hin
      refine update_out (P := Try.prog) (t := 69) (kt := 9) (et := 3) (f' := one) Try.underlying69 Try.underlying9 (k := .string p) trivial C16 (fun e => hpv ((hcy p).1 (strs_mem.1 e)).1) _ rfl (fun _ _ _ => rfl) fun w77 C77 u77 s77 => ?_
      have e2 : strs cy ++ [Value.string p] = strs (cy ++ [p]) := by simp [strs]
      rw [e2] at C77
      have R77 := R74.upd u77 (by omega) (by omega)
      have hseen := R77.seen
      simp only [List.length_cons, strs, List.length_map] at hseen
      refine ⟨⟨p :: vis, cy ++ [p], wa, R77, nd16, C77, W16.upd u77 (by omega), fun x => ?_, fun x => ?_, cell_upd B16 u77 (by show k4 ≠ k0; omega), u074.trans u77 fun k hk e => by omega, by omega⟩, by dsimp only; omega⟩
      · rw [List.mem_append, List.mem_singleton, hcy, List.mem_cons]
        constructor
        · rintro (⟨a, b⟩ | rfl)
          · exact ⟨.inr a, b⟩
          · exact ⟨.inl rfl, hin⟩
        · rintro ⟨rfl | a, b⟩
          · exact .inr rfl
          · exact .inl ⟨a, b⟩
      · rw [hwa, List.mem_cons]
        constructor
        · rintro ⟨a, b⟩; exact ⟨.inr a, b⟩
        · rintro ⟨rfl | a, b⟩
          · exact (b hin).elim
          · exact ⟨a, b⟩
    · have hin : ¬ Reach adj p p := fun h => by rw [hb.2 h] at hin; cases hin
      refine ⟨_, B16, update_out (P := Try.prog) (t := 69) (kt := 9) (et := 3) (f' := one) Try.underlying69 Try.underlying9 (k := .string p) trivial W16 (fun e => hpv ((hwa p).1 (strs_mem.1 e)).1) _ rfl (fun _ _ _ => rfl) fun w77 W77 u77 s77 => ?_⟩
      have e2 : strs wa ++ [Value.string p] = strs (wa ++ [p]) := by simp [strs]
      rw [e2] at W77
      have R77 := R74.upd u77 (by omega) (by omega)
      have hseen := R77.seen
      simp only [List.length_cons, strs, List.length_map] at hseen
      refine ⟨⟨p :: vis, cy, wa ++ [p], R77, nd16, C16.upd u77 (by omega), W77, fun x => ?_, fun x => ?_, cell_upd B16 u77 (by show k4 ≠ k2; omega), u074.trans u77 fun k hk e => by omega, by omega⟩, by dsimp only; omega⟩
      · rw [hcy, List.mem_cons]
        constructor
        · rintro ⟨a, b⟩; exact ⟨.inr a, b⟩
        · rintro ⟨rfl | a, b⟩
          · exact (hin b).elim
          · exact ⟨a, b⟩
      · rw [List.mem_append, List.mem_singleton, hwa, List.mem_cons]
        constructor
        · rintro (⟨a, b⟩ | rfl)
          · exact ⟨.inr a, b⟩
          · exact ⟨.inl rfl, hin⟩
        · rintro ⟨rfl | a, b⟩
          · exact .inr rfl
          · exact .inl ⟨a, b⟩
end Go.Proofs.Ytkacocaekffdgaa
