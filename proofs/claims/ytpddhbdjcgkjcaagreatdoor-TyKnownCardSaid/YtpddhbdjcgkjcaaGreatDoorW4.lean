/- Joined by program of: Ye5, Ye6, Ye7, Ye8. -/
import Derived.Test.YtpddhbdjcgkjcaaGreatDoorW3

/- TyUnions. -/
namespace Go.Proofs.YtpddhbdjcgkjcaaGreatDoor
open Go.SX Go.Ty

/-- a row of its own grows by a part of a list that has lain. -/
theorem part_all {n1 : Nat} {G : Nat → Prop} {w0 w : World} {p q : Option Addr} {n c m d : Nat} {l ts : List T} (h : OwnT n1 n1 G w p n c l) (hn : n1 ≤ w.heap.size) (hs : TyRow ids G w0 (.slice q m d) ts) (h0 : w0.heap.size ≤ n1) (u : Upd No w0 w)
    (hsz : l.length + ts.length ≤ 1000000000000) {K : Option Addr → Nat → Nat → World → Prop} (hk : ∀ p' n' c' w', OwnT n1 n1 G w' p' n' c' (l ++ ts) → Upd (From n1) w w' → K p' n' c' w') :
    runC Tryz.prog (Builtin.append_ #[33, 33] 33 #[.slice p n c, .slice q m d]) w fun v w' => ∃ p' n' c', v = .slice p' n' c' ∧ K p' n' c' w' := by
  obtain ⟨ys, s1, s2, s3⟩ := hs.mono (G := fun b => G b ∧ b < n1) fun b hb hG => ⟨hG, by omega⟩
  exact h.grow (Nat.le_refl _) hn (s1.upd u fun _ _ x => x) (s3.keep u) hsz fun p' n' c' w' o u _ _ => hk p' n' c' w' o u
theorem part_cut {n1 : Nat} {G : Nat → Prop} {w0 w : World} {p q : Option Addr} {n c m d lo hi : Nat} {l ts : List T} (h : OwnT n1 n1 G w p n c l) (hn : n1 ≤ w.heap.size) (hs : TyRow ids G w0 (.slice q m d) ts) (h0 : w0.heap.size ≤ n1) (u : Upd No w0 w) (hlo : lo ≤ hi) (hhi : hi ≤ m)
    (hsz : l.length + ts.length ≤ 1000000000000) {K : Option Addr → Nat → Nat → World → Prop} (hk : ∀ p' n' c' w', OwnT n1 n1 G w' p' n' c' (l ++ (ts.drop lo).take (hi - lo)) → Upd (From n1) w w' → K p' n' c' w') :
    runC Tryz.prog (Builtin.append_ #[33, 33] 33 #[.slice p n c, .slice (subP q d lo 1) (hi - lo) (d - lo)]) w fun v w' => ∃ p' n' c', v = .slice p' n' c' ∧ K p' n' c' w' := by
  obtain ⟨ys, s1, s2, s3⟩ := hs.mono (G := fun b => G b ∧ b < n1) fun b hb hG => ⟨hG, by omega⟩
  have hc := (s1.upd u fun _ _ x => x).cut hlo hhi
  rw [Nat.mul_one, Nat.mul_one] at hc
  refine h.grow (Nat.le_refl _) hn hc (((s3.keep u).drop lo).take (hi - lo)) ?_ fun p' n' c' w' o u _ _ => hk p' n' c' w' o u
  rw [List.length_take, List.length_drop]
  omega
theorem row_cut {F : Nat → Prop} {w : World} {q : Option Addr} {m d lo hi : Nat} {ts : List T} (hs : TyRow ids F w (.slice q m d) ts) (hlo : lo ≤ hi) (hhi : hi ≤ m) : TyRow ids F w (.slice (subP q d lo 1) (hi - lo) (d - lo)) ((ts.drop lo).take (hi - lo)) := by
  obtain ⟨ys, s1, s2, s3⟩ := hs
  have hc := s1.cut hlo hhi
  rw [Nat.mul_one, Nat.mul_one] at hc
  exact ⟨_, hc, fun b hb => s2 b (inRow_cut hb), (s3.drop lo).take (hi - lo)⟩
theorem own_grown {n0 n1 : Nat} {w : World} {p : Option Addr} {n c : Nat} {l : List T} (h : OwnT n1 n1 (From n0) w p n c l) (h01 : n0 ≤ n1) : TyRow ids (From n0) w (.slice p n c) l :=
  h.row.mono fun b _ hb => hb.elim id fun (hb : n1 ≤ b) => (show n0 ≤ b by omega)

/-! ### The plain law. -/
theorem goods_tells {l : List T} (h : Goods l) : Tells l := tells_good fun a ha => (h a ha).1
theorem nil_check : check .nil ≠ 0 := by decide
theorem goods_cons_union {l m : List T} (hl : allOk l = true → Goods l) (hm : Goods m) (h : allOk ((unionF l).1 :: m) = true) : Goods ((unionF l).1 :: m) := by
  have hc : check (unionF l).1 = 0 := allOk_iff.1 h _ (by simp)
  have h2 : (unionF l).2 = 0 := Classical.byContradiction fun hx => nil_check (by rw [← union_nil hx]; exact hc)
  have := union_goods (hl (allOk_iff.2 (unionF_ok h2).2.2.1)) h2
  intro a ha
  rcases List.mem_cons.1 ha with rfl | ha
  · exact this _ (by simp)
  · exact hm a ha
theorem union_self {l : List T} (hl : Goods l) (hn : l ≠ []) (h : (unionF l).2 = 0) : unionF [(unionF l).1, (unionF l).1] = unionF l := by
  have g1 := union_goods hl h
  have e1 : unionF [(unionF l).1] = unionF (l ++ []) := union_turns (by simpa using hl) hn h
  rw [List.append_nil] at e1
  have e2 : unionF [(unionF l).1, (unionF l).1] = unionF [(unionF l).1] := by
    refine unionF_ext (fun a ha => g1 a (by simpa using ha)) g1 (by simp) (by simp) (by simp) fun _ x => ?_
    have : flatT [(unionF l).1, (unionF l).1] = flatT [(unionF l).1] ++ flatT [(unionF l).1] := flat_append [_] [_]
    rw [this, List.mem_append, or_self]
  rw [e2, e1]
theorem union_turned {l : List T} (hl : Goods l) (hn : l ≠ []) (k : Nat) : unionF (l.drop k ++ l) = unionF l := by
  refine unionF_ext (fun a ha => ?_) hl (by simp [hn]) hn ?_ fun _ x => ?_
  · rcases List.mem_append.1 ha with ha | ha
    · exact hl a (List.mem_of_mem_drop ha)
    · exact hl a ha
  · constructor
    · rintro ⟨a, ha, e⟩
      rcases List.mem_append.1 ha with ha | ha
      · exact ⟨a, List.mem_of_mem_drop ha, e⟩
      · exact ⟨a, ha, e⟩
    · rintro ⟨a, ha, e⟩
      exact ⟨a, List.mem_append.2 (.inr ha), e⟩
  · rw [flat_append, List.mem_append]
    refine ⟨fun h => h.elim (fun h => ?_) id, .inr⟩
    obtain ⟨a, ha, hu⟩ := List.mem_flatMap.1 h
    exact List.mem_flatMap.2 ⟨a, List.mem_of_mem_drop ha, hu⟩

set_option maxRecDepth 100000 in
set_option maxHeartbeats 1000000 in
theorem unions_spec {w : World} {p : Option Addr} {n c : Nat} {cs : List UInt8} (ha : BytesAt w p cs) (hn : n = cs.length) (hc : n ≤ c) (hm : c ≤ maxLen) (t : Nat) (ht : t ≤ 255) :
    callC Tryz.prog 6 #[.slice p n c, .int .u8 t] w fun v w' => v = .bool true ∧ Upd No w w' := by
  refine l6_text _ _ _ _ _ _ (callC_of (works_spec w) fun v w1 ⟨e, u1⟩ => ⟨_, e, brC_ff rfl ?_⟩)
  refine callC_of (list_spec (bytes_keep ha u1) hn hc hm) fun v w4 ⟨p5, k6, k7, e, hl, u4, h5⟩ => ⟨p5, k6, k7, e, ?_⟩
  have hnil := list_tells cs
  have hdm := dm_list cs
  generalize hL : listF cs = l at hl h5 hnil hdm
  obtain ⟨en, hcap, hcm, _⟩ := hl.get
  subst en
  have U4 := up u1 u4
  have z4 := u4.size
  refine c_union (n0 := w1.heap.size) hl (by omega) hnil (by omega) fun p10 w9 h10 u9 => ⟨_, _, rfl, ?_⟩
  refine brC_intro (fun hne => ⟨rfl, up U4 u9⟩) fun hz => ?_
  have hz : (unionF l).2 = 0 := by simpa using hz
  obtain ⟨hcu, hne, hok, _⟩ := unionF_ok hz
  have hg : Goods l := goods_of hdm hok
  have hpos : 0 < l.length := List.length_pos_iff.2 hne
  refine brC_tt (by simpa using hne) ?_
  have ek : Int.tmod (IntKind.wrap .i64 (t : Int)) (l.length : Int) = ((t % l.length : Nat) : Int) := by
    rw [Go.SX.wrap_small (by omega) (by omega), tmod_nat]
  rw [ek]
  have hk : t % l.length < l.length := Nat.mod_lt _ hpos
  generalize t % l.length = k at hk
  rw [wrap_succ (by omega)]
  simp only [Int.toNat_natCast]
  have z9 := u9.size
  have H9 := hl.keep u9
  have hmu : (unionF l).1 = (unionF l).1 := rfl
  generalize hU : (unionF l).1 = uu at h10
  have hsm : size uu ≤ 60 := hU ▸ union_small l
  refine ⟨by omega, by omega, by omega, ?_⟩
  refine part_cut (OwnT.nil w9.heap.size w9.heap.size (From w1.heap.size) w9) (Nat.le_refl _) H9 (Nat.le_refl _) (Upd.refl _ _) (by omega) (Nat.le_refl _) (by simp; omega) fun p14 k15 k16 w13 o13 u13 => ?_
  have v13 : Upd No w9 w13 := upFrom (Upd.refl No w9) u13 (Nat.le_refl _)
  refine part_all o13 v13.size H9 (Nat.le_refl _) v13 (by simp; omega) fun p19 k20 k21 w18 o18 u18 => ?_
  have v18 : Upd No w9 w18 := upFrom v13 u18 (Nat.le_refl _)
  have et : [] ++ List.take (l.length - k) (List.drop k l) ++ l = l.drop k ++ l := by
    rw [List.nil_append, List.take_of_length_le (by simp)]
  rw [et] at o18
  have z18 := v18.size
  have gt : Goods (l.drop k ++ l) := fun a ha => (List.mem_append.1 ha).elim (fun h => hg a (List.mem_of_mem_drop h)) (hg a)
  refine c_union (n0 := w1.heap.size) (own_grown o18 (by omega)) (by simp; omega) (fun _ => goods_tells gt) (by omega) fun p24 w23 h24 u23 => ⟨_, _, rfl, ?_⟩
  rw [union_turned hg hne] at h24 ⊢
  rw [hU] at h24
  have U23 := up v18 u23
  refine ⟨fun w' => Upd No w23 w', ?_, fun b w' => b = false ∧ Upd No w23 w', ?_, ?_⟩
  rotate_left
  · rintro b w63 ⟨rfl, u⟩ _
    exact brC_ff rfl u
  · refine brC_ff (by rw [hz]; rfl) ?_
    exact c_same (h10.keep U23) h24 fun w66 u66 => ⟨_, rfl, by rw [same_self hsm]; rfl, u66⟩
  intro w27 u27 _
  have U27 := up U23 u27
  have H27 := H9.keep U27
  have z27 := U27.size
  refine ⟨by omega, by omega, by omega, ?_⟩
  have hcutR := row_cut (lo := 0) (hi := k + 1) H27 (by omega) (by omega)
  have ec : (l.drop 0).take (k + 1 - 0) = l.take (k + 1) := by simp
  rw [ec] at hcutR
  have g1 : Goods (l.take (k + 1)) := fun a ha => hg a (List.mem_of_mem_take ha)
  have g2 : Goods (l.drop (k + 1)) := fun a ha => hg a (List.mem_of_mem_drop ha)
  refine c_union (n0 := w1.heap.size) hcutR (by rw [List.length_take]; omega) (fun _ => goods_tells g1) (by omega) fun p31 w30 h31 u30 => ⟨_, _, rfl, newC_mk fun w34 B34 u34 s34 => ?_⟩
  have U34 := up u30 u34
  have z34 := U34.size
  have z30 := u30.size
  have u34h := h31.keep u34
  have one34 : TyRow ids (From w1.heap.size) w34 (.slice (some ⟨w30.heap.size, 0, none⟩) 1 1) [(unionF (l.take (k + 1))).1] :=
    ⟨_, row_blk B34 1 rfl (by simp only [maxLen]; omega), fun b hb => by rw [in_blk hb]; show w1.heap.size ≤ _; omega, u34h, trivial⟩
  refine part_all (OwnT.nil w34.heap.size w34.heap.size (From w1.heap.size) w34) (Nat.le_refl _) one34 (Nat.le_refl _) (Upd.refl _ _) (by simp) fun p37 k38 k39 w36 o36 u36 => ?_
  have v36 : Upd No w34 w36 := upFrom (Upd.refl No w34) u36 (Nat.le_refl _)
  refine ⟨by omega, by omega, by omega, ?_⟩
  refine part_cut o36 v36.size (H27.keep U34) (Nat.le_refl _) v36 (by omega) (Nat.le_refl _) (by simp; omega) fun p42 k43 k44 w41 o41 u41 => ?_
  have v41 : Upd No w34 w41 := upFrom v36 u41 (Nat.le_refl _)
  have er : [] ++ [(unionF (l.take (k + 1))).1] ++ List.take (l.length - (k + 1)) (List.drop (k + 1) l) = (unionF (l.take (k + 1))).1 :: l.drop (k + 1) := by
    rw [List.nil_append, List.take_of_length_le (l := List.drop (k + 1) l) (by simp)]; rfl
  rw [er] at o41
  have z41 := v41.size
  refine c_union (n0 := w1.heap.size) (own_grown o41 (by omega)) (by simp; omega) (fun h => goods_tells (goods_cons_union (fun _ => g1) g2 h)) (by omega) fun p47 w46 h47 u46 => ⟨_, _, rfl, newC_mk fun w50 B50 u50 s50 => ?_⟩
  have z46 := u46.size
  have U50 : Upd No w27 w50 := up U34 (up v41 (up u46 u50))
  have h10' := h10.keep (up U27 U50)
  have gu : Goods [(unionF l).1, (unionF l).1] := fun a ha => union_goods hg hz a (by simpa using ha)
  refine c_union (n0 := w1.heap.size) (l := [uu, uu]) (row2 B50 (by omega) h10' h10') (by simp) (fun _ => goods_tells (hU ▸ gu)) (by omega) fun p53 w52 h53 u52 => ⟨_, _, rfl, ?_⟩
  have es : unionF [uu, uu] = unionF l := by rw [← hU]; exact union_self hg hne hz
  rw [es] at h53 ⊢
  rw [hU] at h53
  have UA : Upd No w w52 := up U4 (up u9 (up U27 (up U50 u52)))
  refine brC_intro (fun _ => ⟨trivial, UA⟩) fun hz1 => ?_
  have hz1 : (unionF (l.take (k + 1))).2 = 0 := by simpa using hz1
  have ew : unionF ((unionF (l.take (k + 1))).1 :: l.drop (k + 1)) = unionF l := by
    rw [union_turns (by rw [List.take_append_drop]; exact hg) (fun h => (List.take_eq_nil_iff.1 h).elim (fun h => by omega) hne) hz1, List.take_append_drop]
  rw [ew] at h47 ⊢
  rw [hU] at h47
  refine brC_tt (by rw [hz]; rfl) ?_
  refine c_same (h10'.keep u52) (h47.keep (up u50 u52)) fun w56 u56 => ⟨_, rfl, brC_tt (same_self hsm) (brC_tt (by rw [hz]; rfl) ?_)⟩
  exact c_same (h10'.keep (up u52 u56)) (h53.keep u56) fun w59 u59 => ⟨_, rfl, by rw [same_self hsm], up UA (up u56 u59)⟩
end Go.Proofs.YtpddhbdjcgkjcaaGreatDoor

/- TyRecords. -/
namespace Go.Proofs.YtpddhbdjcgkjcaaGreatDoor
open Go.SX Go.Ty

theorem turned_zip {α β : Type} {a : List α} {b : List β} (h : a.length = b.length) (k : Nat) : ((a.drop k ++ a.take k).zip (b.drop k ++ b.take k)).Perm (a.zip b) := by
  have e : a.zip b = (a.take k).zip (b.take k) ++ (a.drop k).zip (b.drop k) := by
    rw [← List.zip_append (by simp [h]), List.take_append_drop, List.take_append_drop]
  rw [List.zip_append (by simp [h]), e]
  exact List.perm_append_comm
def nm6 : List ByteArray := [bs [97], bs [98], bs [99], bs [95], bs [122, 57], bs [66]]

/-- the names of a record that has lain, and how many they are. -/
theorem names_mk {F : Nat → Prop} {w : World} {x : Option Addr} {k : Int} {nm : ByteArray} {ns : List ByteArray} {ta : List T} {r : T} (h : TyAt ids F w (.pointer x) (.mk k nm ns ta r)) {K : Nat → Prop} (hk : K ns.length) :
    ptrC x fun a => ∃ p n c, w.cell? (Addr.add a 2) = some (.slice p n c) ∧ K n := by
  unfold TyAt at h
  obtain ⟨b, nv, av, rv, vs, e, hb, hB, hN, gN, hA, gA, hT, hR⟩ := h
  cases e
  obtain ⟨p, n, c, rfl, hl, _⟩ := hN.shape
  refine ptrC_some ⟨p, n, c, ?_, ?_⟩
  · rw [add_mk]; exact hB.cell rfl
  · rw [List.length_map] at hl
    rwa [show n = ns.length by omega]

set_option maxRecDepth 100000 in
set_option maxHeartbeats 1000000 in
theorem records_spec {w : World} {p : Option Addr} {n c : Nat} {cs : List UInt8} (ha : BytesAt w p cs) (hn : n = cs.length) (hc : n ≤ c) (hm : c ≤ maxLen) (t : Nat) (ht : t ≤ 255) :
    callC Tryz.prog 7 #[.slice p n c, .int .u8 t] w fun v w' => v = .bool true ∧ Upd No w w' := by
  refine l7_text _ _ _ _ _ _ (callC_of (works_spec w) fun v w1 ⟨e, u1⟩ => ⟨_, e, brC_ff rfl ?_⟩)
  refine callC_of (list_spec (bytes_keep ha u1) hn hc hm) fun v w4 ⟨p5, k6, k7, e, hl, u4, h5⟩ => ⟨p5, k6, k7, e, newC_mk fun w9 B9 u9 s9 => ?_⟩
  generalize hL : listF cs = l at hl h5
  obtain ⟨en, hcap, hcm, _⟩ := hl.get
  subst en
  have U9 := up u1 (up u4 u9)
  have z4 := u4.size
  have z9 := u9.size
  simp only [Int.toNat_natCast, Nat.sub_zero]
  refine ⟨by omega, by omega, by omega, ?_⟩
  have row6 : RowAt w9 ids.str 1 (.slice (some ⟨w4.heap.size, 0, none⟩) 6 6) (nm6.map Value.string) := row_blk B9 6 rfl (by simp only [maxLen]; omega)
  have rowN := row6.cut (lo := 0) (hi := l.length) (by omega) (by omega)
  rw [Nat.zero_mul, List.drop_zero, Nat.mul_one, Nat.sub_zero, ← List.map_take] at rowN
  generalize hN : nm6.take l.length = ns at rowN
  have hnl : ns.length = l.length := by rw [← hN, List.length_take]; simp [nm6]; omega
  have ownN : OwnS w4.heap.size w9 (subP (some ⟨w4.heap.size, 0, none⟩) 6 0 1) l.length 6 ns :=
    ⟨rowN, fun b hb => by rw [in_blk (inRow_cut (n := 6) (c := 6) hb)]; exact Nat.le_refl _, by rw [List.length_map, hnl], by omega, by simp only [maxLen]; omega⟩
  generalize hq : subP (some ⟨w4.heap.size, 0, none⟩) 6 0 1 = qn at ownN
  have H9 := hl.keep u9
  refine c_rec (n0 := w1.heap.size) (strs_row ownN.row) hnl.symm H9 (by omega) (by omega) fun p12 w11 h12 u11 => ⟨_, _, rfl, ?_⟩
  refine brC_intro (fun h0 => ?_) fun h0 => ?_
  · have h0 : l.length = 0 := by have := beq_iff_eq.1 h0; omega
    obtain rfl := List.eq_nil_of_length_eq_zero h0
    obtain rfl := List.eq_nil_of_length_eq_zero (hnl.trans h0)
    refine brC_tt (by decide +kernel) (c_text h12 fun w15 u15 => ⟨_, rfl, ?_, up U9 (up u11 u15)⟩)
    rw [txt_ok (show text (recF [] []).1 = _ by decide +kernel)]
  have hpos : 0 < l.length := Nat.pos_of_ne_zero fun h => by rw [h] at h0; exact absurd h0 (by decide)
  refine brC_tt (by simpa using List.ne_nil_of_length_pos hpos) ?_
  have ek : Int.tmod (IntKind.wrap .i64 (t : Int)) (l.length : Int) = ((t % l.length : Nat) : Int) := by
    rw [Go.SX.wrap_small (by omega) (by omega), tmod_nat]
  rw [ek]
  have hk : t % l.length < l.length := Nat.mod_lt _ hpos
  generalize t % l.length = k at hk
  simp only [Int.toNat_natCast, Nat.sub_zero]
  have z11 := u11.size
  have H11 := H9.keep u11
  refine ⟨by omega, by omega, by omega, ?_⟩
  refine cutS (l := []) (ownNil w11.heap.size w11 ids.str) (Nat.le_refl _) (ownN.keep u11) (by omega) (Nat.le_refl _) (by simp; omega) fun p19 k20 k21 w18 o18 u18 _ _ => ?_
  have v18 : Upd No w11 w18 := upFrom (Upd.refl No w11) u18 (Nat.le_refl _)
  refine ⟨by omega, by omega, by omega, ?_⟩
  refine cutS (lo := 0) (hi := k) o18 v18.size (ownN.keep (up u11 v18)) (by omega) (by omega) (by simp; omega) fun p24 k25 k26 w23 o23 u23 _ _ => ?_
  have v23 : Upd No w11 w23 := upFrom v18 u23 (Nat.le_refl _)
  have eN : [] ++ List.take (l.length - k) (List.drop k ns) ++ List.take (k - 0) (List.drop 0 ns) = ns.drop k ++ ns.take k := by
    rw [List.nil_append, List.take_of_length_le (by simp; omega)]; simp
  rw [eN] at o23
  have z23 := v23.size
  have H23 := H11.keep v23
  refine ⟨by omega, by omega, by omega, ?_⟩
  refine part_cut (OwnT.nil w23.heap.size w23.heap.size (From w1.heap.size) w23) (Nat.le_refl _) H23 (Nat.le_refl _) (Upd.refl _ _) (by omega) (Nat.le_refl _) (by simp; omega) fun p29 k30 k31 w28 o28 u28 => ?_
  have v28 : Upd No w23 w28 := upFrom (Upd.refl No w23) u28 (Nat.le_refl _)
  refine ⟨by omega, by omega, by omega, ?_⟩
  refine part_cut (lo := 0) (hi := k) o28 v28.size H23 (Nat.le_refl _) v28 (by omega) (by omega) (by simp; omega) fun p34 k35 k36 w33 o33 u33 => ?_
  have v33 : Upd No w23 w33 := upFrom v28 u33 (Nat.le_refl _)
  have eL : [] ++ List.take (l.length - k) (List.drop k l) ++ List.take (k - 0) (List.drop 0 l) = l.drop k ++ l.take k := by
    rw [List.nil_append, List.take_of_length_le (by simp)]; simp
  rw [eL] at o33
  have z33 := v33.size
  have o23' := o23.keep v33
  refine c_rec (n0 := w1.heap.size) (strs_row o23'.row) (by rw [o23'.len, List.length_map]) (own_grown o33 (by omega)) (by simp; omega) (by omega) fun p39 w38 h39 u38 => ⟨_, _, rfl, ?_⟩
  have er : recF (ns.drop k ++ ns.take k) (l.drop k ++ l.take k) = recF ns l := recF_perm hnl (by simp [hnl]) (turned_zip hnl k)
  rw [er] at h39 ⊢
  have UA : Upd No w9 w38 := up u11 (up v23 (up v33 u38))
  refine brC_tt (by simp) ?_
  have h12' := h12.keep (up v23 (up v33 u38))
  refine c_same h12' h39 fun w42 u42 => ⟨_, rfl, brC_tt (same_self (rec_small ns l)) ?_⟩
  refine brC_intro (fun _ => ⟨trivial, up U9 (up UA u42)⟩) fun hz => ?_
  have hz : (recF ns l).2 = 0 := by simpa using hz
  obtain ⟨hc0, _, _, _, _, eq⟩ := recF_ok hz
  have h42 := h12'.keep u42
  refine c_check h42 fun w45 u45 => ⟨_, rfl, brC_tt (by rw [hc0]; rfl) ?_⟩
  have h45 := h42.keep u45
  rw [eq] at h45
  refine names_mk h45 ⟨?_, up U9 (up UA (up u42 u45))⟩
  have hlen : ((sortP (ns.zip l)).map (·.1)).length = l.length := by
    obtain ⟨_, hp⟩ := sortP_spec (l := ns.zip l) (by rw [(fst_zip hnl).1]; exact (recF_ok hz).2.2.2.1)
    rw [List.length_map, hp.length_eq, List.length_zip, hnl, Nat.min_self]
  rw [hlen]
  simp
end Go.Proofs.YtpddhbdjcgkjcaaGreatDoor

/- TyKnown. -/
namespace Go.Proofs.YtpddhbdjcgkjcaaGreatDoor
open Go.SX Go.Ty

/-! ### Fun, of a row that is no part of what it answers. -/
theorem tFun_own {l : List T} {r : T} {F : Nat → Prop} {w : World} {p : Option Addr} {n c : Nat} {vs : List Value} {x1 : Option Addr} (h1 : RowAt w ids.ptr 1 (.slice p n c) vs) (h3 : TysAt ids F w vs l) (hl : l.length ≤ 1000000) (hr : TyAt ids F w (.pointer x1) r) :
    callC Tryz.prog 25 #[.slice p n c, .pointer x1] w fun v w' => ∃ q : Option Addr, v = .tuple #[.pointer q, .int .i64 (funF l r).2] ∧ TyAt ids (With F w.heap.size) w' (.pointer q) (funF l r).1 ∧ Upd No w w' := by
  have h : TyRow ids (fun b => F b ∨ InRow (.slice p n c) b) w (.slice p n c) l := ⟨vs, h1, fun b hb => .inr hb, h3.mono fun b _ hb => .inl hb⟩
  have el := h3.length
  refine tFun_text _ _ _ _ _ _ ⟨fun w' => Upd No w w' ∧ (allOk l && check r == 0) = true, ?_, fun b w' => Upd No w w' ∧ b = !(allOk l && check r == 0), ?_, ?_⟩
  · rintro w1 ⟨u1, hok⟩ _
    have eF : funF l r = fits (.mk 8 .empty [] l r) := by unfold funF; rw [if_pos hok]
    rw [eF]
    have hw := u1.size
    refine callC_of (cloT_of (clo_rule (K := fun v w4 => ∃ p' n' c', v = .slice p' n' c' ∧ Own w1.heap.size w4 ids.ptr p' n' c' vs ∧ Upd No w1 w4) elemTyp (by omega) (h1.upd u1 fun _ _ x => x) (one_typs (h3.keep u1)) (by omega) fun p' n' c' w4 o u => ⟨p', n', c', rfl, o, u⟩)) fun v w4 ⟨p', n', c', e, o, u4⟩ => ⟨p', n', c', e, newC_mk fun w9 B9 u9 s9 => ?_⟩
    have hs4 := u4.size
    have hT : TyAt ids (With F w.heap.size) w9 (.pointer (some ⟨w4.heap.size, 0, none⟩)) (.mk 8 .empty [] l r) := by
      refine mkTy (nv := .slice none 0 0) (av := .slice p' n' c') (rv := .pointer x1) B9 (.inr (by omega)) (RowAt.nil _ _ _) (fun b hb => (no_in b hb).elim) (o.row.upd u9 fun _ _ x => x) (fun b hb => .inr (by have := o.own b hb; omega))
        ((h3.keep (up u1 (up u4 u9))).mono fun b _ hb => .inl hb) ?_
      exact ((hr.keep (up u1 (up u4 u9))).mono fun b _ hb => .inl hb)
    exact callC_of (tfits_spec hT) fun v w15 ⟨q, e, hq, u15⟩ => ⟨_, _, e, q, rfl, hq, up (up (up u1 u4) u9) u15⟩
  · rintro b w' ⟨u, rfl⟩ _
    refine brC_intro (fun hb => ?_) fun hb => ⟨u, by simpa using hb⟩
    have eF : funF l r = (.nil, 2) := by
      unfold funF
      rw [if_neg (by intro h; rw [h] at hb; cases hb)]
    rw [eF]
    exact ⟨none, rfl, rfl, u⟩
  · refine callC_of (tall_spec h) fun v w23 ⟨e, u23⟩ => ⟨_, e, brC_intro (fun hb => ⟨u23, ?_⟩) fun hb => newC_mk fun w24 B24 u24 s24 => ?_⟩
    · have hb : allOk l = false := by unfold allOk; simpa using hb
      rw [hb]; rfl
    · have hb : allOk l = true := by unfold allOk; simpa using hb
      have u := up u23 u24
      have hrow : TyRow ids (With F w.heap.size) w24 (.slice (some ⟨w23.heap.size, 0, none⟩) 1 1) [r] :=
        ⟨[.pointer x1], row_one B24, (fun b hb => .inr (by have := u23.size; simp [InRow, Value.ownBlock] at hb; omega)), (hr.keep u).mono (fun b _ hb => .inl hb), trivial⟩
      refine callC_of (tall_spec hrow) fun v w26 ⟨e, u26⟩ => ⟨_, e, up u u26, ?_⟩
      rw [hb]; simp

/-! ### Types that are written out. -/
theorem row1 {n0 : Nat} {w : World} {k : Nat} {p : Option Addr} {t : T} (B : Blk w k #[.pointer p] ids.ptr) (hk : n0 ≤ k) (h : TyAt ids (From n0) w (.pointer p) t) : TyRow ids (From n0) w (.slice (some ⟨k, 0, none⟩) 1 1) [t] :=
  ⟨_, row_blk B 1 rfl (by simp only [maxLen]; omega), fun b hb => by rw [in_blk hb]; exact hk, h, trivial⟩
theorem lit_mk {n0 : Nat} {w : World} {k : Int} {nm : ByteArray} {nv av rv : Value} {ns : List ByteArray} {ta : List T} {r : T} (hN : RowAt w ids.str 1 nv (ns.map Value.string)) (gN : ∀ b, InRow nv b → n0 ≤ b) (hA : TyRow ids (From n0) w av ta) (hR : TyAt ids (From n0) w rv r)
    (hn : n0 ≤ w.heap.size) {K : Nat → World → Prop} (hk : ∀ w', TyAt ids (From n0) w' (.pointer (some ⟨w.heap.size, 0, none⟩)) (.mk k nm ns ta r) → Upd No w w' → K w.heap.size w') : newC w (.cells #[.int .i64 k, .string nm, nv, av, rv] 44) K := by
  refine newC_mk fun w' B u s => hk w' ?_ u
  obtain ⟨vs, h1, h2, h3⟩ := hA
  exact mkTy B hn (hN.upd u fun _ _ x => x) gN (h1.upd u fun _ _ x => x) h2 (h3.keep u) (hR.keep u)
/-- a literal that has no parts but its answer. -/
theorem lit0 {n0 : Nat} {w : World} {k : Int} {nm : ByteArray} {rv : Value} {r : T} (hR : TyAt ids (From n0) w rv r) (hn : n0 ≤ w.heap.size) {K : Nat → World → Prop}
    (hk : ∀ w', TyAt ids (From n0) w' (.pointer (some ⟨w.heap.size, 0, none⟩)) (.mk k nm [] [] r) → Upd No w w' → K w.heap.size w') : newC w (.cells #[.int .i64 k, .string nm, .slice none 0 0, .slice none 0 0, rv] 44) K :=
  lit_mk (ns := []) (RowAt.nil _ _ _) (fun b hb => (no_in b hb).elim) row0 hR hn hk
theorem lit1 {n0 : Nat} {w : World} {k : Int} {nm : ByteArray} {rv : Value} {r t : T} {p : Option Addr} (hp : TyAt ids (From n0) w (.pointer p) t) (hR : TyAt ids (From n0) w rv r) (hn : n0 ≤ w.heap.size) {K : Nat → Nat → World → Prop}
    (hk : ∀ k1 k2 w', TyAt ids (From n0) w' (.pointer (some ⟨k2, 0, none⟩)) (.mk k nm [] [t] r) → Upd No w w' → K k1 k2 w') :
    newC w (.cells #[.pointer p] ids.ptr) fun k1 w1 => newC w1 (.cells #[.int .i64 k, .string nm, .slice none 0 0, .slice (some ⟨k1, 0, none⟩) 1 1, rv] 44) fun k2 w2 => K k1 k2 w2 :=
  newC_mk fun w1 B1 u1 s1 => lit_mk (ns := []) (RowAt.nil _ _ _) (fun b hb => (no_in b hb).elim) (row1 B1 hn (hp.keep u1)) (hR.keep u1) (by omega) fun w2 h2 u2 => hk _ _ w2 h2 (up u1 u2)
theorem lit2 {n0 : Nat} {w : World} {k : Int} {nm : ByteArray} {rv : Value} {r t t' : T} {p q : Option Addr} (hp : TyAt ids (From n0) w (.pointer p) t) (hq : TyAt ids (From n0) w (.pointer q) t') (hR : TyAt ids (From n0) w rv r) (hn : n0 ≤ w.heap.size) {K : Nat → Nat → World → Prop}
    (hk : ∀ k1 k2 w', TyAt ids (From n0) w' (.pointer (some ⟨k2, 0, none⟩)) (.mk k nm [] [t, t'] r) → Upd No w w' → K k1 k2 w') :
    newC w (.cells #[.pointer p, .pointer q] ids.ptr) fun k1 w1 => newC w1 (.cells #[.int .i64 k, .string nm, .slice none 0 0, .slice (some ⟨k1, 0, none⟩) 2 2, rv] 44) fun k2 w2 => K k1 k2 w2 :=
  newC_mk fun w1 B1 u1 s1 => lit_mk (ns := []) (RowAt.nil _ _ _) (fun b hb => (no_in b hb).elim) (row2 B1 hn (hp.keep u1) (hq.keep u1)) (hR.keep u1) (by omega) fun w2 h2 u2 => hk _ _ w2 h2 (up u1 u2)
/-- with a name, and no parts. -/
theorem litN {n0 : Nat} {w : World} {k : Int} {nm n : ByteArray} {rv : Value} {r : T} (hR : TyAt ids (From n0) w rv r) (hn : n0 ≤ w.heap.size) {K : Nat → Nat → World → Prop}
    (hk : ∀ k1 k2 w', TyAt ids (From n0) w' (.pointer (some ⟨k2, 0, none⟩)) (.mk k nm [n] [] r) → Upd No w w' → K k1 k2 w') :
    newC w (.cells #[.string n] ids.str) fun k1 w1 => newC w1 (.cells #[.int .i64 k, .string nm, .slice (some ⟨k1, 0, none⟩) 1 1, .slice none 0 0, rv] 44) fun k2 w2 => K k1 k2 w2 :=
  newC_mk fun w1 B1 u1 s1 => lit_mk (ns := [n]) (row_blk B1 1 rfl (by simp only [maxLen]; omega)) (fun b hb => by rw [in_blk hb]; exact hn) row0 (hR.keep u1) (by omega) fun w2 h2 u2 => hk _ _ w2 h2 (up u1 u2)
/-- with a name, and a part. -/
theorem litN1 {n0 : Nat} {w : World} {k : Int} {nm n : ByteArray} {rv : Value} {r t : T} {p : Option Addr} (hp : TyAt ids (From n0) w (.pointer p) t) (hR : TyAt ids (From n0) w rv r) (hn : n0 ≤ w.heap.size) {K : Nat → Nat → Nat → World → Prop}
    (hk : ∀ k1 k2 k3 w', TyAt ids (From n0) w' (.pointer (some ⟨k3, 0, none⟩)) (.mk k nm [n] [t] r) → Upd No w w' → K k1 k2 k3 w') :
    newC w (.cells #[.string n] ids.str) fun k1 w1 => newC w1 (.cells #[.pointer p] ids.ptr) fun k2 w2 => newC w2 (.cells #[.int .i64 k, .string nm, .slice (some ⟨k1, 0, none⟩) 1 1, .slice (some ⟨k2, 0, none⟩) 1 1, rv] 44) fun k3 w3 => K k1 k2 k3 w3 :=
  newC_mk fun w1 B1 u1 s1 => newC_mk fun w2 B2 u2 s2 => lit_mk (ns := [n]) (row_blk (B1.upd u2 id) 1 rfl (by simp only [maxLen]; omega)) (fun b hb => by rw [in_blk hb]; exact hn) (row1 B2 (by omega) (hp.keep (up u1 u2))) (hR.keep (up u1 u2)) (by omega) fun w3 h3 u3 => hk _ _ _ w3 h3 (up u1 (up u2 u3))
/-- with two names, and two parts. -/
theorem litN2 {n0 : Nat} {w : World} {k : Int} {nm n m : ByteArray} {rv : Value} {r t t' : T} {p q : Option Addr} (hp : TyAt ids (From n0) w (.pointer p) t) (hq : TyAt ids (From n0) w (.pointer q) t') (hR : TyAt ids (From n0) w rv r) (hn : n0 ≤ w.heap.size) {K : Nat → Nat → Nat → World → Prop}
    (hk : ∀ k1 k2 k3 w', TyAt ids (From n0) w' (.pointer (some ⟨k3, 0, none⟩)) (.mk k nm [n, m] [t, t'] r) → Upd No w w' → K k1 k2 k3 w') :
    newC w (.cells #[.string n, .string m] ids.str) fun k1 w1 => newC w1 (.cells #[.pointer p, .pointer q] ids.ptr) fun k2 w2 => newC w2 (.cells #[.int .i64 k, .string nm, .slice (some ⟨k1, 0, none⟩) 2 2, .slice (some ⟨k2, 0, none⟩) 2 2, rv] 44) fun k3 w3 => K k1 k2 k3 w3 :=
  newC_mk fun w1 B1 u1 s1 => newC_mk fun w2 B2 u2 s2 => lit_mk (ns := [n, m]) (row_blk (B1.upd u2 id) 2 rfl (by simp only [maxLen]; omega)) (fun b hb => by rw [in_blk hb]; exact hn) (row2 B2 (by omega) (hp.keep (up u1 u2)) (hq.keep (up u1 u2))) (hR.keep (up u1 u2)) (by omega) fun w3 h3 u3 => hk _ _ _ w3 h3 (up u1 (up u2 u3))

/-- what has been made so far. -/
structure St (n0 : Nat) (wb : World) (pi ps : Option Addr) (w : World) (vs : List Value) (ts : List T) : Prop where
  u : Upd No wb w
  le : n0 ≤ w.heap.size
  i : TyAt ids (From n0) w (.pointer pi) (tk 2)
  s : TyAt ids (From n0) w (.pointer ps) (tk 4)
  l : TysAt ids (From n0) w vs ts
theorem St.keep {n0 : Nat} {wb : World} {pi ps : Option Addr} {w w' : World} {vs : List Value} {ts : List T} (S : St n0 wb pi ps w vs ts) (u : Upd No w w') : St n0 wb pi ps w' vs ts :=
  ⟨up S.u u, by have := u.size; have := S.le; omega, S.i.keep u, S.s.keep u, S.l.keep u⟩
theorem St.add {n0 : Nat} {wb : World} {pi ps : Option Addr} {w w' : World} {vs : List Value} {ts : List T} (S : St n0 wb pi ps w vs ts) (u : Upd No w w') {v : Value} {t : T} (h : TyAt ids (From n0) w' v t) : St n0 wb pi ps w' (vs ++ [v]) (ts ++ [t]) :=
  have S' := S.keep u
  ⟨S'.u, S'.le, S'.i, S'.s, S'.l.append ⟨h, trivial⟩⟩
/-- a cell of a row in a block. -/
theorem cellT {F : Nat → Prop} {w : World} {k n c : Nat} {l : List T} (h : TyRow ids F w (.slice (some ⟨k, 0, none⟩) n c) l) {i : Nat} (hi : i < l.length) :
    ∃ q, (∀ w', Upd No w w' → w'.cell? (Addr.add ⟨k, 0, none⟩ (Int.toNat (i : Int) * 1)) = some (.pointer q)) ∧ TyAt ids F w (.pointer q) l[i] := by
  obtain ⟨_, _, _, hg⟩ := h.get
  obtain ⟨g, o, v, e, hv, ht⟩ := hg i l[i] (List.getElem?_eq_getElem hi)
  cases e
  obtain ⟨q, e, _⟩ := ptr_shape ht
  subst e
  refine ⟨q, fun w' u => cell_keep ?_ u, ht⟩
  rw [add_mk, Int.toNat_natCast, Nat.mul_one]
  exact hv

/-! ### The plain law. -/
def badL : List T := [tk 0, tk 10, tk (-1), .mk 6 (ByteArray.mk #[]) [] [] .nil, .mk 6 (ByteArray.mk #[97, 32, 98]) [] [] .nil, .mk 2 (ByteArray.mk #[120]) [] [] .nil, .mk 2 (ByteArray.mk #[]) [] [] (tk 2), .mk 2 (ByteArray.mk #[]) [] [tk 2] .nil,
  .mk 7 (ByteArray.mk #[]) [ByteArray.mk #[97]] [] .nil, .mk 7 (ByteArray.mk #[]) [ByteArray.mk #[98], ByteArray.mk #[97]] [tk 2, tk 2] .nil, .mk 7 (ByteArray.mk #[]) [ByteArray.mk #[97], ByteArray.mk #[97]] [tk 2, tk 2] .nil,
  .mk 7 (ByteArray.mk #[]) [ByteArray.mk #[49]] [tk 2] .nil, .mk 7 (ByteArray.mk #[]) [ByteArray.mk #[97]] [.nil] .nil, .mk 8 (ByteArray.mk #[]) [] [] .nil, .mk 8 (ByteArray.mk #[]) [ByteArray.mk #[97]] [] (tk 2), .mk 9 (ByteArray.mk #[]) [] [] .nil,
  .mk 9 (ByteArray.mk #[]) [] [tk 2] .nil, .mk 9 (ByteArray.mk #[]) [] [tk 4, tk 2] .nil, .mk 9 (ByteArray.mk #[]) [] [tk 2, tk 2] .nil,
  .mk 9 (ByteArray.mk #[]) [] [tk 2, tk 1] .nil, .mk 9 (ByteArray.mk #[]) [] [tk 2, .mk 9 (ByteArray.mk #[]) [] [tk 2, tk 4] .nil] .nil]
theorem bad_check : ∀ b ∈ badL, check b = 2 := by decide +kernel
theorem bad_union {b : T} (h : check b = 2) : unionF [b] = (.nil, 2) := by
  have : allOk [b] = false := by simp [allOk, h]
  unfold unionF
  rw [this]
  rfl
theorem bad_fun {b r : T} (h : check b = 2) : funF [b] r = (.nil, 2) := by
  have : allOk [b] = false := by simp [allOk, h]
  unfold funF
  rw [this]
  rfl
theorem bad_rec {b : T} {n : ByteArray} (h : check b = 2) : recF [n] [b] = (.nil, 2) := by
  have : allOk [b] = false := by simp [allOk, h]
  unfold recF
  rw [this]
  simp
theorem bad_text {b : T} (h : check b = 2) : text b = [] := by
  unfold text
  rw [h]
  rfl
def twT : Nat → T
  | 0 => tk 2
  | n + 1 => .mk 8 .empty [] [twT n] (twT n)
theorem tw_size : ∀ n, 2 ^ n ≤ size (twT n)
  | 0 => by decide
  | n + 1 => by
    have := tw_size n
    rw [twT, size, sizes, sizes]
    omega
theorem tw_large : 61 ≤ size (twT 40) := Nat.le_trans (by decide) (tw_size 40)
def manyT (n : Nat) : List T := List.replicate n (tk 2)
def aT : T := .mk 8 .empty [] (manyT 58) (tk 4)
def dT : T := .mk 8 .empty [] [aT] (tk 4)
def longB (n : Nat) : ByteArray := bs (List.replicate n 120)
theorem long_succ (n : Nat) : longB n ++ ByteArray.mk #[120] = longB (n + 1) := by
  rw [longB, longB, List.replicate_succ']
  apply txt_inj
  simp [txt, bs]
theorem long_size (n : Nat) : (longB n).size = n := by simp [longB, bs, ByteArray.size]
theorem fun_ok : funF (manyT 58) (tk 4) = (aT, 0) := by decide +kernel
theorem fun_long : funF (manyT 59) (tk 4) = (.nil, 3) := by decide +kernel
theorem a_size : size aT = 60 := by decide +kernel
theorem d_check : check dT = 3 := by decide +kernel
theorem d_size : size dT = 62 := by decide +kernel
theorem name_ok : check (.mk 6 (longB 161) [] [] .nil) = 0 := by decide +kernel
theorem name_long : check (.mk 6 (longB 162) [] [] .nil) = 2 := by decide +kernel
theorem union_large : unionF [aT, .mk 6 (ByteArray.mk #[84]) [] [] .nil] = (.nil, 3) := by decide +kernel
theorem union_tells : Tells [aT, .mk 6 (bs [84]) [] [] .nil] := tells_of (by decide +kernel)
theorem rec_long : (recF [ByteArray.mk #[97, 49, 50, 51, 52, 53, 54, 55, 56, 57, 48, 49, 50, 51, 52, 53, 54, 55, 56, 57, 48, 49, 50, 51, 52]] [tk 2]).2 = 2 := by decide +kernel
theorem rec_fits : (recF [ByteArray.mk #[97, 49, 50, 51, 52, 53, 54, 55, 56, 57, 48, 49, 50, 51, 52, 53, 54, 55, 56, 57, 48, 49, 50, 51]] [tk 2]).2 = 0 := by decide +kernel
end Go.Proofs.YtpddhbdjcgkjcaaGreatDoor

/- TyKnown: its walk. -/
namespace Go.Proofs.YtpddhbdjcgkjcaaGreatDoor
open Go.SX Go.Ty

/-- a slice of bytes with nothing in it, as a text. -/
theorem no_bytes {w : World} {K : ByteArray → World → Prop} (hK : ∀ w', Upd No w w' → K ByteArray.empty w') :
    runC Tryz.prog (Instr.makeSlice 22 (.int .i64 0) (.int .i64 200)) w fun v w1 => ∃ p n c, v = .slice p n c ∧ runC Tryz.prog (convert 22 9 (.slice p n c)) w1 fun v w2 => ∃ s, v = .string s ∧ K s w2 := by
  obtain ⟨io, hj1, hj2, hj3, hj4⟩ := info_get (P := Tryz.prog) (e := 5) (s := 1) (b := 1) (z := .int .u8 0) (by kernel_rfl)
  have undBs : Tryz.prog.underlying 22 = some (.slice 5) := by kernel_rfl
  have undB : Tryz.prog.underlying 5 = some (.int .u8) := by kernel_rfl
  have undS : Tryz.prog.underlying 9 = some .string := by kernel_rfl
  have hmk := run_makeSlice (P := Tryz.prog) w 22 5 io (.int .u8 0) undBs hj1 hj2 .i64 .i64 0 200 (by omega) (by omega) (by rw [hj3]; omega) (by rw [hj4]; omega) (by omega)
  refine ⟨_, _, hmk, _, _, _, rfl, .string ByteArray.empty, w.alloc (.cells (madeCells (Value.int .u8 0).cells ((200 : Int).toNat * io.size)) 5), ?_, ByteArray.empty, rfl, hK _ (upd_alloc w _)⟩
  rw [run_convert_bytes_string (e := 5) _ 22 9 _ _ _ undBs undB undS]
  have hl : (loadCells ⟨w.heap.size, 0, none⟩ 0).run Tryz.prog (w.alloc (.cells (madeCells (Value.int .u8 0).cells ((200 : Int).toNat * io.size)) 5)) = .ok (([] : List Int).map (Value.int .u8)).toArray (w.alloc (.cells (madeCells (Value.int .u8 0).cells ((200 : Int).toNat * io.size)) 5)) :=
    run_loadCells_list (P := Tryz.prog) _ ⟨w.heap.size, 0, none⟩ (([] : List Int).map (Value.int .u8)) fun j v hj => by simp at hj
  exact run_bytesToString _ _ 0 200 _ hl

theorem strs1 {w : World} {k : Nat} {s : ByteArray} (B : Blk w k #[.string s] ids.str) : StrsAt w (some ⟨k, 0, none⟩) [s] := strs_row (l := [s]) (row_blk B 1 rfl (by simp only [maxLen]; omega))
theorem not_ok {b : T} {l : List T} (h : check b = 2) (hb : b ∈ l) {P : Prop} (hk : allOk l = true) : P := by
  have := allOk_iff.1 hk b hb
  omega

theorem c_unionE {n0 : Nat} {w : World} {K : Value → World → Prop} {l : List T} {t : T} {k : Int} (e : unionF l = (t, k)) {p : Option Addr} {n c : Nat} (h : TyRow ids (From n0) w (.slice p n c) l) (hl : l.length ≤ 1000000) (hT : allOk l = true → Tells l) (hn : n0 ≤ w.heap.size)
    (hk : ∀ q w', TyAt ids (From n0) w' (.pointer q) t → Upd No w w' → K (.tuple #[.pointer q, .int .i64 k]) w') : callC Tryz.prog 23 #[.slice p n c] w K :=
  c_union h hl hT hn fun q w' h u => by rw [e] at h ⊢; exact hk q w' h u
theorem rowL {n0 : Nat} {w : World} {k : Nat} {vs : List Value} {ts : List T} (B : Blk w k vs.toArray ids.ptr) (n : Nat) (hn : vs.length = n) (hm : n ≤ 1000) (hk : n0 ≤ k) (h : TysAt ids (From n0) w vs ts) : TyRow ids (From n0) w (.slice (some ⟨k, 0, none⟩) n n) ts :=
  ⟨vs, row_blk B n (by simpa using hn) (by simp only [maxLen]; omega), fun b hb => by rw [in_blk hb]; exact hk, h⟩

set_option maxRecDepth 100000 in
set_option maxHeartbeats 4000000 in
theorem known_spec (w : World) : callC Tryz.prog 8 #[] w fun v w' => v = .bool true ∧ Upd No w w' := by
  refine l8_text _ _ ?_
  refine c_kind (n0 := w.heap.size) 2 (Nat.le_refl _) fun p2 w1 h2 u1 => ⟨_, rfl, ?_⟩
  refine c_kind (n0 := w.heap.size) 4 u1.size fun p5 w4 h5 u4 => ⟨_, rfl, ?_⟩
  have S : St w.heap.size w p2 p5 w4 [] [] := ⟨up u1 u4, (up u1 u4).size, h2.keep u4, h5, trivial⟩
  clear h2 h5 u1 u4
  refine c_kind (n0 := w.heap.size) 0 S.le fun p8 w7 h u => ⟨_, rfl, ?_⟩
  replace S := S.add u h; clear h u
  refine c_kind (n0 := w.heap.size) 10 S.le fun p11 w10 h u => ⟨_, rfl, ?_⟩
  replace S := S.add u h; clear h u
  refine c_kind (n0 := w.heap.size) (-1) S.le fun p14 w13 h u => ⟨_, rfl, ?_⟩
  replace S := S.add u h; clear h u
  refine lit0 (r := .nil) rfl S.le fun w16 h u => ?_
  replace S := S.add u h; clear h u
  refine lit0 (r := .nil) rfl S.le fun w18 h u => ?_
  replace S := S.add u h; clear h u
  refine lit0 (r := .nil) rfl S.le fun w20 h u => ?_
  replace S := S.add u h; clear h u
  refine lit0 S.i S.le fun w22 h u => ?_
  replace S := S.add u h; clear h u
  refine lit1 (r := .nil) S.i rfl S.le fun k23 k25 w26 h u => ?_
  replace S := S.add u h; clear h u
  refine litN (r := .nil) rfl S.le fun k27 k29 w30 h u => ?_
  replace S := S.add u h; clear h u
  refine litN2 (r := .nil) S.i S.i rfl S.le fun k31 k33 k35 w36 h u => ?_
  replace S := S.add u h; clear h u
  refine litN2 (r := .nil) S.i S.i rfl S.le fun k37 k39 k41 w42 h u => ?_
  replace S := S.add u h; clear h u
  refine litN1 (r := .nil) S.i rfl S.le fun k43 k45 k47 w48 h u => ?_
  replace S := S.add u h; clear h u
  refine litN1 (r := .nil) (t := .nil) rfl rfl S.le fun k49 k51 k53 w54 h u => ?_
  replace S := S.add u h; clear h u
  refine lit0 (r := .nil) rfl S.le fun w56 h u => ?_
  replace S := S.add u h; clear h u
  refine litN S.i S.le fun k57 k59 w60 h u => ?_
  replace S := S.add u h; clear h u
  refine lit0 (r := .nil) rfl S.le fun w62 h u => ?_
  replace S := S.add u h; clear h u
  refine lit1 (r := .nil) S.i rfl S.le fun k63 k65 w66 h u => ?_
  replace S := S.add u h; clear h u
  refine lit2 (r := .nil) S.s S.i rfl S.le fun k67 k69 w70 h u => ?_
  replace S := S.add u h; clear h u
  refine lit2 (r := .nil) S.i S.i rfl S.le fun k71 k73 w74 h u => ?_
  replace S := S.add u h; clear h u
  refine c_kind (n0 := w.heap.size) 1 S.le fun p77 w76 h77 u => ⟨_, rfl, ?_⟩
  replace S := S.keep u; clear u
  refine lit2 (r := .nil) S.i h77 rfl S.le fun k78 k80 w81 h u => ?_
  replace S := S.add u h; clear h u h77
  refine lit2 (r := .nil) S.i S.s rfl S.le fun k82 k84 w85 h84 u => ?_
  replace S := S.keep u; clear u
  refine lit2 (r := .nil) S.i h84 rfl S.le fun k86 k88 w89 h u => ?_
  replace S := S.add u h; clear h u h84
  refine newC_mk fun w91 B91 u91 s91 => ?_
  have le89 := S.le
  replace S := S.keep u91
  simp only [List.nil_append, List.cons_append] at S
  have hrow : TyRow ids (From w.heap.size) w91 (.slice (some ⟨w89.heap.size, 0, none⟩) 21 21) badL := rowL B91 21 rfl (by omega) le89 S.l
  clear B91
  have S0 : St w.heap.size w p2 p5 w91 [] [] := ⟨S.u, S.le, S.i, S.s, trivial⟩
  clear S
  have el : badL.length = 21 := rfl
  refine ⟨fun n w' => ∃ i : Nat, n = i ∧ i ≤ 21 ∧ Upd No w91 w', fun n _ => (21 - n).toNat, ⟨0, rfl, by omega, Upd.refl _ _⟩, ?_⟩
  rintro n w95 ⟨i, rfl, hi, u95⟩ _
  refine brC_intro (fun hlt => ?_) fun _ => ?_
  · have hlt : i < 21 := by have := of_decide_eq_true hlt; omega
    refine ⟨fun w' => Upd No w91 w', fun w98 u98 _ => ?_, by omega, by omega, ?_⟩
    · rw [wrap_succ (by omega)]
      exact ⟨⟨i + 1, rfl, hlt, u98⟩, by dsimp only; omega⟩
    have S95 := S0.keep u95
    obtain ⟨q, hc, hq⟩ := cellT (hrow.keep u95) (show i < badL.length from hlt)
    have hb : check badL[i] = 2 := bad_check _ (List.getElem_mem _)
    generalize badL[i] = b at hq hb
    refine ⟨q, hc _ (Upd.refl _ _), newC_mk fun w102 B102 u102 _ => ?_⟩
    refine c_union (n0 := w.heap.size) (row1 B102 S95.le (hq.keep u102)) (by simp) (fun h => not_ok hb (by simp) h) (S95.keep u102).le fun p105 w104 _ u104 => ⟨_, _, rfl, by omega, by omega, q, hc _ (up u102 u104), newC_mk fun w109 B109 u109 _ => ?_⟩
    have U109 := up u102 (up u104 u109)
    have S104 := S95.keep (up u102 u104)
    refine c_fun (n0 := w.heap.size) (row1 B109 S104.le (hq.keep U109)) (by simp) (S95.keep U109).i (S95.keep U109).le fun p112 w111 _ u111 => ⟨_, _, rfl, newC_mk fun w115 B115 u115 _ => ?_⟩
    have U115 := up U109 (up u111 u115)
    refine ⟨by omega, by omega, q, hc _ U115, newC_mk fun w118 B118 u118 _ => ?_⟩
    have U118 := up U115 u118
    refine c_rec (n0 := w.heap.size) (strs1 (B115.upd u118 id)) rfl (row1 B118 (S95.keep U115).le (hq.keep U118)) (by simp) (S95.keep U118).le fun p121 w120 _ u120 => ⟨_, _, rfl, ?_⟩
    have U120 := up U118 u120
    refine ⟨fun x w' => x = false ∧ Upd No w91 w', ?_, by omega, by omega, q, hc _ U120, c_check (hq.keep U120) fun w129 u129 => ⟨_, rfl, brC_ff (by rw [hb]; rfl) ?_⟩⟩
    · rintro x w' ⟨rfl, u⟩ _
      exact brC_ff rfl u
    have U129 := up U120 u129
    refine ⟨by omega, by omega, q, hc _ U129, c_text (hq.keep U129) fun w133 u133 => ⟨_, rfl, brC_ff ?_ (brC_ff (by rw [bad_union hb]; rfl) (brC_ff (by rw [bad_fun hb]; rfl) ⟨by rw [bad_rec hb]; rfl, up u95 (up U129 u133)⟩))⟩⟩
    rw [bad_text hb, show ByteArray.mk #[] = bs [] from rfl]
    simp
  clear hi
  have S := S0.keep u95
  have le95 := S.le
  clear hrow u95
  have hi1 := ty_here S.i
  have hs1 := ty_here S.s
  refine ⟨fun p k k' n w' => ∃ j : Nat, n = j ∧ j ≤ 58 ∧ Upd No w95 w' ∧ OwnT w95.heap.size w95.heap.size (From w.heap.size) w' p k k' (manyT j), fun _ _ _ n _ => (58 - n).toNat, ⟨0, rfl, by omega, Upd.refl _ _, OwnT.nil _ _ _ _⟩, ?_⟩
  rintro p137 k138 k139 n w141 ⟨j, rfl, hj, u141, O⟩ _
  refine brC_intro (fun hlt => newC_mk fun w144 B u144 _ => ?_) fun hge => ?_
  · have hlt : j < 58 := by have := of_decide_eq_true hlt; omega
    refine (O.keep u144).grow1 (Nat.le_refl _) (up u141 u144).size B (hi1.keep (up u141 u144)) (by simp [manyT]; omega) fun p' n' c' w146 o u146 _ _ => ?_
    rw [wrap_succ (by omega)]
    exact ⟨⟨j + 1, rfl, hlt, upFrom (up u141 u144) u146 (Nat.le_refl _), by rw [manyT, List.replicate_succ']; exact o⟩, by dsimp only; omega⟩
  obtain rfl : j = 58 := by have := of_decide_eq_false hge; omega
  clear hge hj
  have z141 := u141.size
  obtain ⟨vs, o1, o2⟩ := O.ex
  have key := tFun_own o1.row o2 (by simp [manyT]) (hs1.keep u141)
  rw [fun_ok] at key
  refine callC_of key fun v w151 ⟨p152, e, hA, u151⟩ => ⟨p152, _, e, newC_mk fun w155 B155 u155 _ => ?_⟩
  have U155 := up u141 (up u151 u155)
  refine (O.keep (up u151 u155)).grow1 (Nat.le_refl _) U155.size B155 (hi1.keep U155) (by simp [manyT]) fun p158 k159 k160 w157 o157 u157 _ uin => ?_
  have U157 : Upd No w95 w157 := upFrom U155 u157 (Nat.le_refl _)
  have hA : TyAt ids (From w.heap.size) w157 (.pointer p152) aT := by
    have h := (hA.keep u155).upd uin fun b hb hin => hb.elim (fun hb => by have := o1.own b hin; have : b < w95.heap.size := hb.2; omega) fun (hb : w141.heap.size ≤ b) => by have := o1.row.lt hin; omega
    exact h.mono fun b _ hb => hb.elim (fun hb => hb.1) fun (hb : w141.heap.size ≤ b) => by have := S.le; show w.heap.size ≤ b; omega
  have eM : manyT 58 ++ [tk 2] = manyT 59 := List.replicate_succ'.symm
  rw [eM] at o157
  replace S := S.keep U157
  clear hi1 hs1 O o1 o2 key u141 u151 u155 U155 u157 uin U157 B155 z141
  refine c_fun (n0 := w.heap.size) (own_grown o157 le95) (by simp [manyT]) S.s S.le fun p163 w162 _ u162 => ⟨_, _, rfl, ?_⟩
  replace S := S.keep u162
  replace hA := hA.keep u162
  clear u162 o157
  refine lit1 hA S.s S.le fun k165 k167 w168 hd u => ?_
  replace hd : TyAt ids (From w.heap.size) w168 (.pointer (some ⟨k167, 0, none⟩)) dT := hd
  replace S := S.keep u
  replace hA := hA.keep u
  clear u
  refine no_bytes fun w175 u => ?_
  replace S := S.keep u
  replace hA := hA.keep u
  replace hd := hd.keep u
  clear u
  refine ⟨fun s w' => ∃ j, s = longB j ∧ j ≤ 161 ∧ Upd No w175 w', fun s _ => 161 - s.size, ⟨0, rfl, by omega, Upd.refl _ _⟩, ?_⟩
  rintro s w180 ⟨j, rfl, hj, u180⟩ _
  rw [long_size]
  refine brC_intro (fun hlt => ?_) fun hge => ?_
  · have hlt : j < 161 := by have := of_decide_eq_true hlt; omega
    refine ⟨by omega, ⟨j + 1, long_succ j, hlt, u180⟩, ?_⟩
    dsimp only
    rw [long_succ, long_size, long_size]
    omega
  obtain rfl : j = 161 := by have := of_decide_eq_false hge; omega
  clear hge hj
  replace S := S.keep u180
  replace hA := hA.keep u180
  replace hd := hd.keep u180
  clear u180
  refine lit0 (r := .nil) rfl S.le fun w183 hn u => newC_mk fun w185 B185 u185 _ => newC_mk fun w187 B187 u187 _ => ?_
  have S183 := S.keep u
  have S185 := S183.keep u185
  have S187 := S185.keep u187
  refine c_rec (n0 := w.heap.size) (strs1 (B185.upd u187 id)) rfl (row1 B187 S185.le S187.i) (by simp) S187.le fun p190 w189 _ u189 => ⟨_, _, rfl, newC_mk fun w193 B193 u193 _ => newC_mk fun w195 B195 u195 _ => ?_⟩
  have S193 := S187.keep (up u189 u193)
  have S195 := S193.keep u195
  refine c_rec (n0 := w.heap.size) (strs1 (B193.upd u195 id)) rfl (row1 B195 S193.le S195.i) (by simp) S195.le fun p198 w197 _ u197 => ⟨_, _, rfl, newC_mk fun w201 B201 u201 _ => ?_⟩
  have S197 := S195.keep u197
  have S201 := S197.keep u201
  refine c_union (n0 := w.heap.size) (row1 (t := .nil) B201 S197.le rfl) (by simp) (fun h => by simp [allOk, check, T.isNil] at h) S201.le fun p204 w203 _ u203 => ⟨_, _, rfl, ?_⟩
  have U203 : Upd No w180 w203 := up u (up u185 (up u187 (up u189 (up u193 (up u195 (up u197 (up u201 u203)))))))
  replace hn := hn.keep (up u185 (up u187 (up u189 (up u193 (up u195 (up u197 (up u201 u203)))))))
  replace S := S.keep U203
  replace hA := hA.keep U203
  replace hd := hd.keep U203
  clear S183 S185 S187 S193 S195 S197 S201 U203 u u185 u187 u189 u193 u195 u197 u201 u203 B185 B187 B193 B195 B201
  refine ⟨fun p n w' => ∃ j : Nat, n = j ∧ j ≤ 40 ∧ Upd No w203 w' ∧ TyAt ids (From w.heap.size) w' (.pointer p) (twT j), fun _ n _ => (40 - n).toNat, ⟨0, rfl, by omega, Upd.refl _ _, S.i⟩, ?_⟩
  rintro p208 n w210 ⟨j, rfl, hj, u210, ht⟩ _
  refine brC_intro (fun hlt => ?_) fun hge => ?_
  · have hlt : j < 40 := by have := of_decide_eq_true hlt; omega
    refine lit1 ht ht (S.keep u210).le fun k212 k214 w215 h u => ?_
    rw [wrap_succ (by omega)]
    exact ⟨⟨j + 1, rfl, hlt, up u210 u, h⟩, by dsimp only; omega⟩
  obtain rfl : j = 40 := by have := of_decide_eq_false hge; omega
  clear hge hj
  have hl := tw_large
  generalize hT : twT 40 = tw at ht hl
  replace S := S.keep u210
  replace hA := hA.keep u210
  replace hd := hd.keep u210
  replace hn := hn.keep u210
  clear u210
  refine lit0 (r := .nil) rfl S.le fun w217 hT' u => newC_mk fun w219 B219 u219 _ => ?_
  have U219 := up u u219
  refine c_unionE (n0 := w.heap.size) union_large (row2 B219 (S.keep u).le (hA.keep U219) (hT'.keep u219)) (by simp) (fun _ => union_tells) (S.keep U219).le fun p222 w221 h222 u221 => ⟨_, _, rfl, ?_⟩
  refine callC_of (works_spec w221) fun v w225 ⟨e, u225⟩ => ⟨_, e, brC_tt rfl ?_⟩
  have U225 := up U219 (up u221 u225)
  have S := S.keep U225
  have hA := hA.keep U225
  have hd := hd.keep U225
  have hn := hn.keep U225
  have ht := ht.keep U225
  have h222 := h222.keep u225
  clear u u219 U219 u221 u225 U225 B219 hT'
  refine brC_tt rfl (c_size hA fun w228 u228 => ⟨_, rfl, brC_tt (by rw [a_size]; rfl) (brC_tt (by rw [fun_long]; rfl) ?_)⟩)
  refine c_check (hd.keep u228) fun w231 u231 => ⟨_, rfl, brC_tt (by rw [d_check]; rfl) ?_⟩
  have U231 := up u228 u231
  refine c_size (hd.keep U231) fun w234 u234 => ⟨_, rfl, brC_tt (by rw [d_size]; rfl) ?_⟩
  have U234 := up U231 u234
  refine c_check (hn.keep U234) fun w237 u237 => ⟨_, rfl, brC_tt (by rw [name_ok]; rfl) ?_⟩
  have U237 := up U234 u237
  refine ⟨by omega, ?_⟩
  rw [show longB 161 ++ ByteArray.mk #[120] = longB 162 from long_succ 161]
  refine lit0 (r := .nil) rfl (S.keep U237).le fun w240 h240 u240 => c_check h240 fun w242 u242 => ⟨_, rfl, brC_tt (by rw [name_long]; rfl) (brC_tt (by rw [rec_long]; rfl) (brC_tt (by rw [rec_fits]; rfl) (brC_tt (by decide +kernel) ?_)))⟩
  have U242 := up U237 (up u240 u242)
  have hnil : ∀ w', TyAt ids (From w.heap.size) w' (.pointer none) .nil := fun _ => rfl
  refine c_check (hnil w242) fun w245 u245 => ⟨_, rfl, brC_tt (by decide +kernel) ?_⟩
  refine c_size (hnil w245) fun w248 u248 => ⟨_, rfl, brC_tt (by decide +kernel) ?_⟩
  refine c_text (hnil w248) fun w251 u251 => ⟨_, rfl, brC_tt (by decide +kernel) ?_⟩
  have U251 := up U242 (up u245 (up u248 u251))
  refine c_same (hnil w251) (hnil w251) fun w254 u254 => ⟨_, rfl, brC_tt (by decide +kernel) ?_⟩
  have U254 := up U251 u254
  refine c_same (hnil w254) (S.keep U254).i fun w257 u257 => ⟨_, rfl, brC_tt (by decide +kernel) ?_⟩
  have U257 := up U254 u257
  refine c_size (ht.keep U257) fun w260 u260 => ⟨_, rfl, brC_tt (by rw [Nat.min_eq_right hl]; rfl) ?_⟩
  have U260 := up U257 u260
  have hch : check tw = 3 := by
    unfold check
    have : tw.isNil = false := by rw [← hT]; rfl
    rw [this, if_neg (by simp), if_pos (by omega)]
  have hsm : same tw tw = false := by
    rw [same_decide, decide_eq_false (by omega)]
    rfl
  refine c_check (ht.keep U260) fun w263 u263 => ⟨_, rfl, brC_tt (by rw [hch]; rfl) ?_⟩
  have U263 := up U260 u263
  refine c_same (ht.keep U263) (ht.keep U263) fun w266 u266 => ⟨_, rfl, brC_tt (by rw [hsm]; rfl) ?_⟩
  have U266 := up U263 u266
  refine brC_tt (by rw [ty_isNone h222]; rfl) (brC_tt rfl ?_)
  have n266 := (S.keep U266).le
  refine c_kind (n0 := w.heap.size) 2 n266 fun p270 w269 h270 u269 => ⟨_, rfl, ?_⟩
  refine c_kind (n0 := w.heap.size) 4 (S.keep (up U266 u269)).le fun p273 w272 h273 u272 => ⟨_, rfl, c_same (h270.keep u272) h273 fun w275 u275 => ⟨_, rfl, brC_tt (by decide +kernel) ?_⟩⟩
  have U275 := up U266 (up u269 (up u272 u275))
  refine c_kind (n0 := w.heap.size) 0 (S.keep U275).le fun p279 w278 h279 u278 => ⟨_, rfl, ?_⟩
  refine c_kind (n0 := w.heap.size) 0 (S.keep (up U275 u278)).le fun p282 w281 h282 u281 => ⟨_, rfl, c_same (h279.keep u281) h282 fun w284 u284 => ⟨_, rfl, ?_, up S.u (up U275 (up u278 (up u281 u284)))⟩⟩
  rw [show same (tk 0) (tk 0) = true by decide +kernel]
end Go.Proofs.YtpddhbdjcgkjcaaGreatDoor
