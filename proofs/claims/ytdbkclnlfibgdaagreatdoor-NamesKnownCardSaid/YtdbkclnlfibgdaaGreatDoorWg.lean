/- Joined by program of: Nn, No. -/
import Derived.Test.YtdbkclnlfibgdaaGreatDoorWf

/- NamesKnown: its contract. -/
namespace Go.Proofs.YtdbkclnlfibgdaaGreatDoor
open Go.SX Go.Ty Go.MapKept Go.RowKit Go.Tx

section nil
variable {w : World} {K : Value → World → Prop}
theorem Resolve_nil {x : Option Addr} (hk : ∀ q w', At w' (.pointer q) (tk 1) → Upd No w w' → K (.tuple #[.pointer q, .slice none 0 0]) w') : callC Tryz.prog 10 #[.pointer none, .pointer x] w K :=
  Resolve_text _ _ _ _ (brC_tt rfl (anything_c fun q w1 h u => ⟨_, rfl, hk q w1 (at_of h) u⟩))
theorem Body_nil {x : ByteArray} (hk : ∀ w', Upd No w w' → K (.tuple #[.pointer none, .bool false]) w') : callC Tryz.prog 21 #[.pointer none, .string x] w K :=
  Body_text _ _ _ _ (newC_mk fun w1 _ u1 _ => brC_tt rfl (hk w1 u1))
theorem Named_nil {x y : ByteArray} (hk : K (.tuple #[.pointer none, .bool false]) w) : callC Tryz.prog 19 #[.pointer none, .string x, .string y] w K :=
  Named_text _ _ _ _ _ (brC_tt rfl hk)
theorem Value_nil {x y : ByteArray} (hk : K (.tuple #[.pointer none, .bool false, .bool false]) w) : callC Tryz.prog 20 #[.pointer none, .string x, .string y] w K :=
  Value_text _ _ _ _ _ (brC_tt rfl hk)
theorem Types_nil (hk : ∀ w', Upd No w w' → K (.slice none 0 0) w') : callC Tryz.prog 22 #[.pointer none] w K := by
  refine Types_text _ _ _ ⟨fun p n c w' => p = none ∧ n = 0 ∧ c = 0 ∧ w' = w, ?_, brC_ff rfl ⟨rfl, rfl, rfl, rfl⟩⟩
  rintro p n c w' ⟨rfl, rfl, rfl, rfl⟩ _
  refine sort_c (l := []) (f := fun _ => .pointer none) (RowAt.nil _ _ _) (fun x hx => by cases hx) (by simp) (fun a b e => by cases e) rfl fun w7 r7 hu => ⟨rfl, hk w7 ?_⟩
  rcases hu with u | u
  · exact u.mono fun b _ hb => (no_in b hb).elim
  · exact u
end nil

def src2 : ByteArray := ByteArray.mk #[116, 121, 112, 101, 32, 66, 32, 61, 32, 123, 97, 58, 32, 105, 110, 116, 44, 32, 98, 58, 32, 66, 32, 124, 32, 67, 125, 32, 105, 109, 112, 111, 114, 116, 32, 34, 46, 47, 108, 34, 32, 97, 115, 32, 117, 32, 116, 121, 112, 101, 32, 65, 32, 61, 32, 102, 110, 40, 117, 46, 86, 44, 32, 97, 110, 121, 41, 32, 45, 62, 32, 65, 32, 124, 32, 110, 105, 108, 32, 105, 109, 112, 111, 114, 116, 32, 34, 46, 46, 34, 32, 97, 115, 32, 120]
theorem src2_ok : (parseA src2).isSome = true ∧ dsOkB (dsOf src2) = true ∧ clsB (dsOf src2) = true := by decide +kernel
def S2 : Sc := (scOf src2).1
theorem src2_told : (scOf src2).2.map (·.2) = [3, 5] ∧ ((scOf src2).2.map (·.1))[1]? = some 25 := by decide +kernel
theorem S2_own : S2.owns.length = 2 ∧ (sort2 S2.owns).map (·.1) = [ByteArray.mk #[65], ByteArray.mk #[66]] ∧ (sort2 S2.owns).map (fun x => bs (text x.2)) = [ByteArray.mk #[102, 110, 40, 108, 46, 86, 44, 32, 97, 110, 121, 41, 32, 45, 62, 32, 109, 46, 65, 32, 124, 32, 110, 105, 108], ByteArray.mk #[123, 97, 58, 32, 105, 110, 116, 44, 32, 98, 58, 32, 97, 110, 121, 125]] := by decide +kernel
def lg : Nat → ByteArray
  | 0 => ByteArray.mk #[105, 110, 116]
  | i + 1 => ByteArray.mk #[102, 110, 40] ++ lg i ++ ByteArray.mk #[44, 32] ++ lg i ++ ByteArray.mk #[41, 32, 45, 62, 32, 105, 110, 116]
theorem lg_size : ((List.range 6).all fun i => decide ((lg i).size ≤ 10000)) = true := by decide +kernel
theorem lg_ok : (writtenF (lg 5)).isSome = true ∧ xsz (tOf (lg 5)) ≤ 1000000 := by decide +kernel
def rB : T × List Dg := resF S2 (tOf (lg 5))
theorem rB_ok : bs (text rB.1) = bAny ∧ (rB.2.map (·.2))[0]? = some 12 := by decide +kernel
def odd1 : Wt := .mk 7 4 .empty .empty [ByteArray.mk #[97]] [] .nil
def odd2 : Wt := .mk 99 4 .empty .empty [] [] .nil
def odd3 : Wt := .mk 9 7 .empty .empty [] [] .nil
theorem odd_ok : bs (text (resF S2 odd1).1) = bAny ∧ (resF S2 odd1).2 = [(4, 4)] ∧ bs (text (resF S2 odd2).1) = bAny ∧ (resF S2 odd2).2 = [] ∧ bs (text (resF S2 odd3).1) = bAny ∧ (resF S2 odd3).2.map (·.2) = [12] := by decide +kernel
def k1 : ByteArray := ByteArray.mk #[40, 105, 110, 116, 32, 124, 32, 115, 116, 114, 41, 32, 124, 32, 110, 105, 108, 32, 124, 32, 105, 110, 116]
def k1w : ByteArray := ByteArray.mk #[105, 110, 116, 32, 124, 32, 110, 105, 108, 32, 124, 32, 115, 116, 114]
def k2 : ByteArray := ByteArray.mk #[117, 46, 86]
def k3 : ByteArray := ByteArray.mk #[120, 46, 89]
def k4 : ByteArray := ByteArray.mk #[65, 32, 124, 32, 97, 110, 121]
theorem S2_means : [k1, k2, k3, k4].all (fun m => (writtenF m).isSome && decide (xsz (tOf m) ≤ 1000000)) = true ∧ meansF S2 (tOf k1) k1w 0 = true ∧ meansF S2 (tOf k2) blV 0 = true ∧ meansF S2 (tOf k3) bAny 0 = true ∧ meansF S2 (tOf k4) bAny 0 = true := by decide +kernel
end Go.Proofs.YtdbkclnlfibgdaaGreatDoor

/- NamesKnown: its walk. -/
namespace Go.Proofs.YtdbkclnlfibgdaaGreatDoor
open Go.SX Go.Ty Go.MapKept Go.RowKit Go.Tx

theorem dg_get {w : World} {path : ByteArray} {l : List Dg} {p : Option Addr} {n c : Nat} (h : RowAt w 35 3 (.slice p n c) (dgCells path l)) {i : Nat} {d : Dg} (hi : l[i]? = some d) :
    n = l.length ∧ i < n ∧ ∃ g o, p = some ⟨g, o, none⟩ ∧ w.cell? ⟨g, o + i * 3, none⟩ = some (.string path) ∧ w.cell? ⟨g, o + i * 3 + 1, none⟩ = some (.int .i64 d.1) ∧ w.cell? ⟨g, o + i * 3 + 2, none⟩ = some (.int .i64 d.2) := by
  obtain ⟨p', n', c', e, hn, _, _⟩ := h.shape
  cases e
  rw [dgCells_len] at hn
  obtain ⟨hl, hd⟩ := List.getElem?_eq_some_iff.1 hi
  have key : ∀ (l : List Dg) (i : Nat) (hl : i < l.length) (j : Nat), j < 3 → (dgCells path l)[i * 3 + j]? = [Value.string path, .int .i64 l[i].1, .int .i64 l[i].2][j]? := by
    intro l
    induction l with
    | nil => intro i hl; exact absurd hl (Nat.not_lt_zero i)
    | cons x l ih =>
      intro i hl j hj
      have e : dgCells path (x :: l) = .string path :: .int .i64 x.1 :: .int .i64 x.2 :: dgCells path l := by simp [dgCells]
      rw [e]
      cases i with
      | zero =>
        rw [Nat.zero_mul, Nat.zero_add]
        match j, hj with
        | 0, _ => rfl
        | 1, _ => rfl
        | 2, _ => rfl
      | succ i =>
        rw [show (i + 1) * 3 + j = i * 3 + j + 3 by omega]
        simpa using ih i (by simpa using hl) j hj
  obtain ⟨g, o, rfl, _⟩ := h.get (j := 0) (by rw [dgCells_len]; omega)
  have cell : ∀ j, j < 3 → w.cell? ⟨g, o + i * 3 + j, none⟩ = [Value.string path, .int .i64 d.1, .int .i64 d.2][j]? := fun j hj => by
    obtain ⟨g', o', e, hc⟩ := h.get (j := i * 3 + j) (by rw [dgCells_len]; omega)
    cases e
    rw [Nat.add_assoc, hc, key l i hl j hj, hd]
  exact ⟨by omega, by omega, g, o, rfl, cell 0 (by omega), cell 1 (by omega), cell 2 (by omega)⟩

theorem diag_eql {s s' : ByteArray} {a a' c c' : Int} (n m : Nat) (w : World) : (eqSem .eql 35 (.tmp n) (.tmp m) (.agg #[.string s, .int .i64 a, .int .i64 c]) (.agg #[.string s', .int .i64 a', .int .i64 c'])).run Tryz.prog w = .ok (.bool (s.toList == s'.toList && (a == a' && (c == c' && true)))) w :=
  (eqSem_run diag_und (by kernel_rfl) (by kernel_rfl) (diag_flat s s' a a' c c') _ _ w).1

set_option maxRecDepth 20000 in
set_option maxHeartbeats 2000000 in
theorem known_c {w : World} {K : Value → World → Prop} (g : Gl w) (hk : ∀ w', Upd No w w' → K (.bool true) w') : callC Tryz.prog 6 #[] w K := by
  refine known_text _ _ (scope_c (cl := cl1) (s := src2) g (by decide) (parse_of src2_ok.1) (dsOk_of src2_ok.2.1) (cls_of src2_ok.2.2) fun q p n c w1 hS hrow okS u1 => ⟨_, _, _, _, _, rfl, ?_⟩)
  have hS : ScAt w1 q S2 := hS
  have okS : ScOk S2 := okS
  have hrow : RowAt w1 35 3 (.slice p n c) (dgCells bM (scOf src2).2) := hrow
  obtain ⟨d0, d1, hd⟩ : ∃ d0 d1, (scOf src2).2 = [d0, d1] := by
    have := congrArg List.length src2_told.1
    rw [List.length_map] at this
    match (scOf src2).2, this with
    | [a, b], _ => exact ⟨a, b, rfl⟩
  have ht := src2_told
  rw [hd] at ht hrow
  have e03 : d0.2 = 3 := by have := ht.1; simp at this; exact this.1
  have e15 : d1.2 = 5 := by have := ht.1; simp at this; exact this.2
  have e125 : d1.1 = 25 := by have := ht.2; simpa using this
  obtain ⟨hn, _, g0, o0, rfl, x0, x1, x2⟩ := dg_get hrow (i := 0) (d := d0) rfl
  obtain ⟨_, _, g0', o0', eg, y0, y1, y2⟩ := dg_get hrow (i := 1) (d := d1) rfl
  cases eg
  have hn : n = 2 := hn
  subst hn
  rw [e03] at x2
  rw [e15] at y2
  rw [e125] at y1
  have gg := g.keep u1
  refine ⟨fun w' => Upd No w1 w', ?_, fun b w' => b = false ∧ w' = w1, ?_, brC_ff rfl (brC_ff rfl ⟨by omega, by omega, ptrC_some ⟨3, by rw [add_mk]; exact x2, brC_ff rfl ⟨by omega, by omega, ptrC_some ⟨bM, by rw [add_mk]; exact y0, 25, by rw [add_mk, add_mk]; exact y1, 5, by rw [add_mk, add_mk]; exact y2, .bool !(bM.toList == bM.toList && ((25 : Int) == 25 && ((5 : Int) == 5 && true))), ⟨_, rfl, by decide +kernel, rfl⟩, fun w' e => by cases e; exact diag_eq _ _ _⟩⟩⟩⟩)⟩
  rotate_left
  · rintro b w2 ⟨rfl, rfl⟩ _
    exact brC_ff rfl (Upd.refl _ _)
  intro w8 u8 _
  have hS8 := hS.keep u8
  have g8 := gg.keep u8
  refine Types_c hS8 (by rw [S2_own.1]; omega) fun p12 n13 c14 w11 hE hn u11 => ⟨_, _, _, rfl, ?_⟩
  rw [S2_own.1] at hn
  subst hn
  obtain ⟨xa, xb, hx⟩ : ∃ xa xb, sort2 S2.owns = [xa, xb] := by
    have := congrArg List.length S2_own.2.1
    rw [List.length_map] at this
    match sort2 S2.owns, this with
    | [a, b], _ => exact ⟨a, b, rfl⟩
  obtain ⟨_, f1, f2⟩ := S2_own
  rw [hx] at f1 f2 hE
  simp only [List.map_cons, List.map_nil, List.cons.injEq, and_true] at f1 f2
  obtain ⟨a1, q1, rfl, c1, c2, hA1⟩ := hE 0 (by simp)
  obtain ⟨a1', q2, ea, c3, c4, hA2⟩ := hE 1 (by simp)
  cases ea
  have hA1 : At w11 (.pointer q1) xa.2 := hA1
  have hA2 : At w11 (.pointer q2) xb.2 := hA2
  have c1 : w11.cell? a1 = some (.string xa.1) := by simpa [addr_add_zero] using c1
  have c2 : w11.cell? (Addr.add a1 1) = some (.pointer q1) := by simpa [addr_add_zero] using c2
  have c4 : w11.cell? (Addr.add (Addr.add a1 2) 1) = some (.pointer q2) := by simpa using c4
  refine ⟨fun w' => Upd No w11 w', ?_, fun b w' => b = false ∧ Upd No w11 w', ?_, ?_⟩
  rotate_left
  · rintro b w59 ⟨rfl, u59⟩ _
    exact brC_ff rfl u59
  · refine brC_ff rfl ⟨by omega, by omega, ptrC_some ⟨_, c1, brC_ff (n_tt (tl_eq f1.1)) ⟨by omega, by omega, ptrC_some ⟨_, c2, c_text hA1 fun w66 u66 => ⟨_, rfl, brC_ff (n_tt (tl_eq f2.1)) ⟨by omega, by omega, ptrC_some ⟨_, cell_keep c4 u66, c_text (hA2.keep u66) fun w71 u71 => ⟨_, rfl, n_tt (tl_eq f2.2), up u66 u71⟩⟩⟩⟩⟩⟩⟩⟩
  intro w16 u16 _
  have U16 := up u11 u16
  have hS16 := hS8.keep U16
  have g16 := g8.keep U16
  refine ⟨fun s n w' => ∃ i : Nat, i ≤ 5 ∧ s = lg i ∧ n = i ∧ w' = w16, fun _ n _ => (5 - n).toNat, ⟨0, by omega, rfl, rfl, rfl⟩, ?_⟩
  rintro s n w22 ⟨i, hi, rfl, rfl, rfl⟩ _
  refine brC_intro (fun hlt => ?_) fun hge => ?_
  · have hi : i < 5 := by have := of_decide_eq_true hlt; omega
    have hz : (lg i).size ≤ 10000 := of_decide_eq_true (List.all_eq_true.1 lg_size i (List.mem_range.2 (by omega)))
    have e1 : (ByteArray.mk #[102, 110, 40]).size = 3 := rfl
    have e2 : (ByteArray.mk #[44, 32]).size = 2 := rfl
    refine ⟨by omega, ?_, ?_, ?_, ⟨i + 1, by omega, rfl, by rw [wrap_succ (by omega)], rfl⟩, ?_⟩
    · rw [ByteArray.size_append, e1]; omega
    · rw [ByteArray.size_append, ByteArray.size_append, e1, e2]; omega
    · rw [ByteArray.size_append, ByteArray.size_append, ByteArray.size_append, e1, e2]; omega
    · dsimp only; rw [wrap_succ (by omega)]; omega
  have hi5 : i = 5 := by have := of_decide_eq_false hge; omega
  subst hi5
  have hz : (lg 5).size ≤ 10000 := of_decide_eq_true (List.all_eq_true.1 lg_size 5 (by decide))
  refine written_c g16 (by omega) (written_of lg_ok.1) fun q26 w25 hX u25 => ⟨_, rfl, ?_⟩
  have V25 := hS16.keep u25
  refine Resolve_c V25 okS hX lg_ok.2 fun q29 v30 w28 h29 r30 _ u28 => ?_
  obtain ⟨p30, n30, c30, rfl, _, _, _⟩ := r30.shape
  refine ⟨_, _, _, _, rfl, newC_mk fun w34 B34 u34 s34 => newC_mk fun w36 B36 u36 s36 => ?_⟩
  have V36 := ((V25.keep u28).keep u34).keep u36
  have o1 : XAt idx (From 0) w36 (.pointer (some ⟨w34.heap.size, 0, none⟩)) odd1 := mkX (ns := [ByteArray.mk #[97]]) (xs := []) (r := .nil) (vs := []) B36 (Nat.zero_le _) (row_one (B34.upd u36 id)) (fun b _ => Nat.zero_le b) (RowAt.nil _ _ _) (fun b hb => (no_in b hb).elim) trivial rfl
  obtain ⟨z1, z2, z3, z4, z5, z6⟩ := odd_ok
  refine Resolve_c V36 okS o1 (by decide) fun q39 v40 w38 h39 r40 _ u38 => ?_
  obtain ⟨p40, n40, c40, rfl, _, _, _⟩ := r40.shape
  refine ⟨_, _, _, _, rfl, newC_mk fun w44 B44 u44 s44 => ?_⟩
  have V44 := (V36.keep u38).keep u44
  refine Resolve_c V44 okS (t := odd2) (mkX0 B44 (Nat.zero_le _)) (by decide) fun q47 v48 w46 h47 r48 _ u46 => ?_
  obtain ⟨p48, n48, c48, rfl, _, _, _⟩ := r48.shape
  refine ⟨_, _, _, _, rfl, newC_mk fun w52 B52 u52 s52 => ?_⟩
  have V52 := (V44.keep u46).keep u52
  refine Resolve_c V52 okS (t := odd3) (mkX0 B52 (Nat.zero_le _)) (by decide) fun q55 v56 w54 h55 r56 _ u54 => ?_
  obtain ⟨p56, n56, c56, rfl, _, _, _⟩ := r56.shape
  refine ⟨_, _, _, _, rfl, Resolve_nil fun q61 w60 h61 u60 => ⟨_, _, _, _, rfl, Body_nil fun w66 u66 => ⟨_, _, rfl, Named_nil ⟨_, _, rfl, Value_nil ⟨_, _, _, rfl, ?_⟩⟩⟩⟩⟩
  refine New_c (path := ByteArray.mk #[112]) (ds := []) (ims := []) (cl := cl1) (RowAt.nil _ _ _) rfl (fun i v d h1 h2 => by cases h2) ⟨by simp, fun d hd => by cases hd⟩ (fun i hi => absurd hi (Nat.not_lt_zero i)) rfl (by decide) (fun m hm => by cases hm) (fun d hd => by cases hd) (by decide) fun q80 v81 w79 h80 r81 _ okP u79 => ?_
  obtain ⟨p81, n81, c81, rfl, hn81, _, _⟩ := r81.shape
  have hn81 : n81 = 0 := by have e : (newF (ByteArray.mk #[112]) cl1 [] []).2 = [] := rfl; rw [e] at hn81; simp [dgCells] at hn81; omega
  subst hn81
  have U36 := up (up (up u25 u28) u34) u36
  have U54 := up (up (up (up u38 u44) u46) u52) u54
  have U79 := up (up u60 u66) u79
  have g79 := ((g16.keep U36).keep U54).keep U79
  refine ⟨_, _, _, _, rfl, works_c g79 fun w85 u85 => ⟨_, rfl, brC_tt rfl ?_⟩⟩
  have V85 := (((hS16.keep U36).keep U54).keep U79).keep u85
  have g85 := g79.keep u85
  have b29 := h29.keep (up (up (up u34 u36) U54) (up U79 u85))
  refine c_text b29 fun w88 u88 => ⟨_, rfl, brC_tt (tl_eq rB_ok.1) ?_⟩
  obtain ⟨dB, hdB, hdB2⟩ : ∃ d, rB.2[0]? = some d ∧ d.2 = 12 := by
    have := rB_ok.2
    rw [List.getElem?_map] at this
    cases e : rB.2[0]? with
    | none => rw [e] at this; cases this
    | some d => rw [e] at this; exact ⟨d, rfl, by simpa using this⟩
  have R30 : RowAt w88 35 3 (.slice p30 n30 c30) (dgCells S2.path rB.2) := r30.upd (up (up (up (up u34 u36) U54) (up U79 u85)) u88) fun _ _ h => h
  obtain ⟨_, hi30, g30, o30, rfl, _, _, xB⟩ := dg_get R30 hdB
  rw [hdB2] at xB
  refine brC_tt (decide_eq_true (by omega)) ⟨by omega, by omega, ptrC_some ⟨12, by rw [add_mk]; exact xB, brC_tt rfl ?_⟩⟩
  refine c_text (h39.keep (up (up (up (up u44 u46) u52) u54) (up (up U79 u85) u88))) fun w93 u93 => ⟨_, rfl, brC_tt (tl_eq z1) ?_⟩
  rw [z2] at r40
  have R40 := r40.upd (up (up (up (up (up u44 u46) u52) u54) (up (up U79 u85) u88)) u93) fun _ _ h => h
  obtain ⟨hn40, _, g40, o40, rfl, m0, m1, m2⟩ := dg_get R40 (i := 0) (d := (4, 4)) rfl
  have hn40 : n40 = 1 := hn40
  subst hn40
  have ePath : S2.path = bM := by decide +kernel
  rw [ePath] at m0
  refine brC_tt rfl ⟨by omega, by omega, ptrC_some ⟨bM, m0, 4, by rw [add_mk]; exact m1, 4, by rw [add_mk]; exact m2, .bool (bM.toList == bM.toList && ((4 : Int) == 4 && ((4 : Int) == 4 && true))), ⟨_, rfl, brC_tt (by decide +kernel) ?_⟩, fun w' e => by cases e; exact diag_eql _ _ _⟩⟩
  refine c_text (h47.keep (up (up u52 u54) (up (up (up U79 u85) u88) u93))) fun w102 u102 => ⟨_, rfl, brC_tt (tl_eq z3) ?_⟩
  rw [z4] at r48
  obtain ⟨_, _, _, e48, hn48, _, _⟩ := r48.shape
  cases e48
  have hn48 : n48 = 0 := by simp [dgCells] at hn48; omega
  subst hn48
  refine brC_tt rfl (c_text (h55.keep (up (up (up (up U79 u85) u88) u93) u102)) fun w105 u105 => ⟨_, rfl, brC_tt (tl_eq z5) ?_⟩)
  obtain ⟨dC, hdC, hdC2⟩ : ∃ d, (resF S2 odd3).2 = [d] ∧ d.2 = 12 := by
    obtain ⟨d, hd⟩ := List.length_eq_one_iff.1 (show (resF S2 odd3).2.length = 1 by have := congrArg List.length z6; rwa [List.length_map] at this)
    rw [hd] at z6
    exact ⟨d, hd, by simpa using z6⟩
  rw [hdC] at r56
  obtain ⟨hn56, _, g56, o56, rfl, _, _, xC⟩ := dg_get (r56.upd (up (up (up (up (up U79 u85) u88) u93) u102) u105) fun _ _ h => h) (i := 0) (d := dC) rfl
  have hn56 : n56 = 1 := hn56
  subst hn56
  rw [hdC2] at xC
  have U105 := up (up (up (up (up (up u79 u85) u88) u93) u102) u105) (Upd.refl No w105)
  refine brC_tt rfl ⟨by omega, by omega, ptrC_some ⟨12, by rw [add_mk]; exact xC, brC_tt rfl ?_⟩⟩
  refine c_text (h61.keep (up u66 U105)) fun w110 u110 => ⟨_, rfl, brC_tt (tl_eq (by decide +kernel : bs (text (tk 1)) = bAny)) (brC_tt rfl (brC_tt rfl (brC_tt rfl (brC_tt rfl (brC_tt rfl ?_)))))⟩
  refine Types_nil fun w113 u113 => ⟨_, _, _, rfl, brC_tt rfl (brC_tt rfl (brC_tt rfl ?_))⟩
  have hmean : ∀ m ∈ [k1, k2, k3, k4], writtenF m = some (tOf m) ∧ xsz (tOf m) ≤ 1000000 := fun m hm => by
    have := List.all_eq_true.1 S2_means.1 m hm
    rw [Bool.and_eq_true] at this
    exact ⟨written_of this.1, of_decide_eq_true this.2⟩
  have U113 := up (up (up (up (up u88 u93) u102) u105) u110) u113
  have V113 := V85.keep U113
  have g113 := g85.keep U113
  obtain ⟨_, e1, e2, e3, e4⟩ := S2_means
  refine means_c g113 V113 okS (s := k1) (by decide) (hmean k1 (by simp)).1 (hmean k1 (by simp)).2 (want := k1w) (code := 0) fun w118 u118 => ⟨_, rfl, brC_tt e1 ?_⟩
  refine means_c (g113.keep u118) (V113.keep u118) okS (s := k2) (by decide) (hmean k2 (by simp)).1 (hmean k2 (by simp)).2 (want := blV) (code := 0) fun w121 u121 => ⟨_, rfl, brC_tt e2 ?_⟩
  refine means_c ((g113.keep u118).keep u121) ((V113.keep u118).keep u121) okS (s := k3) (by decide) (hmean k3 (by simp)).1 (hmean k3 (by simp)).2 (want := bAny) (code := 0) fun w124 u124 => ⟨_, rfl, brC_tt e3 ?_⟩
  refine means_c (((g113.keep u118).keep u121).keep u124) (((V113.keep u118).keep u121).keep u124) okS (s := k4) (by decide) (hmean k4 (by simp)).1 (hmean k4 (by simp)).2 (want := bAny) (code := 0) fun w127 u127 => ⟨_, rfl, ?_⟩
  have fin := hk w127 (up (up u1 (up u8 U16)) (up (up U36 U54) (up (up U79 u85) (up U113 (up (up u118 u121) (up u124 u127))))))
  rw [← e4] at fin
  exact fin
end Go.Proofs.YtdbkclnlfibgdaaGreatDoor
