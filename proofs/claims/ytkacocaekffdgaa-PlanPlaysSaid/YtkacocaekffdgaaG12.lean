/- The chapter's rows: works, and what GraphKnown asks. -/
import Derived.Test.YtkacocaekffdgaaG11
namespace Go.Proofs.Ytkacocaekffdgaa
open Go.SX

/-! ### sorting by putting in -/
theorem bytesLess_lt : ∀ (x y : List UInt8), Op.bytesLess x y = decide (x < y)
  | _, [] => by simp [Op.bytesLess]
  | [], _ :: _ => by simp [Op.bytesLess]
  | a :: x, b :: y => by
    rw [Op.bytesLess, bytesLess_lt x y, Bool.eq_iff_iff]
    simp [List.cons_lt_cons_iff]
def lessB (x y : ByteArray) : Bool := Op.bytesLess x.data.toList y.data.toList
theorem lessB_iff {x y : ByteArray} : lessB x y = true ↔ x.data.toList < y.data.toList := by
  unfold lessB; rw [bytesLess_lt, decide_eq_true_eq]
def ins (x : ByteArray) : List ByteArray → List ByteArray
  | [] => [x]
  | y :: l => if lessB x y = true then x :: y :: l else y :: ins x l
def isort (l : List ByteArray) : List ByteArray := l.foldl (fun out x => ins x out) []
theorem ins_perm (x : ByteArray) (l : List ByteArray) : (ins x l).Perm (x :: l) := by
  induction l with
  | nil => exact List.Perm.refl _
  | cons y l ih =>
    unfold ins
    split
    · exact List.Perm.refl _
    · exact (ih.cons y).trans (List.Perm.swap x y l)
theorem ins_sorted (x : ByteArray) {l : List ByteArray} (h : l.Pairwise fun a b => a.data.toList ≤ b.data.toList) : (ins x l).Pairwise fun a b => a.data.toList ≤ b.data.toList := by
  induction l with
  | nil => simp [ins]
  | cons y l ih =>
    obtain ⟨h1, h2⟩ := List.pairwise_cons.1 h
    unfold ins
    split
    · rename_i hlt
      have hlt := List.le_of_lt (lessB_iff.1 hlt)
      refine List.pairwise_cons.2 ⟨fun z hz => ?_, h⟩
      rcases List.mem_cons.1 hz with rfl | hz
      · exact hlt
      · exact List.le_trans hlt (h1 z hz)
    · rename_i hn
      have hn : y.data.toList ≤ x.data.toList := by
        have := mt lessB_iff.2 hn
        exact List.not_lt.1 this
      refine List.pairwise_cons.2 ⟨fun z hz => ?_, ih h2⟩
      rcases List.mem_cons.1 ((ins_perm x l).mem_iff.1 hz) with rfl | hz
      · exact hn
      · exact h1 z hz
theorem isort_eq (l : List ByteArray) : sortB l = isort l := by
  have key : ∀ (l acc : List ByteArray), acc.Pairwise (fun a b => a.data.toList ≤ b.data.toList) →
      (l.foldl (fun out x => ins x out) acc).Perm (acc ++ l) ∧ (l.foldl (fun out x => ins x out) acc).Pairwise fun a b => a.data.toList ≤ b.data.toList := by
    intro l
    induction l with
    | nil => intro acc h; exact ⟨by simp, h⟩
    | cons x l ih =>
      intro acc h
      obtain ⟨h1, h2⟩ := ih _ (ins_sorted x h)
      refine ⟨h1.trans (((ins_perm x acc).append_right l).trans ?_), h2⟩
      exact List.perm_middle.symm
  obtain ⟨h1, h2⟩ := key l [] List.Pairwise.nil
  exact sortB_eq h1 h2
/-! ### the order, reckoned -/
def pickC (adj : ByteArray → List ByteArray) (W : List ByteArray) : Option ByteArray := (isort W).find? fun p => (adj p).all fun q => !decide (q ∈ W)
def placeC (adj : ByteArray → List ByteArray) : Nat → List ByteArray → List ByteArray
  | 0, _ => []
  | n + 1, W => match pickC adj W with
    | none => []
    | some p => p :: placeC adj n (W.filter fun x => decide (x ≠ p))
theorem pickC_eq (adj : ByteArray → List ByteArray) (W : List ByteArray) : pick adj W = pickC adj W := by unfold pick pickC; rw [isort_eq]
theorem placeC_eq (adj : ByteArray → List ByteArray) : ∀ (n : Nat) (W : List ByteArray), place adj n W = placeC adj n W
  | 0, _ => rfl
  | n + 1, W => by
    unfold place placeC
    rw [pickC_eq]
    cases pickC adj W with
    | none => rfl
    | some p => simp only; rw [placeC_eq adj n]
def orderC (ps : List ByteArray) (adj : ByteArray → List ByteArray) (c : ByteArray → Bool) : List ByteArray :=
  isort (ps.filter c) ++ placeC adj (ps.filter fun p => !c p).length (ps.filter fun p => !c p)
def cycN (adj : ByteArray → List ByteArray) (n : Nat) (p : ByteArray) : Bool := decide (p ∈ clos adj n (adj p))
def closedN (adj : ByteArray → List ByteArray) (n : Nat) (p : ByteArray) : Bool := (clos adj n (adj p)).all fun x => (adj x).all fun y => decide (y ∈ clos adj n (adj p))
theorem cycN_iff {adj : ByteArray → List ByteArray} {n : Nat} {p : ByteArray} (h : closedN adj n p = true) : cycN adj n p = true ↔ Reach adj p p := by
  unfold cycN
  rw [decide_eq_true_eq, reach_clos n]
  intro x hx y hy
  unfold closedN at h
  rw [List.all_eq_true] at h
  have := h x hx
  rw [List.all_eq_true] at this
  simpa using this y hy
theorem orderC_eq {ps : List ByteArray} {adj : ByteArray → List ByteArray} {n : Nat} (h : ∀ p ∈ ps, closedN adj n p = true) : orderOf ps adj = orderC ps adj (cycN adj n) := by
  rw [orderOf_eq fun p hp => cycN_iff (h p hp)]
  unfold orderC
  rw [isort_eq, placeC_eq]

/-! ### in memory -/
theorem strsAt_blk {w : World} {b : Nat} {l : List ByteArray} {t : TypeId} (h : Blk w b (strs l).toArray t) : StrsAt w (some ⟨b, 0, none⟩) l := fun i hi => by
  refine ⟨_, rfl, ?_⟩
  rw [add_mk, Nat.mul_one, Nat.zero_add]
  exact h.cell (by simp [strs, hi])
theorem impsAt_blk {w : World} {b : Nat} {imps : List (List ByteArray)} {hds : List Value} {t : TypeId} (h : Blk w b hds.toArray t) (hh : ∀ i, (h : i < imps.length) → ∃ p c, hds[i]? = some (.slice p imps[i].length c) ∧ StrsAt w p imps[i] ∧ imps[i].length ≤ 1000000) :
    ImpsAt w (some ⟨b, 0, none⟩) imps := fun i hi => by
  obtain ⟨p, c, e, hs, hl⟩ := hh i hi
  refine ⟨_, p, c, rfl, ?_, hs, hl⟩
  rw [add_mk, Nat.mul_one, Nat.zero_add]
  exact h.cell (by simpa using e)
theorem strsAt_nil (w : World) (p : Option Addr) : StrsAt w p [] := fun i hi => absurd hi (by simp)

def b1 (n : UInt8) : ByteArray := ⟨#[n]⟩
def exPs : List ByteArray := [b1 102, b1 97, b1 98, b1 99, b1 100, b1 101, b1 103]
def exImps : List (List ByteArray) := [[b1 101, b1 97], [b1 98, b1 99, b1 98], [b1 100], [b1 100], [b1 120], [b1 102], [b1 103]]

theorem example_spec (w : World) : callC Try.prog 39 #[] w fun v w' => ∃ g m f, v = .pointer (some ⟨g, 0, none⟩) ∧ GraphAt w' g exPs (adjOf exPs exImps) m f ∧ Upd No w w' := by
  refine lexample _ _ (newC_mk fun w1 h1 u1 _ => newC_mk fun w3 h3 u3 _ => newC_mk fun w5 h5 u5 _ => newC_mk fun w7 h7 u7 _ => newC_mk fun w9 h9 u9 _ => newC_mk fun w11 h11 u11 _ => newC_mk fun w13 h13 u13 _ => newC_mk fun w15 h15 u15 _ => newC_mk fun w17 h17 u17 _ => ?_)
  have a15 : Upd No w15 w17 := u17
  have a13 : Upd No w13 w17 := u15.trans a15 fun _ _ => id
  have a11 : Upd No w11 w17 := u13.trans a13 fun _ _ => id
  have a9 : Upd No w9 w17 := u11.trans a11 fun _ _ => id
  have a7 : Upd No w7 w17 := u9.trans a9 fun _ _ => id
  have a5 : Upd No w5 w17 := u7.trans a7 fun _ _ => id
  have a3 : Upd No w3 w17 := u5.trans a5 fun _ _ => id
  have a1 : Upd No w1 w17 := u3.trans a3 fun _ _ => id
  have hP : StrsAt w17 (some ⟨w.heap.size, 0, none⟩) exPs := (strsAt_blk (l := exPs) h1).keep a1
  have hI : ImpsAt w17 (some ⟨w15.heap.size, 0, none⟩) exImps := impsAt_blk (imps := exImps) h17 fun i hi => by
    match i, hi with
    | 0, _ => exact ⟨_, _, rfl, (strsAt_blk (l := [b1 101, b1 97]) h3).keep a3, Nat.le_of_ble_eq_true rfl⟩
    | 1, _ => exact ⟨_, _, rfl, (strsAt_blk (l := [b1 98, b1 99, b1 98]) h5).keep a5, Nat.le_of_ble_eq_true rfl⟩
    | 2, _ => exact ⟨_, _, rfl, (strsAt_blk (l := [b1 100]) h7).keep a7, Nat.le_of_ble_eq_true rfl⟩
    | 3, _ => exact ⟨_, _, rfl, (strsAt_blk (l := [b1 100]) h9).keep a9, Nat.le_of_ble_eq_true rfl⟩
    | 4, _ => exact ⟨_, _, rfl, (strsAt_blk (l := [b1 120]) h11).keep a11, Nat.le_of_ble_eq_true rfl⟩
    | 5, _ => exact ⟨_, _, rfl, (strsAt_blk (l := [b1 102]) h13).keep a13, Nat.le_of_ble_eq_true rfl⟩
    | 6, _ => exact ⟨_, _, rfl, (strsAt_blk (l := [b1 103]) h15).keep a15, Nat.le_of_ble_eq_true rfl⟩
  refine callC_of (new_spec (ps := exPs) (imps := exImps) hP hI (by decide) 7 7) fun v w' ⟨u, h⟩ => ?_
  rcases h with ⟨_, h⟩ | ⟨g, m, f, hv, _, _, G⟩
  · exact (h (by decide +kernel)).elim
  · exact ⟨_, hv, g, m, f, rfl, G, (u1.trans a1 fun _ _ => id).trans u fun _ _ => id⟩

theorem ex_closed : ∀ p ∈ b1 120 :: exPs, closedN (adjOf exPs exImps) 4 p = true := by decide +kernel
theorem ex_cyc {p : ByteArray} (hp : p ∈ b1 120 :: exPs) {b : Bool} (h : b = true ↔ Reach (adjOf exPs exImps) p p) : b = cycN (adjOf exPs exImps) 4 p := by
  rw [Bool.eq_iff_iff, h, cycN_iff (ex_closed p hp)]
theorem ex_order : orderOf exPs (adjOf exPs exImps) = [b1 101, b1 102, b1 103, b1 100, b1 98, b1 99, b1 97] := by
  rw [orderC_eq (n := 4) fun p hp => ex_closed p (by simp [hp])]
  decide +kernel
theorem ex_small : ∀ p ∈ exPs, p.size ≤ maxLen := by decide +kernel

theorem rowAt_len {w : World} {p : Option Addr} {n c : Nat} {l : List ByteArray} (h : RowAt w 9 1 (.slice p n c) (strs l)) : n = l.length := by
  obtain ⟨p', n', c', e, hl, _⟩ := h.shape
  cases e
  rw [strs_len, Nat.mul_one] at hl
  exact hl.symm

/-- a text of the chapter's: the list that came out is the list that is wanted. -/
theorem texts_is {w : World} {p : Option Addr} {n c : Nat} {l : List ByteArray} (h : RowAt w 9 1 (.slice p n c) (strs l)) (hl : l.length ≤ maxLen) {b : Nat} {m : List ByteArray} {t : TypeId} (hm : Blk w b (strs m).toArray t) (k : Nat) (hk : k = m.length) :
    callC Try.prog 24 #[.slice p n c, .slice (some ⟨b, 0, none⟩) k k] w fun v w' => v = .bool (decide (l = m)) ∧ Upd No w w' := by
  have := rowAt_len h
  subst this
  subst hk
  exact texts_spec (StrsAt.of_row h) (strsAt_blk hm) hl _ _

theorem works_spec (w : World) : callC Try.prog 14 #[] w fun v w' => v = .bool true ∧ Upd No w w' := by
  refine lworks _ _ (callC_of (example_spec w) fun v w1 ⟨g, m, f, hv, G, u1⟩ => ⟨_, hv, brC_tt rfl ?_⟩)
  refine callC_of (cyclic_spec G (b1 97)) fun v w4 ⟨b, hv, hb, u4⟩ => ⟨b, hv, brC_tt (by rw [ex_cyc (by decide +kernel) hb]; decide +kernel) ?_⟩
  have G4 := G.keep u4
  refine callC_of (cyclic_spec G4 (b1 101)) fun v w7 ⟨b, hv, hb, u7⟩ => ⟨b, hv, brC_tt (by rw [ex_cyc (by decide +kernel) hb]; decide +kernel) ?_⟩
  have G7 := G4.keep u7
  refine callC_of (cyclic_spec G7 (b1 102)) fun v w10 ⟨b, hv, hb, u10⟩ => ⟨b, hv, brC_tt (by rw [ex_cyc (by decide +kernel) hb]; decide +kernel) ?_⟩
  have G10 := G7.keep u10
  refine callC_of (cyclic_spec G10 (b1 103)) fun v w13 ⟨b, hv, hb, u13⟩ => ⟨b, hv, brC_tt (by rw [ex_cyc (by decide +kernel) hb]; decide +kernel) ?_⟩
  have G13 := G10.keep u13
  refine callC_of (cyclic_spec G13 (b1 120)) fun v w16 ⟨b, hv, hb, u16⟩ => ⟨b, hv, brC_tt (by rw [ex_cyc (by decide +kernel) hb]; decide +kernel) ?_⟩
  have G16 := G13.keep u16
  have u016 : Upd No w w16 := ((((u1.trans u4 fun _ _ => id).trans u7 fun _ _ => id).trans u10 fun _ _ => id).trans u13 fun _ _ => id).trans u16 fun _ _ => id
  refine callC_of (order_spec G16 (by decide) ex_small) fun v w19 ⟨hrow, u19, _⟩ => ?_
  obtain ⟨p, n, c, rfl, _⟩ := hrow.shape
  refine ⟨p, n, c, rfl, newC_mk fun w24 h24 u24 _ => callC_of (texts_is (hrow.upd u24 fun _ _ => id) (by rw [ex_order]; decide) (m := [b1 101, b1 102, b1 103, b1 100, b1 98, b1 99, b1 97]) h24 7 rfl) fun v w26 ⟨hv, u26⟩ => ⟨_, hv, brC_tt (by rw [ex_order]; decide +kernel) ?_⟩⟩
  have u026 : Upd No w16 w26 := (u19.trans u24 fun _ _ => id).trans u26 fun _ _ => id
  have G26 := G16.keep u026
  clear hrow
  refine callC_of (above_spec G26 (by decide) ex_small (b1 100)) fun v w29 ⟨hrow, u29, _⟩ => ?_
  rw [isort_eq, show isort _ = [b1 98, b1 99] by decide +kernel] at hrow
  obtain ⟨p, n, c, rfl, _⟩ := hrow.shape
  refine ⟨p, n, c, rfl, newC_mk fun w34 h34 u34 _ => callC_of (texts_is (hrow.upd u34 fun _ _ => id) (by decide) (m := [b1 98, b1 99]) h34 2 rfl) fun v w36 ⟨hv, u36⟩ => ⟨_, hv, brC_tt (by decide +kernel) ?_⟩⟩
  have u036 : Upd No w26 w36 := (u29.trans u34 fun _ _ => id).trans u36 fun _ _ => id
  have G36 := G26.keep u036
  clear hrow
  refine callC_of (above_spec G36 (by decide) ex_small (b1 97)) fun v w39 ⟨hrow, u39, _⟩ => ?_
  rw [isort_eq, show isort _ = [b1 102] by decide +kernel] at hrow
  obtain ⟨p, n, c, rfl, _⟩ := hrow.shape
  refine ⟨p, n, c, rfl, newC_mk fun w44 h44 u44 _ => callC_of (texts_is (hrow.upd u44 fun _ _ => id) (by decide) (m := [b1 102]) h44 1 rfl) fun v w46 ⟨hv, u46⟩ => ⟨_, hv, brC_tt (by decide +kernel) ?_⟩⟩
  have u046 : Upd No w36 w46 := (u39.trans u44 fun _ _ => id).trans u46 fun _ _ => id
  have G46 := G36.keep u046
  clear hrow
  refine callC_of (above_spec G46 (by decide) ex_small (b1 120)) fun v w49 ⟨hrow, u49, _⟩ => ?_
  rw [isort_eq, show isort _ = [] by decide +kernel] at hrow
  obtain ⟨p, n, c, rfl, _⟩ := hrow.shape
  have hn := rowAt_len hrow
  subst hn
  refine ⟨p, _, c, rfl, brC_tt rfl ?_⟩
  have G49 := G46.keep u49
  clear hrow
  refine callC_of (above_spec G49 (by decide) ex_small (b1 103)) fun v w54 ⟨hrow, u54, _⟩ => ?_
  rw [isort_eq, show isort _ = [b1 103] by decide +kernel] at hrow
  obtain ⟨p, n, c, rfl, _⟩ := hrow.shape
  refine ⟨p, n, c, rfl, newC_mk fun w59 h59 u59 _ => callC_of (texts_is (hrow.upd u59 fun _ _ => id) (by decide) (m := [b1 103]) h59 1 rfl) fun v w61 ⟨hv, u61⟩ => ⟨_, hv, brC_tt (by decide +kernel) ?_⟩⟩
  have u061 : Upd No w46 w61 := ((u49.trans u54 fun _ _ => id).trans u59 fun _ _ => id).trans u61 fun _ _ => id
  have u0 : Upd No w w61 := (((u016.trans u026 fun _ _ => id).trans u036 fun _ _ => id).trans u046 fun _ _ => id).trans u061 fun _ _ => id
  refine newC_mk fun w64 h64 u64 _ => newC_mk fun w66 h66 u66 _ => ?_
  have hP2 : StrsAt w66 (some ⟨w61.heap.size, 0, none⟩) [b1 97, b1 97] := (strsAt_blk (l := [b1 97, b1 97]) h64).keep u66
  have hI2 : ImpsAt w66 (some ⟨w64.heap.size, 0, none⟩) [[], []] := impsAt_blk (imps := [[], []]) h66 fun i hi => by
    match i, hi with
    | 0, _ => exact ⟨_, _, rfl, strsAt_nil _ _, Nat.le_of_ble_eq_true rfl⟩
    | 1, _ => exact ⟨_, _, rfl, strsAt_nil _ _, Nat.le_of_ble_eq_true rfl⟩
  refine callC_of (new_spec (ps := [b1 97, b1 97]) (imps := [[], []]) hP2 hI2 (by decide) 2 2) fun v w68 ⟨u68, h⟩ => ?_
  rcases h with ⟨hv, _⟩ | ⟨_, _, _, _, _, h, _⟩
  · refine ⟨_, hv, brC_tt rfl (newC_mk fun w71 h71 u71 _ => ?_)⟩
    refine callC_of (new_spec (ps := [b1 97]) (imps := []) (strsAt_blk (l := [b1 97]) h71) (x1 := none) (fun i hi => absurd hi (by simp)) (by decide) 1 0) fun v w73 ⟨u73, h⟩ => ?_
    rcases h with ⟨hv, _⟩ | ⟨_, _, _, _, h, _⟩
    · exact ⟨_, hv, rfl, ((((u0.trans u64 fun _ _ => id).trans u66 fun _ _ => id).trans u68 fun _ _ => id).trans u71 fun _ _ => id).trans u73 fun _ _ => id⟩
    · exact absurd h (by decide)
  · exact absurd h (by decide +kernel)
end Go.Proofs.Ytkacocaekffdgaa
