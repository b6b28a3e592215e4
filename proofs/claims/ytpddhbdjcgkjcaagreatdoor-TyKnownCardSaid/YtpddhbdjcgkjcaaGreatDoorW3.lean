/- Joined by program of: Yd5, Yd6, Yd7, Yd8, Yd9, Ye1, Ye2, Ye3, Ye4, Yf1. -/
import Derived.Test.YtpddhbdjcgkjcaaGreatDoorW2
import Derived.Maps.AppendAt
import Derived.Test.YtpddhbdjcgkjcaaGreatDoorSq
import Derived.Test.YtpddhbdjcgkjcaaGreatDoorVe
import Derived.Test.YtpddhbdjcgkjcaaGreatDoorFr

/- ty.Fun. -/
namespace Go.Proofs.YtpddhbdjcgkjcaaGreatDoor
open Go.SX Go.Ty

theorem tFun_spec {l : List T} {r : T} {F : Nat → Prop} {w : World} {p : Option Addr} {n c : Nat} {x1 : Option Addr} (h : TyRow ids F w (.slice p n c) l) (hl : l.length ≤ 1000000) (hr : TyAt ids F w (.pointer x1) r) :
    callC Tryz.prog 25 #[.slice p n c, .pointer x1] w fun v w' => ∃ q : Option Addr, v = .tuple #[.pointer q, .int .i64 (funF l r).2] ∧ TyAt ids (With F w.heap.size) w' (.pointer q) (funF l r).1 ∧ Upd No w w' := by
  refine tFun_text _ _ _ _ _ _ ⟨fun w' => Upd No w w' ∧ (allOk l && check r == 0) = true, ?_, fun b w' => Upd No w w' ∧ b = !(allOk l && check r == 0), ?_, ?_⟩
  · rintro w1 ⟨u1, hok⟩ _
    have eF : funF l r = fits (.mk 8 .empty [] l r) := by unfold funF; rw [if_pos hok]
    rw [eF]
    have hw := u1.size
    obtain ⟨vs, h1, h2, h3⟩ := (h.keep u1).mono (G := fun b => F b ∧ b < w1.heap.size) fun b hb hf => ⟨hf, hb⟩
    have el := h3.length
    refine callC_of (cloT_of (clo_rule (K := fun v w4 => ∃ p' n' c', v = .slice p' n' c' ∧ Own w1.heap.size w4 ids.ptr p' n' c' vs ∧ Upd No w1 w4) elemTyp (by omega) h1 (one_typs h3) (by omega) fun p' n' c' w4 o u => ⟨p', n', c', rfl, o, u⟩)) fun v w4 ⟨p', n', c', e, o, u4⟩ => ⟨p', n', c', e, newC_mk fun w9 B9 u9 s9 => ?_⟩
    have hs4 := u4.size
    have hT : TyAt ids (With F w.heap.size) w9 (.pointer (some ⟨w4.heap.size, 0, none⟩)) (.mk 8 .empty [] l r) := by
      refine mkTy (nv := .slice none 0 0) (av := .slice p' n' c') (rv := .pointer x1) B9 (.inr (by omega)) (RowAt.nil _ _ _) (fun b hb => (no_in b hb).elim) (o.row.upd u9 fun _ _ x => x) (fun b hb => .inr (by have := o.own b hb; omega))
        ((h3.keep (up u4 u9)).mono fun b _ hb => .inl hb.1) ?_
      exact ((hr.keep (up u1 (up u4 u9))).mono fun b _ hb => .inl hb)
    exact callC_of (tfits_spec hT) fun v w15 ⟨q, e, hq, u15⟩ => ⟨_, _, e, q, rfl, hq, up (up (up u1 u4) u9) u15⟩
  · rintro b w' ⟨u, rfl⟩ _
    refine brC_intro (fun hb => ?_) fun hb => ⟨u, by simpa using hb⟩
    have eF : funF l r = (.nil, 2) := by
      unfold funF
      rw [if_neg (by intro h; rw [h] at hb; cases hb)]
    rw [eF]
    exact ⟨none, rfl, rfl, u⟩
  · refine callC_of (tall_spec h) fun v w23 ⟨e, u23⟩ => ⟨_, e, brC_intro (fun hb => ⟨u23, ?_⟩) fun hb => newC_mk fun w24 B24 u24 s24 => ?_⟩
    · have hb : allOk l = false := by unfold allOk; simpa using hb
      rw [hb]; rfl
    · have hb : allOk l = true := by unfold allOk; simpa using hb
      have u := up u23 u24
      have hrow : TyRow ids (With F w.heap.size) w24 (.slice (some ⟨w23.heap.size, 0, none⟩) 1 1) [r] :=
        ⟨[.pointer x1], row_one B24, (fun b hb => .inr (by have := u23.size; simp [InRow, Value.ownBlock] at hb; omega)), (hr.keep u).mono (fun b _ hb => .inl hb), trivial⟩
      refine callC_of (tall_spec hrow) fun v w26 ⟨e, u26⟩ => ⟨_, e, up u u26, ?_⟩
      rw [hb]; simp
end Go.Proofs.YtpddhbdjcgkjcaaGreatDoor

/- slices.Values, slices.AppendSeq. -/
namespace Go.Proofs.YtpddhbdjcgkjcaaGreatDoor
open Go.SX Go.Ty Go.RowKit Go.Shelf

theorem strs_lt {w : World} {p : Option Addr} {xs : List ByteArray} (h : StrsAt w p xs) {i : Nat} (hi : i < xs.length) : ∃ a : Addr, p = some a ∧ w.cell? (Addr.add a (i * 1)) = some (.string xs[i]) ∧ (Addr.add a (i * 1)).block < w.heap.size := by
  obtain ⟨a, e, hc⟩ := h i hi
  refine ⟨a, e, hc, ?_⟩
  rcases Nat.lt_or_ge (Addr.add a (i * 1)).block w.heap.size with h | h
  · exact h
  · unfold World.cell? at hc
    rw [Array.getElem?_eq_none h] at hc
    cases hc
set_option maxRecDepth 100000 in
theorem val_stops {n tb : Nat} {xs : List ByteArray} {p : Option Addr} {nn c : Nat} {w0 w : World} (hS : StrsAt w0 p xs) (hnn : nn = xs.length) (hxs : xs.length ≤ 1000000) (u0 : Upd No w0 w)
    (htb : w.cell? ⟨tb, 0, none⟩ = some (.slice p nn c)) :
    SeqStopsK Fence.wide n Tryz.prog 84 #[.pointer (some ⟨tb, 0, none⟩)] (fun s : ByteArray => #[Value.string s]) (Below w0.heap.size) (fun ys => ys = xs) (fun _ => True) xs.length w := by
  intro l J Jx W hbw hJ hJx hY hj
  subst hnn
  have u : Upd No w W := upd_of_below hbw
  have hSW := strs_keep hS (up u0 u)
  have key : callC Tryz.prog 84 #[.func (.yield l) #[] #[], .pointer (some ⟨tb, 0, none⟩)] W fun v W' => J xs W' ∨ ∃ q, Jx q W' := by
    refine tval1_text _ _ _ _ _ _ _ ⟨_, _, _, cell_keep htb u, fun m W' => ∃ i : Nat, m = i ∧ i ≤ xs.length ∧ Below w0.heap.size W W' ∧ J (xs.take i) W', fun m _ => (xs.length - m).toNat, ⟨0, rfl, Nat.zero_le _, Below.refl _ _, hj⟩, ?_⟩
    rintro m W1 ⟨i, rfl, hi, hb1, hj1⟩ _
    refine brC_intro (fun hlt => ?_) fun hge => ?_
    · have hlt : i < xs.length := by have := of_decide_eq_true hlt; omega
      obtain ⟨g, rfl, hc0, hg⟩ := strs_lt hS hlt
      have hc : W.cell? (Addr.add g (i * 1)) = some (.string xs[i]) := cell_keep hc0 (up u0 u)
      have hc1 : W1.cell? (Addr.add g (i * 1)) = some (.string xs[i]) := by rw [hb1.cell hg, hc]
      refine ⟨by omega, by omega, ptrC_some ⟨xs[i], by rw [Int.toNat_natCast]; exact hc1, ?_⟩⟩
      refine yldC_of (yield_any (hY (xs.take i) xs[i] W1 hj1 (by rw [List.length_take]; omega))) fun e W2 hk => ?_
      rw [← List.take_succ_eq_append_getElem hlt] at hk
      rcases hk with ⟨rfl, hj2, hb2⟩ | ⟨rfl, hx⟩
      · refine ⟨_, rfl, _, rfl, brC_ff rfl ?_⟩
        rw [wrap_succ (by omega)]
        exact ⟨⟨i + 1, rfl, hlt, hb1.trans hb2, hj2⟩, by dsimp only; omega⟩
      · exact ⟨_, rfl, _, rfl, brC_tt rfl (.inr ⟨_, hx⟩)⟩
    · have hi : i = xs.length := by have := of_decide_eq_false hge; omega
      rw [hi, List.take_length] at hj1
      exact .inl hj1
  refine callsIn_wide.2 (Calls.mono key fun e W' h => ?_)
  cases e with
  | returned v => exact ⟨⟨v, rfl⟩, h.elim (fun h => .inl ⟨xs, rfl, h⟩) fun ⟨q, h⟩ => .inr ⟨q, trivial, h⟩⟩
  | _ => exact h.elim

attribute [local go_sem] Oper.semAt_some

theorem rowN_kept {W W' : World} {row : Option Nat} {base : Nat} {e : TypeId} {v : Value} {k : Nat} {xs : List Value} (h : W.ownsRow base e 1 v k xs) (hg : W.grownBy W' row)
    (hr : ∀ r, row = some r → ∃ o : Obj, W.heap[r]? = some o ∧ o.isCells = false) : W'.ownsRow base e 1 v k xs := by
  refine h.kept hg ?_
  rcases h.2 with ⟨rfl, _⟩ | ⟨g, cap, cur, rfl, _, hgb, _⟩
  · exact .inl rfl
  · refine .inr fun e' => ?_
    obtain ⟨o, ho, hw⟩ := hr g (by simpa [Value.ownBlock] using e'.symm)
    rw [hgb] at ho; cases ho; cases hw
theorem rowN_ne {W : World} {base : Nat} {e : TypeId} {size : Nat} {v : Value} {k : Nat} {xs : List Value} (h : W.ownsRow base e size v k xs) {j : Nat} {cs : Array Value} {t : TypeId} (hj : Blk W j cs t) (hno : t ≠ e) :
    v.ownBlock = none ∨ v.ownBlock ≠ some j := by
  rcases h.2 with ⟨rfl, _⟩ | ⟨g, cap, cur, rfl, _, hgb, _⟩
  · exact .inl rfl
  · refine .inr fun e' => ?_
    have : g = j := by simpa [Value.ownBlock] using e'
    subst this
    rw [show W.heap[g]? = some (.cells cs t (0, 0)) from hj] at hgb
    cases hgb; exact hno rfl
theorem rowN_cells {W : World} {base : Nat} {e : TypeId} {size : Nat} {v : Value} {k : Nat} {xs : List Value} (h : W.ownsRow base e size v k xs) : ∀ (j : Nat) (o : Obj), v.ownBlock = some j → W.heap[j]? = some o → o.isCells = true := by
  intro j o hj ho
  rcases h.2 with ⟨rfl, _⟩ | ⟨g, cap, cur, rfl, _, hgb, _⟩
  · simp [Value.ownBlock] at hj
  · have : g = j := by simpa [Value.ownBlock] using hj
    subst this; rw [hgb] at ho; cases ho; rfl
theorem grown_set (W : World) (b : Nat) (v : Value) : W.grownBy (W.setCell ⟨b, 0, none⟩ v) (some b) :=
  ⟨rfl, rfl, rfl, (KeepsOthers.setCell W _ v).size, fun k _ hk => Below.heap_setCell _ _ _ k (fun e => hk (by rw [e]))⟩

set_option maxRecDepth 100000 in
set_option maxHeartbeats 2000000 in
theorem append_in {xs : List ByteArray} (hN : xs.length ≤ 1000000) {tb : Nat} {w : World}
    (hseq : ∀ n W, Upd No w W → SeqStopsK Fence.wide n Tryz.prog 84 #[.pointer (some ⟨tb, 0, none⟩)] (fun s : ByteArray => #[Value.string s]) (Below w.heap.size) (fun ys => ys = xs) (fun _ => True) xs.length W) :
    CallsIn Fence.wide 5 Tryz.prog 101 #[.slice none 0 0, .func (.func 84) #[] #[.pointer (some ⟨tb, 0, none⟩)]] w
      fun e w' => ∃ v, e = .returned v ∧ w'.ownsRow (w.heap.size + 1) 9 1 v xs.length (xs.map Value.string) ∧ Below w.heap.size w w' := by
  have hB1 : Blk (w.alloc (.cells #[.slice none 0 0] 32)) w.heap.size #[.slice none 0 0] 32 := blk_alloc _ _ _
  have u1 : Upd No w (w.alloc (.cells #[.slice none 0 0] 32)) := upd_alloc _ _
  refine callsIn_of_wp_marks Tryz.func101 rfl trivial ?_ rfl
  simp only [Tryz.ntmps101, List.size_toArray, List.length_cons, List.length_nil, Nat.reduceAdd, Nat.reduceSub, Array.replicate_succ, Array.replicate_zero, List.push_toArray, List.append_toArray, List.nil_append, List.cons_append]
  gi_wp2
  refine wpIn_rangeFunc_ownF rfl (by omega) (gf := 84) (lb := #[.pointer (some ⟨tb, 0, none⟩)]) rfl trivial (enters_of Tryz.func84 (by kernel_rfl) rfl)
    (hseq _ _ u1) (fun h k => h.trans k) (fun W l o o' hl ho hc hw => ?kb) (Below.refl _ _) (fun _ => rfl)
    (fun pre W => ∃ v, Blk W w.heap.size #[v] 32 ∧ W.ownsRow (w.heap.size + 1) 9 1 v pre.length (pre.map Value.string) ∧ pre.length ≤ xs.length ∧ Below w.heap.size w W)
    (fun c pre W => False)
    ?own ?ownx ?start
    (fun x => { tmps := #[.slice none 0 0, .func (.func 84) #[] #[.pointer (some ⟨tb, 0, none⟩)], .pointer (some ⟨w.heap.size, 0, none⟩), undef, .slice none 0 0, .string x, .func (.func 84) #[] #[.pointer (some ⟨tb, 0, none⟩)], .string x, undef, undef, undef, undef, undef], defers := [] }) ?assign ?body ?done ?stop
  case kb =>
    have hl : w.heap.size ≤ l := by simp at hl; omega
    exact (Below.refl _ _).grown (grownBy_putObj' W l o') (by have : l < W.heap.size := (Array.getElem?_eq_some_iff.1 ho).1; omega) fun k e => by cases e; exact hl
  case own =>
    rintro s A B row ⟨v, h1, h2, h3, h4⟩ hg hr
    refine ⟨v, blk_own (n₀ := w.heap.size + 1) h1 hg (fun r e => ⟨by have := (hr r e).1; simpa using this, (hr r e).2⟩), rowN_kept h2 hg (fun r e => (hr r e).2), h3, ?_⟩
    exact ownFrom_below (β := List ByteArray) (B := w.heap.size) (w₀ := w) (Nat.le_refl _) (Nat.le_refl _) s A B row h4 hg fun r e => ⟨by have := (hr r e).1; simp at this; omega, (hr r e).2⟩
  case ownx => intro c s A B row h _ _; exact h
  case start => exact ⟨_, hB1, ⟨rfl, .inl ⟨rfl, rfl⟩⟩, Nat.zero_le _, below_of_upd u1⟩
  case assign =>
    intro l x W K hK
    gi_wp2
    simpa using hK
  case body =>
    rintro l pre x W ⟨v, hB, hrow, hl, hb⟩ hlt
    obtain ⟨hc, hf⟩ := box_cell hB
    obtain ⟨i0, hi1, hi2, hi3, hi4⟩ := info_get (P := Tryz.prog) (e := 9) (s := 1) (b := 16) (z := .string ByteArray.empty) (by kernel_rfl)
    have hBl : w.heap.size < W.heap.size := hB.lt
    gi_wp2_with (first
      | (gi_at_builtin
         refine wpListIn_append_own _ rfl _ _ 32 rfl (w.heap.size + 1) 9 i0 (.string ByteArray.empty) 1 16 elemStr.ut hi1 hi2 hi3 hi4 rfl (by decide) v pre.length (pre.map Value.string) ?k1 ?k2 ⟨W.heap.size, 0, none⟩ 1 1 [.string x] ?k3 ?k4 ?k5 ?k6 ?k7 ?k8 ?k9 ?k10
         case k1 => rfl
         case k2 => exact hrow.alloc _
         case k3 => rfl
         case k4 => rfl
         case k5 => exact cell_one_new _ _ _
         case k6 => simp [Value.oneCell']
         case k7 => simp only [maxLen]; omega
         case k8 => omega
         case k9 => simp; omega
         intro v' w3 hown' hg3 hnil3
         obtain ⟨g', cap', cur', rfl, hbase', hgb', hr1, hr2, hr3, hr4⟩ : ∃ g' cap' cur', v' = .slice (some ⟨g', 0, none⟩) (pre.length + 1) cap' ∧ w.heap.size + 1 ≤ g' ∧ w3.heap[g']? = some (.cells cur' 9 (0, 0)) ∧ pre.length + 1 ≤ cap' ∧ cap' ≤ maxLen ∧ cur'.size = cap' * 1 ∧ cur'.toList.take ((pre.length + 1) * 1) = pre.map Value.string ++ [.string x] := by
           rcases hown'.2 with ⟨_, h0⟩ | h'
           · exact absurd h0 (by omega)
           · exact h'
         have hB3 : Blk w3 w.heap.size #[v] 32 := by
           show w3.heap[w.heap.size]? = _
           refine (hg3.block w.heap.size (by simp; omega) ?_).trans ((Below.heap_alloc _ _ _ hBl).trans hB)
           rcases rowN_ne hrow hB (by decide) with e | e
           · rw [e]; simp
           · exact fun e' => e e'.symm
         obtain ⟨hc3, hf3⟩ := box_cell hB3
         simp only [Act.put, List.setIfInBounds_toArray, List.set_cons_succ, List.set_cons_zero])
      | gi_in)
    have hw3 : W.heap.size ≤ w3.heap.size := by have := hg3.size; simp at this; omega
    have k3 : Below w.heap.size W w3 := ((Below.refl w.heap.size W).alloc (by omega) _).grown hg3 (by simp; omega) fun k e => by have := (hrow.lt k e).1; omega
    refine ⟨((KeepsOthers.alloc _ _).trans (KeepsOthers.of_grownBy hg3 fun j o e ho => rowN_cells (hrow.alloc _) j o e ho)).trans (KeepsOthers.setCell _ _ _), k3.setCell (p := ⟨w.heap.size, 0, none⟩) (Nat.le_refl _) _, _, hB3.set 0 _, ?_, by rw [List.length_append]; simp; omega, (hb.trans k3).setCell (p := ⟨w.heap.size, 0, none⟩) (Nat.le_refl _) _⟩
    have := hown'.kept (grown_set w3 w.heap.size (.slice (some ⟨g', 0, none⟩) (pre.length + 1) cap')) (rowN_ne hown' hB3 (by decide))
    rw [List.map_append, List.length_append]
    exact this
  case done =>
    rintro D ys W hD hS ⟨v, hB, hrow, hl, hb⟩ hK
    obtain ⟨hc, hf⟩ := box_cell hB
    have hD' : w.heap.size ≤ D := by simp at hD; omega
    gi_wp2
    refine ⟨by simp, .inl ⟨_, _, rfl, run_takeDeferred hK, ?_⟩⟩
    subst hS
    refine ⟨_, results_tmp rfl _ _ _, v, rfl, rowN_kept hrow (grownBy_putObj' W D _) (fun r e => by cases e; exact ⟨_, hK, rfl⟩), ownFrom_below (β := Unit) (B := w.heap.size) (w₀ := w) (Nat.le_refl _) (Nat.le_refl _) () W _ (some D) hb (grownBy_putObj' W D _) fun r e => by cases e; exact ⟨hD', _, hK, rfl⟩⟩
  case stop =>
    rintro D c pre W hD hS h hK
    exact h.elim
end Go.Proofs.YtpddhbdjcgkjcaaGreatDoor

/- slices.Sort of texts; slices.Sorted(slices.Values(names)). -/
namespace Go.Proofs.YtpddhbdjcgkjcaaGreatDoor
open Go.SX Go.Ty Go.RowKit Go.Shelf Go.Sort

/-- the world behind a sort. -/
theorem sorted_upd {α : Type} [Inhabited α] (enc : α → Value) (w : World) (g o m : Nat) (d : Array α) (os : Array Obj) : Upd (fun b => b = g) w (grow (putRow enc (Sort.ahead w m) g o d) os) := by
  refine ⟨rfl, rfl, rfl, by simp [grow, putRow, mapBlock, Sort.ahead], fun k hk hne => ?_⟩
  rw [heap_grow_old _ _ (by simpa [putRow, mapBlock, Sort.ahead] using hk)]
  have : g ≠ k := fun e => hne e.symm
  simp [putRow, mapBlock, Sort.ahead, Array.getElem?_modify, this]
theorem sorted_blk {α : Type} [Inhabited α] (enc : α → Value) {w : World} {g o m : Nat} (d : Array α) (os : Array Obj) {cur : Array Value} {e : TypeId} (h : Blk w g cur e) : Blk (grow (putRow enc (Sort.ahead w m) g o d) os) g (putCells enc o d cur) e := by
  have hg := h.lt
  show (grow (putRow enc (Sort.ahead w m) g o d) os).heap[g]? = _
  rw [heap_grow_old _ _ (by simpa [putRow, mapBlock, Sort.ahead] using hg)]
  have hb : w.heap[g]? = some (.cells cur e (0, 0)) := h
  simp [putRow, mapBlock, Sort.ahead, Array.getElem?_modify, hb, onCells]
theorem sorted_row {α : Type} [Inhabited α] (enc : α → Value) {w : World} {g o n c m : Nat} {e : TypeId} {xs : List Value} (h : RowAt w e 1 (.slice (some ⟨g, o, none⟩) n c) xs) (d : Array α) (hd : d.size = n) (os : Array Obj) :
    RowAt (grow (putRow enc (Sort.ahead w m) g o d) os) e 1 (.slice (some ⟨g, o, none⟩) n c) (d.toList.map enc) := by
  obtain ⟨n', hl, ⟨e0, rfl⟩ | ⟨g', o', cap, cur, e0, hg, h1, h2, h3, h4⟩⟩ := h
  · cases e0
  · cases e0
    refine ⟨n, by simp [hd], .inr ⟨g, o, c, _, rfl, sorted_blk enc d os hg, h1, h2, by simpa [putCells] using h3, ?_⟩⟩
    apply List.ext_getElem?
    intro j
    rw [Nat.mul_one, List.getElem?_take]
    by_cases hj : j < n
    · rw [if_pos hj, List.getElem?_drop, Array.getElem?_toList]
      have hjd : j < d.size := by omega
      have hc : o + j < cur.size := by omega
      simp [putCells, hc, hd, hj, hjd]
    · rw [if_neg hj, List.getElem?_eq_none (by simp; omega)]
theorem row_holds {α : Type} [Inhabited α] (enc : α → Value) {w : World} {g o n c : Nat} {e : TypeId} (d : Array α) (h : RowAt w e 1 (.slice (some ⟨g, o, none⟩) n c) (d.toList.map enc)) : Holds enc w g o d := by
  intro j hj
  obtain ⟨g', o', e0, hc⟩ := h.get (j := j) (by simpa using hj)
  cases e0
  refine ⟨?_, ?_⟩
  · rw [hc]; simp [hj]
  · obtain ⟨n', hl, ⟨e0, rfl⟩ | ⟨g', o', cap, cur, e0, hg, _⟩⟩ := h
    · cases e0
    · cases e0
      exact hg.frozen _

def sortB (l : List ByteArray) : List ByteArray := ((l.map txt).mergeSort (fun x y => decide (x ≤ y))).map bs
theorem sort_spec {n1 : Nat} {w : World} {p : Option Addr} {n c : Nat} {l : List ByteArray} (h : Own n1 w 9 p n c (l.map Value.string)) (hl : l.length ≤ 1000000) :
    callC Tryz.prog 83 #[.slice p n c] w fun v w' => v = .tuple #[] ∧ Own n1 w' 9 p n c ((sortB l).map Value.string) ∧ Upd (InRow (.slice p n c)) w w' := by
  have hlen := h.len
  rw [List.length_map] at hlen
  cases p with
  | none =>
    obtain ⟨hx, rfl, rfl⟩ := row_none h.row
    have : l = [] := by simpa using hx
    subst this
    exact callC_of_calls (AnyM.slices_Sort_string_none Tryz.sort83 none 0 w) fun e w' ⟨he, hw⟩ => by
      subst hw
      exact ⟨_, he, rfl, by simpa [sortB] using h, Upd.refl _ _⟩
  | some a =>
    obtain ⟨g, o, rfl⟩ : ∃ g o, a = ⟨g, o, none⟩ := by
      obtain ⟨n', hl, ⟨e0, rfl⟩ | ⟨g', o', cap, cur, e0, hg, _⟩⟩ := h.row
      · cases e0
      · cases e0; exact ⟨_, _, rfl⟩
    have e1 : l.map Value.string = ((l.map txt).toArray.toList).map encStr := by
      simp only [List.map_map]
      exact List.map_congr_left fun s _ => congrArg Value.string (bs_txt s).symm
    have hrow := h.row
    rw [e1] at hrow
    have hg : g < w.heap.size := h.row.lt rfl
    have hn : n = (l.map txt).length := by rw [List.length_map]; exact hlen
    have key := AnyM.slices_Sort_string Tryz.sort83 g o c (l.map txt) w (row_holds encStr _ hrow) hg (by rw [List.length_map]; omega)
    rw [← hn] at key
    refine callC_of_calls key fun e w' ⟨he, m, os, hw⟩ => ⟨_, he, rfl, ⟨?_, h.own, ?_, h.cap⟩, ?_⟩
    · subst hw
      have := sorted_row encStr (m := m) h.row ((l.map txt).mergeSort (fun x y => decide (x ≤ y))).toArray (by simp [hlen]) os
      have e2 : (sortB l).map Value.string = ((l.map txt).mergeSort (fun x y => decide (x ≤ y))).toArray.toList.map encStr := by
        unfold sortB
        rw [List.map_map]; rfl
      rw [e2]; exact this
    · simp [sortB, hlen]
    · subst hw
      exact (sorted_upd encStr w g o m _ os).mono fun b _ (e : b = g) => by simp [InRow, Value.ownBlock, e]

set_option maxRecDepth 100000 in
/-- names, rising, in a row of their own. -/
theorem sorted_names {w : World} {p : Option Addr} {n c : Nat} {l : List ByteArray} (h : StrsAt w p l) (hn : n = l.length) (hl : l.length ≤ 1000000) {K : Value → World → Prop}
    (hk : ∀ p' n' c' w', Own w.heap.size w' 9 p' n' c' ((sortB l).map Value.string) → Upd No w w' → K (.slice p' n' c') w') :
    callC Tryz.prog 43 #[.slice p n c] w fun v w1 => callC Tryz.prog 42 #[v] w1 K := by
  refine tvals_text _ _ _ _ _ (newC_mk fun w1 B1 u1 s1 => ?_)
  have h1 := strs_keep h u1
  refine tsorted_text _ _ _ (callC_of (tcollect_text _ _ (fun v w2 => ∃ p' n' c', v = .slice p' n' c' ∧ Own w.heap.size w2 9 p' n' c' (l.map Value.string) ∧ Upd No w w2) ?_) fun v w2 ⟨p', n', c', e, o, u2⟩ => ⟨p', n', c', e, ?_⟩)
  · have := append_in (xs := l) hl (tb := w.heap.size) (w := w1) fun n W u => val_stops (w0 := w1) h1 hn hl u (cell_keep (B1.cell rfl) u)
    refine callC_of_calls (callsIn_wide.1 this) fun e w2 ⟨v, he, ho, hb⟩ => ⟨v, he, ?_⟩
    have hr : RowAt w2 9 1 v (l.map Value.string) := by
      obtain ⟨hl, ⟨rfl, _⟩ | ⟨g, cap, cur, rfl, hb, hg, hn, hc, hs, ht⟩⟩ := ho
      · exact ⟨0, by omega, .inl ⟨rfl, rfl⟩⟩
      · exact ⟨l.length, hl, .inr ⟨g, 0, cap, cur, rfl, hg, hn, hc, by omega, by simpa using ht⟩⟩
    obtain ⟨p', n', c', rfl, q1, q2, q3⟩ := hr.shape
    refine ⟨p', n', c', rfl, p', n', c', rfl, ⟨hr, fun b hb' => ?_, by omega, q2, q3⟩, up u1 (upd_of_below hb)⟩
    obtain ⟨_, ⟨e, _⟩ | ⟨g, cap, cur, e, hb2, _⟩⟩ := ho
    · cases e; cases hb'
    · cases e
      have : b = g := by simpa [InRow, Value.ownBlock] using hb'.symm
      omega
  · refine callC_of (sort_spec o hl) fun v w6 ⟨e, o6, u6⟩ => ⟨e, hk _ _ _ _ o6 ?_⟩
    exact u2.trans u6 fun x hx hb => by have := o.own x hb; omega
end Go.Proofs.YtpddhbdjcgkjcaaGreatDoor

/- ty.Rec. -/
namespace Go.Proofs.YtpddhbdjcgkjcaaGreatDoor
open Go.SX Go.Ty

theorem runR_of {α : Type} {e : Sem α} {w : World} {K : α → Prop} {v : α} (h : e.run Tryz.prog w = .ok v w) (hk : K v) : runR Tryz.prog e (some w) K := ⟨v, hk, fun w' hw => by cases hw; exact h⟩
theorem und58 : Tryz.prog.underlying 58 = some (.map 9 23) := by kernel_rfl
theorem undS : Tryz.prog.underlying 9 = some .string := by kernel_rfl

def putAt (f : Value → Value) (n : ByteArray) (v : Value) : Value → Value
  | .string s => if s = n then v else f (.string s)
  | x => f x
/-- the map while it is filled. -/
def Filled (ns : List ByteArray) (vs : List Value) (i : Nat) (ks : List ByteArray) (f : Value → Value) : Prop :=
  ((ns.take i).Nodup ∧ ks = ns.take i ∧ ∀ j, (h : j < ns.length) → j < i → vs[j]? = some (f (.string ns[j]))) ∨ (¬ (ns.take i).Nodup ∧ ks.length < i)
theorem nodup_takeS {ns : List ByteArray} {i : Nat} (hi : i < ns.length) : (ns.take (i + 1)).Nodup ↔ (ns.take i).Nodup ∧ ns[i] ∉ ns.take i := by
  rw [List.take_succ_eq_append_getElem hi, List.nodup_append]
  constructor
  · rintro ⟨h1, _, h3⟩
    exact ⟨h1, fun h => h3 _ h _ (by simp) rfl⟩
  · rintro ⟨h1, h2⟩
    refine ⟨h1, by simp, fun a ha b hb e => ?_⟩
    rw [List.mem_singleton] at hb
    subst hb; subst e
    exact h2 ha
theorem mem_strs {p : ByteArray} {ps : List ByteArray} : Value.string p ∈ ps.map Value.string ↔ p ∈ ps := by simp

/-- what lies at a name. -/
def atName : List ByteArray → List T → ByteArray → T
  | n :: ns, t :: l, s => if n = s then t else atName ns l s
  | _, _, _ => .nil
theorem atName_get : ∀ {ns : List ByteArray} {l : List T}, ns.Nodup → (hl : ns.length = l.length) → ∀ {j : Nat} (hj : j < ns.length), atName ns l ns[j] = l[j]'(by omega)
  | n :: ns, t :: l, hn, hl, 0, hj => by simp [atName]
  | n :: ns, t :: l, hn, hl, j + 1, hj => by
    rw [List.nodup_cons] at hn
    have hj' : j < ns.length := by simpa using hj
    have : n ≠ ns[j] := fun e => hn.1 (e ▸ List.getElem_mem hj')
    simp only [List.getElem_cons_succ, atName]
    rw [if_neg this]
    exact atName_get hn.2 (by simpa using hl) hj'
  | [], _, _, _, _, hj => by simp at hj
  | _ :: _, [], _, hl, _, _ => by simp at hl
theorem zip_atName {ns : List ByteArray} {l : List T} (hn : ns.Nodup) (hl : ns.length = l.length) : ns.zip l = ns.map fun s => (s, atName ns l s) := by
  apply List.ext_getElem
  · simp [hl]
  · intro j h1 h2
    have hj : j < ns.length := by simpa using h2
    simp only [List.getElem_zip, List.getElem_map]
    rw [atName_get hn hl hj]
theorem leB_total (a b : List UInt8) : (decide (a ≤ b) || decide (b ≤ a)) = true := by
  rcases List.le_total a b with h | h <;> simp [h]
theorem sortB_perm (l : List ByteArray) : (sortB l).Perm l := by
  unfold sortB
  have := (List.mergeSort_perm (l.map txt) (fun x y => decide (x ≤ y))).map bs
  refine this.trans ?_
  rw [List.map_map]
  have : (bs ∘ txt) = id := by funext s; exact bs_txt s
  rw [this, List.map_id]
theorem sortB_sorted {l : List ByteArray} (hn : l.Nodup) : (sortB l).Pairwise fun a b => txt a < txt b := by
  have h2 : (sortB l).Nodup := (sortB_perm l).nodup_iff.2 hn
  have h1 : (sortB l).Pairwise fun a b => txt a ≤ txt b := by
    unfold sortB
    rw [List.pairwise_map]
    have := List.pairwise_mergeSort (le := fun x y : List UInt8 => decide (x ≤ y)) (fun a b c h1 h2 => by simpa using List.le_trans (by simpa using h1) (by simpa using h2)) leB_total (l.map txt)
    refine this.imp fun {a b} h => ?_
    rw [txt_bs, txt_bs]
    simpa using h
  refine (h1.and h2).imp fun {a b} ⟨h1, h2⟩ => ?_
  by_cases h4 : txt a < txt b
  · exact h4
  · exact absurd (List.le_antisymm h1 (List.not_lt.1 h4)) fun x => h2 (txt_inj x)
theorem sortP_names_eq {ns : List ByteArray} {l : List T} (hn : ns.Nodup) (hl : ns.length = l.length) : sortP (ns.zip l) = (sortB ns).map fun s => (s, atName ns l s) := by
  refine sortP_eq ?_ ?_ (by rw [(fst_zip hl).1]; exact hn)
  · rw [zip_atName hn hl]
    exact (sortB_perm ns).map _
  · show List.Pairwise _ _
    rw [List.pairwise_map]
    exact sortB_sorted hn

set_option maxRecDepth 100000 in
theorem inv_rec1 {q : ByteArray} {w : World} {K : Value → World → Prop} (h : callC Tryz.prog 40 #[.string q] w K) : invC Tryz.prog (.func (.func 40) #[] #[]) #[.string q] w K := of_eq h (by kernel_rfl)

set_option maxRecDepth 100000 in
set_option maxHeartbeats 2000000 in
theorem tRec_spec {ns : List ByteArray} {l : List T} {F : Nat → Prop} {w : World} {p0 : Option Addr} {n0 c0 : Nat} {p : Option Addr} {n c : Nat} (hN : StrsAt w p0 ns) (hn0 : n0 = ns.length) (h : TyRow ids F w (.slice p n c) l) (hl : l.length ≤ 1000000) :
    callC Tryz.prog 20 #[.slice p0 n0 c0, .slice p n c] w fun v w' => ∃ q : Option Addr, v = .tuple #[.pointer q, .int .i64 (recF ns l).2] ∧ TyAt ids (With F w.heap.size) w' (.pointer q) (recF ns l).1 ∧ Upd No w w' := by
  obtain ⟨en, hc1, hc2, _⟩ := h.get
  subst hn0; subst en
  simp only [maxLen] at hc2
  refine tRec_text _ _ _ _ _ _ _ _ ⟨fun w' => Upd No w w' ∧ ns.length = l.length ∧ allOk l = true ∧ (ns.all fun n => fieldL (txt n)) = true, ?_, fun b w' => Upd No w w' ∧ ((b = true ∧ recF ns l = (.nil, 2)) ∨ (b = false ∧ ns.length = l.length ∧ allOk l = true ∧ (ns.all fun n => fieldL (txt n)) = true)), ?_, ?_⟩
  rotate_left
  · rintro b w' ⟨u, ⟨rfl, hf⟩ | ⟨rfl, hh⟩⟩ _
    · refine brC_tt rfl ?_
      rw [hf]
      exact ⟨none, rfl, rfl, u⟩
    · exact brC_ff rfl ⟨u, hh⟩
  · refine brC_intro (fun hne => ⟨Upd.refl _ _, .inl ⟨rfl, rec_not fun hx => ?_⟩⟩) fun heq => ?_
    · rw [hx.1] at hne; simp at hne
    have heq : ns.length = l.length := by have : (ns.length : Int) = l.length := by simpa using heq
                                          omega
    refine callC_of (tall_spec h) fun v w67 ⟨e, u67⟩ => ⟨_, e, brC_intro (fun hb => ⟨u67, .inl ⟨rfl, rec_not fun hx => ?_⟩⟩) fun hb => ?_⟩
    · have := hx.2.1
      unfold allOk at this
      rw [this] at hb; cases hb
    have hok : allOk l = true := by unfold allOk; simpa using hb
    have hN67 := strs_keep hN u67
    refine callC_of (cfS_spec (f := fun s => !(fieldL (txt s))) (D := fun _ => True) hN67 rfl (by simp only [maxLen]; omega) (fun w s _ => inv_rec1 (tRec1_text _ _ _ (callC_of (tfield_spec s w) fun v w' ⟨e, u⟩ => ⟨_, e, rfl, u⟩))) fun _ _ => trivial) fun v w70 ⟨e, u70⟩ => ⟨_, e, up u67 u70, ?_⟩
    have hna := not_any (fun s => !(fieldL (txt s))) ns
    simp only [Bool.not_not] at hna
    cases hany : (ns.any fun s => !(fieldL (txt s))) with
    | true =>
      rw [hany] at hna
      exact .inl ⟨rfl, rec_not fun hx => by rw [hx.2.2.1] at hna; cases hna⟩
    | false =>
      rw [hany] at hna
      exact .inr ⟨rfl, heq, hok, hna.symm⟩
  rintro w1 ⟨u1, heq, hok, hfl⟩ _
  obtain ⟨vs, r1, _, t1⟩ := (h.keep u1).mono (G := fun b => F b ∧ b < w1.heap.size) fun b hb hf => ⟨hf, hb⟩
  have evs := t1.length
  have hN1 := strs_keep hN u1
  have hw1 := u1.size
  refine newM_mk (d := .string) (f := fun _ => .nilIface) fun w4 M4 u4 s4 => ?_
  refine ⟨fun m w' => ∃ i : Nat, m = i ∧ i ≤ ns.length ∧ Upd No w1 w' ∧ w1.heap.size < w'.heap.size ∧ ∃ ks f, MapF .string w' w1.heap.size (ks.map Value.string) f ∧ Filled ns vs i ks f, fun m _ => (ns.length - m).toNat, ⟨0, rfl, Nat.zero_le _, u4, by omega, [], _, M4, .inl ⟨by simp, by simp, fun j _ hj => by omega⟩⟩, ?_⟩
  rintro m w8 ⟨i, rfl, hi, u8, hs8, ks, f, M8, hF8⟩ _
  refine brC_intro (fun hlt => ?_) fun hge => ?_
  · have hlt : i < ns.length := by have := of_decide_eq_true hlt; omega
    have hN8 := strs_keep hN1 u8
    have r8 := r1.upd u8 fun _ _ x => x
    refine ⟨by omega, by omega, strC hN8 hlt fun a hc => ⟨by omega, by omega, ?_⟩⟩
    have hiv : i < vs.length := by omega
    obtain ⟨q, eq, _⟩ := ptr_shape (t1.at_ (List.getElem?_eq_getElem hiv) (List.getElem?_eq_getElem (show i < l.length by omega)))
    obtain ⟨g, o, rfl, hv⟩ := r8.get (j := i) hiv
    rw [List.getElem?_eq_getElem hiv, eq] at hv
    refine ptrC_some ⟨q, by rw [add_mk, Int.toNat_natCast, Nat.mul_one]; exact hv, ?_⟩
    have hv' : putAt f ns[i] (.pointer q) (Value.string ns[i]) = Value.pointer q := if_pos rfl
    have ho : ∀ x ∈ ks.map Value.string, x ≠ Value.string ns[i] → putAt f ns[i] (.pointer q) x = f x := fun x hx hne => by
      obtain ⟨y, _, rfl⟩ := List.mem_map.1 hx
      exact if_neg fun e => hne (by rw [e])
    have hw : ∀ {w'}, Upd (· = w1.heap.size) w8 w' → Upd No w1 w' := fun u => u8.trans u fun x hx (e : x = _) => by omega
    rw [wrap_succ (by omega)]
    by_cases hin : ns[i] ∈ ks
    · refine update_in und58 undS (k := .string ns[i]) trivial M8 (mem_strs.2 hin) _ hv' ho fun w15 M15 u15 s15 => ⟨⟨i + 1, rfl, hlt, hw u15, by omega, ks, _, M15, .inr ?_⟩, by dsimp only; omega⟩
      rw [nodup_takeS hlt]
      rcases hF8 with ⟨h1, rfl, h3⟩ | ⟨h1, h2⟩
      · exact ⟨fun x => x.2 hin, by rw [List.length_take]; omega⟩
      · exact ⟨fun x => h1 x.1, by omega⟩
    · refine update_out und58 undS (k := .string ns[i]) trivial M8 (fun x => hin (mem_strs.1 x)) _ hv' ho fun w15 M15 u15 s15 => ⟨⟨i + 1, rfl, hlt, hw u15, by omega, ks ++ [ns[i]], _, by rw [List.map_append]; exact M15, ?_⟩, by dsimp only; omega⟩
      unfold Filled
      rw [nodup_takeS hlt]
      rcases hF8 with ⟨h1, rfl, h3⟩ | ⟨h1, h2⟩
      · refine .inl ⟨⟨h1, hin⟩, by rw [List.take_succ_eq_append_getElem hlt], fun j hj hji => ?_⟩
        by_cases e : j = i
        · subst e
          rw [hv', List.getElem?_eq_getElem hiv, eq]
        · have hji : j < i := by omega
          have : ns[j] ≠ ns[i] := fun x => hin (by rw [← x, List.mem_take_iff_getElem]; exact ⟨j, by omega, rfl⟩)
          rw [show putAt f ns[i] (.pointer q) (.string ns[j]) = f (.string ns[j]) from if_neg this, h3 j hj hji]
      · exact .inr ⟨fun x => h1 x.1, by rw [List.length_append]; simp; omega⟩
  have hi : i = ns.length := by have := of_decide_eq_false hge; omega
  subst hi
  unfold Filled at hF8
  rw [List.take_length] at hF8
  refine runR_of (run_len und58 M8 _) ⟨_, rfl, ?_⟩
  rw [List.length_map]
  have U8 := up u1 u8
  refine brC_intro (fun hne => ?_) fun hsame => ?_
  · have hnn : ¬ ns.Nodup := fun hn => by
      rcases hF8 with ⟨_, rfl, _⟩ | ⟨h1, _⟩
      · simp at hne
      · exact h1 hn
    rw [rec_not fun hx => hnn hx.2.2.2]
    exact ⟨none, rfl, rfl, U8⟩
  have hsame : ks.length = ns.length := by have : (ks.length : Int) = ns.length := by simpa using hsame
                                           omega
  obtain ⟨hnd, rfl, hfv⟩ : ns.Nodup ∧ ks = ns ∧ ∀ j, (h : j < ns.length) → j < ns.length → vs[j]? = some (f (.string ns[j])) := by
    rcases hF8 with h | ⟨_, h2⟩
    · exact h
    · omega
  have eF : recF ks l = fits (.mk 7 .empty (sortB ks) ((sortB ks).map (atName ks l)) .nil) := by
    unfold recF
    rw [if_pos ⟨heq, hok, hfl, hnd⟩, sortP_names_eq hnd heq, List.map_map, List.map_map]
    congr 2
    exact List.map_id _
  rw [eF]
  have hN8 := strs_keep hN1 u8
  have hslen : (sortB ks).length = ks.length := (sortB_perm ks).length_eq
  refine callC_of (sorted_names (K := fun v w22 => ∃ p' n' c', v = .slice p' n' c' ∧ OwnS w8.heap.size w22 p' n' c' (sortB ks) ∧ Upd No w8 w22) hN8 rfl (by omega) fun p' n' c' w22 o u => ⟨p', n', c', rfl, o, u⟩) fun v18 w19 h42 => ⟨_, rfl, callC_of h42 fun v w22 ⟨p', n', c', e, o22, u22⟩ => ⟨_, _, _, e, ?_⟩⟩
  refine newC_mk fun w27 B27 u27 s27 => ⟨_, _, _, B27.cell rfl, ?_⟩
  have hs22 := u22.size
  have M27 := (M8.upd u22 (fun x => x)).upd u27 (fun x => x)
  have u827 := up u22 u27
  have U27 : Upd No w1 w27 := up u8 u827
  have hn' := o22.len'.1
  refine ⟨fun m w' => ∃ i : Nat, m = i ∧ i ≤ (sortB ks).length ∧ Upd (fun b => w22.heap.size ≤ b) w27 w' ∧ ∃ pa na ca, Blk w' w22.heap.size #[.int .i64 7, .string .empty, .slice p' n' c', .slice pa na ca, .pointer none] 44 ∧ OwnT w1.heap.size w27.heap.size F w' pa na ca (((sortB ks).take i).map (atName ks l)),
    fun m _ => (n' - m).toNat, ⟨0, rfl, Nat.zero_le _, Upd.refl _ _, none, 0, 0, B27, OwnT.nil _ _ _ _⟩, ?_⟩
  rintro m w34 ⟨i, rfl, hi, u34, pa, na, ca, B34, T34⟩ _
  have hs34 := u34.size
  have o34 : OwnS w8.heap.size w34 p' n' c' (sortB ks) := by
    have hr := (o22.row.upd u27 fun _ _ x => x)
    exact ⟨hr.upd u34 fun b hb (hx : w22.heap.size ≤ b) => by have := o22.row.lt hb; omega, o22.own, o22.len, o22.cap⟩
  refine brC_intro (fun hlt => ?_) fun hge => ?_
  · have hlt : i < (sortB ks).length := by have := of_decide_eq_true hlt; omega
    refine ⟨fun w' => Upd (fun b => w22.heap.size ≤ b) w27 w' ∧ ∃ pa na ca, Blk w' w22.heap.size #[.int .i64 7, .string .empty, .slice p' n' c', .slice pa na ca, .pointer none] 44 ∧ OwnT w1.heap.size w27.heap.size F w' pa na ca (((sortB ks).take (i + 1)).map (atName ks l)), ?_, by omega, by omega, ?_⟩
    · rintro w37 ⟨u37, hx⟩ _
      rw [wrap_succ (by omega)]
      exact ⟨⟨i + 1, rfl, hlt, u37, hx⟩, by dsimp only; omega⟩
    refine strC (strs_row o34.row) hlt fun a hc => drawC_mk fun w41 u41 s41 => ?_
    have hmem : (sortB ks)[i] ∈ ks := (sortB_perm ks).mem_iff.1 (List.getElem_mem hlt)
    have M34 := M27.upd u34 (fun (hx : w22.heap.size ≤ w1.heap.size) => by omega)
    obtain ⟨j, hj, hjs⟩ := List.getElem_of_mem hmem
    have hfj := hfv j hj hj
    rw [hjs] at hfj
    have hjv : j < vs.length := by omega
    have hjl : j < l.length := by omega
    obtain ⟨q, eq, _⟩ := ptr_shape (t1.at_ hfj (List.getElem?_eq_getElem hjl))
    have htj := t1.at_ hfj (List.getElem?_eq_getElem hjl)
    rw [eq] at htj
    have ehj : atName ks l (sortB ks)[i] = l[j] := by
      have := atName_get hnd heq hj
      rw [hjs] at this
      exact this
    have M41 := M34.upd u41 (fun x => x)
    have hlk : ∀ w' S, Upd S w41 w' → ¬ S w1.heap.size → (Instr.lookup 58 (.map (some w1.heap.size)) (.string (sortB ks)[i]) false).run Tryz.prog w' = .ok (.pointer q) w' := fun w' S u' hS => by
      have := run_lookup_in und58 undS (k := .string (sortB ks)[i]) trivial (M41.upd u' hS) (mem_strs.2 hmem) false
      rw [eq] at this
      exact this
    have B41 := B34.upd u41 (fun x => x)
    have T41 := T34.keep u41
    have hrow : ∀ b, InRow (.slice pa na ca) b → w27.heap.size ≤ b := by
      obtain ⟨_, x, _⟩ := T34.ex
      exact x.own
    have hB41 : w22.heap.size < w41.heap.size := B41.lt
    have C41 : w41.cell? ⟨w22.heap.size, 3, none⟩ = some (.slice pa na ca) := B41.cell rfl
    have htj41 : TyAt ids (fun b => F b ∧ b < w1.heap.size) w41 (.pointer q) l[j] := ((htj.keep U27).upd u34 fun b hb (hx : w22.heap.size ≤ b) => by omega).keep u41
    refine ⟨fun w' => Upd (fun b => w41.heap.size ≤ b ∨ InRow (.slice pa na ca) b) w41 w', _, _, _, C41, fun w' u' => lds_typs ((B41.upd u' (fun hx => by rcases hx with hx | hx; omega; have := hrow _ hx; omega)).cell rfl), runR_of (hlk w41 No (Upd.refl _ _) id) ⟨q, rfl, fun w' u' => hlk w' _ u' (fun hx => by rcases hx with hx | hx; omega; have := hrow _ hx; omega), ?_, trivial⟩⟩
    refine newC_mk fun w51 B51 u51 s51 => ⟨u51.mono fun _ _ x => x.elim, ?_, trivial⟩
    refine (T41.keep u51).grow1 (by omega) (by omega) B51 (htj41.keep u51) (by simp; omega) fun p2 n2 c2 w53 o53 u53 hin u53r => ⟨u51.mono (fun _ _ x => x.elim) |>.trans u53r fun x _ hx => .inr hx, ?_, trivial⟩
    have B53 := (B41.upd u51 id).upd u53r fun hx => by have := hrow _ hx; omega
    refine stC_mk B53 (by simp) fun w57 B57 u57 s57 => ⟨?_, p2, n2, c2, B57, ?_⟩
    · exact (((u34.trans u41 fun _ _ x => x.elim).trans u51 fun _ _ x => x.elim).trans u53r fun x _ hx => by have := hrow x hx; omega).trans u57 fun x _ (hx : x = w22.heap.size) => by omega
    · rw [List.take_succ_eq_append_getElem hlt, List.map_append, List.map_cons, List.map_nil, ehj]
      obtain ⟨vs2, a1, a2⟩ := o53.ex
      exact ⟨vs2, ⟨a1.row.upd u57 fun b hb (hx : b = w22.heap.size) => by have := a1.own b hb; omega, a1.own, a1.len, a1.cap⟩, a2.upd u57 fun b hb (hx : b = w22.heap.size) => by omega⟩
  have hi : i = (sortB ks).length := by have := of_decide_eq_false hge; omega
  rw [hi, List.take_length] at T34
  obtain ⟨vs', q1, q2⟩ := T34.ex
  have hT : TyAt ids (With F w.heap.size) w34 (.pointer (some ⟨w22.heap.size, 0, none⟩)) (.mk 7 .empty (sortB ks) ((sortB ks).map (atName ks l)) .nil) := by
    refine mkTy (nv := .slice p' n' c') (av := .slice pa na ca) (rv := .pointer none) B34 (.inr (by omega)) o34.row (fun b hb => .inr (by have := o34.own b hb; omega)) q1.row (fun b hb => .inr (by have := q1.own b hb; omega)) (q2.mono fun b _ hb => .inl hb.1) rfl
  refine callC_of (tfits_spec hT) fun v w59 ⟨q, e, hq, u59⟩ => ⟨_, _, e, q, rfl, hq, ?_⟩
  exact (up (up u1 U27) (Upd.refl _ _)).trans (u34.trans u59 fun _ _ x => x.elim) fun x hx (hb : w22.heap.size ≤ x) => by omega
end Go.Proofs.YtpddhbdjcgkjcaaGreatDoor

/- slices.SortFunc of types, by their texts. -/
namespace Go.Proofs.YtpddhbdjcgkjcaaGreatDoor
open Go.SX Go.Ty Go.RowKit Go.Shelf Go.Sort

theorem grow_of_upd {W w' : World} (u : Upd No W w') (hd : W.drawn ≤ w'.drawn) : ∃ q os', w' = grow (W.drewN q) os' := by
  refine ⟨w'.drawn - W.drawn, w'.heap.extract W.heap.size w'.heap.size, ?_⟩
  have hh : w'.heap = W.heap ++ w'.heap.extract W.heap.size w'.heap.size := by
    have hs := u.size
    apply Array.ext_getElem?
    intro i
    by_cases hi : i < W.heap.size
    · rw [Array.getElem?_append_left hi]
      exact u.block i hi id
    · rw [Array.getElem?_append_right (by omega)]
      rw [Array.getElem?_extract]
      split
      · congr 1; omega
      · rw [Array.getElem?_eq_none (by omega)]
  have h1 := u.os
  have h2 := u.tape
  have h3 := u.output
  cases w' with
  | mk heap tape drawn os output =>
    simp only at hh h1 h2 h3 hd ⊢
    subst h1; subst h2; subst h3
    unfold grow World.drewN
    simp only
    rw [← hh]
    congr 1
    omega

theorem cmp_lt : ∀ a b : List UInt8, Lib.compareBytes a b < 0 ↔ a < b
  | [], [] => by simp [Lib.compareBytes]
  | [], _ :: _ => by simp [Lib.compareBytes]
  | _ :: _, [] => by simp [Lib.compareBytes]
  | a :: x, b :: y => by
    rw [Lib.compareBytes, List.cons_lt_cons_iff]
    split
    · rename_i h; simp [h]
    · rename_i h
      split
      · rename_i h2
        have : a ≠ b := fun e => by subst e; exact h h2
        simp [h, this]
      · rename_i h2
        have : a = b := UInt8.le_antisymm (UInt8.not_lt.1 h2) (UInt8.not_lt.1 h)
        simp [h, this, cmp_lt x y]

structure GoodT (F : Nat → Prop) (w : World) (x : Option Addr × T) : Prop where
  at_ : TyAt ids F w (.pointer x.1) x.2
  may : may x.2 = true
  small : size x.2 ≤ 60
abbrev GT (F : Nat → Prop) (w : World) : Type := { x : Option Addr × T // GoodT F w x }
def encT {F : Nat → Prop} {w : World} (x : GT F w) : Value := .pointer x.1.1
def cfT {F : Nat → Prop} {w : World} (x y : GT F w) : Int := Lib.compareBytes (write x.1.2) (write y.1.2)
theorem ltT {F : Nat → Prop} {w : World} (x y : GT F w) : ltOf cfT x y = decide (write x.1.2 < write y.1.2) := by
  unfold ltOf cfT
  exact decide_eq_decide.2 (cmp_lt _ _)
theorem swoT {F : Nat → Prop} {w : World} : SWO (ltOf (cfT (F := F) (w := w))) := by
  refine ⟨fun x => ?_, fun x y z h1 h2 => ?_, fun x y z h1 h2 => ?_⟩
  · rw [ltT]; simp [List.lt_irrefl]
  · rw [ltT, decide_eq_true_eq] at *
    exact List.lt_trans h1 h2
  · rw [ltT, decide_eq_false_iff_not, List.not_lt] at *
    exact List.le_trans h2 h1
theorem goods {F : Nat → Prop} {w : World} : ∀ {vs : List Value} {l : List T}, TysAt ids F w vs l → (∀ t ∈ l, may t = true ∧ size t ≤ 60) → ∃ L : List (GT F w), L.map encT = vs ∧ L.map (fun x => x.1.2) = l
  | [], [], _, _ => ⟨[], rfl, rfl⟩
  | [], _ :: _, h, _ => h.elim
  | _ :: _, [], h, _ => h.elim
  | v :: vs, t :: l, h, hg => by
    obtain ⟨h1, h2⟩ := h
    obtain ⟨q, rfl, _⟩ := ptr_shape h1
    obtain ⟨L, e1, e2⟩ := goods h2 fun t ht => hg t (List.mem_cons_of_mem _ ht)
    exact ⟨⟨(q, t), ⟨h1, (hg t (by simp)).1, (hg t (by simp)).2⟩⟩ :: L, by rw [List.map_cons, e1]; rfl, by rw [List.map_cons, e2]⟩

set_option maxRecDepth 100000 in
theorem cmpT_spec {F : Nat → Prop} {W : World} {x y : Option Addr} {t u : T} (hx : TyAt ids F W (.pointer x) t) (hy : TyAt ids F W (.pointer y) u) (ht : may t = true ∧ size t ≤ 60) (hu : may u = true ∧ size u ≤ 60) :
    callC Tryz.prog 50 #[.pointer x, .pointer y] W fun v w' => v = .int .i64 (Lib.compareBytes (write t) (write u)) ∧ Upd No W w' ∧ W.drawn ≤ w'.drawn := by
  refine tUnion1_text _ _ _ _ (callC_of (twrite_d ht.1 ht.2 hx) fun v w1 ⟨e, u1, d1⟩ => ⟨_, e, callC_of (twrite_d hu.1 hu.2 (hy.keep u1)) fun v w4 ⟨e, u4, d4⟩ => ⟨_, e, ?_⟩⟩)
  refine callC_of_calls (Any.strings_Compare Tryz.cmpL (bs (write t)) (bs (write u)) w4) fun e w' ⟨he, hw⟩ => ⟨_, he, _, rfl, ?_, ?_, ?_⟩
  · rfl
  · rw [hw]; exact up u1 u4
  · rw [hw]; omega

set_option maxRecDepth 100000 in
theorem sortT_spec {n1 : Nat} {F : Nat → Prop} {w : World} {p : Option Addr} {n c : Nat} {vs : List Value} {l : List T} (h : Own n1 w ids.ptr p n c vs) (ht : TysAt ids F w vs l) (hF : ∀ b, F b → b < n1) (hg : ∀ t ∈ l, may t = true ∧ size t ≤ 60) (hne : l ≠ []) (hl : l.length ≤ 1000000000000) :
    callC Tryz.prog 49 #[.slice p n c, .func (.func 50) #[] #[]] w fun v w' =>
      v = .tuple #[] ∧ ∃ vs' l', Own n1 w' ids.ptr p n c vs' ∧ TysAt ids F w' vs' l' ∧ l'.Perm l ∧ (l'.Pairwise fun a b => ¬ write b < write a) ∧ Upd (InRow (.slice p n c)) w w' := by
  obtain ⟨L, e1, e2⟩ := goods ht hg
  have hlen := h.len
  subst e1
  rw [List.length_map] at hlen
  have hL : L.length = l.length := by rw [← e2, List.length_map]
  have hlpos : 0 < l.length := List.length_pos_iff.2 hne
  cases p with
  | none =>
    obtain ⟨hx, _, _⟩ := row_none h.row
    have : L = [] := by simpa using hx
    subst this
    simp at hL; omega
  | some a =>
    obtain ⟨g, o, rfl⟩ : ∃ g o, a = ⟨g, o, none⟩ := by
      obtain ⟨n', hl, ⟨e0, rfl⟩ | ⟨g', o', cap, cur, e0, hg, _⟩⟩ := h.row
      · cases e0
      · cases e0; exact ⟨_, _, rfl⟩
    have hgn : n1 ≤ g := h.own g rfl
    have hgl : g < w.heap.size := h.row.lt rfl
    haveI : Inhabited (GT F w) := ⟨L[0]'(by omega)⟩
    have hcmp : CmpLays1 Tryz.prog 50 #[] (encT (F := F) (w := w)) cfT g o L.toArray.size w := by
      intro m os dk hdk x y
      have hU : Upd (fun b => b = g) w (sortWorld encT w g o m dk os) := sorted_upd encT w g o m dk os
      have hk : ∀ z : GT F w, TyAt ids F (sortWorld encT w g o m dk os) (.pointer z.1.1) z.1.2 := fun z => z.2.at_.upd hU fun b hb e => by have := hF b hb; omega
      refine Calls.mono (cmpT_spec (hk x) (hk y) ⟨x.2.may, x.2.small⟩ ⟨y.2.may, y.2.small⟩) fun e w' hx => ?_
      cases e with
      | returned v =>
        obtain ⟨rfl, u, d⟩ := hx
        exact ⟨rfl, grow_of_upd u d⟩
      | _ => exact hx.elim
    have key := Any.slices_SortFunc Tryz.sort49 (encT (F := F) (w := w)) (fun _ => rfl) cfT swoT 50 #[] g o c L.toArray w (enters_of Tryz.func50 (by kernel_rfl) rfl) hcmp (row_holds encT L.toArray (by simpa using h.row)) hgl (by simp; omega)
    have hn : n = L.toArray.size := by simpa using hlen
    rw [← hn] at key
    refine callC_of_calls key fun e w' ⟨he, d', m, os, hp, hs, hw⟩ => ⟨_, he, rfl, ?_⟩
    subst hw
    have hd : d'.size = n := by rw [hp.1, hn]
    have hperm : d'.toList.Perm L := by
      have := hp.2.2
      have ea : d'.extract 0 n = d' := by rw [← hd, Array.extract_size]
      have eb : L.toArray.extract 0 n = L.toArray := by rw [hn, Array.extract_size]
      rw [ea, eb] at this
      simpa using this
    have hU : Upd (fun b => b = g) w (sortWorld encT w g o m d' os) := sorted_upd encT w g o m d' os
    refine ⟨d'.toList.map encT, d'.toList.map (fun x => x.1.2), ⟨sorted_row encT h.row d' hd os, h.own, by simp [hd], h.cap⟩, ?_, ?_, ?_, hU.mono fun b _ (e : b = g) => by simp [InRow, Value.ownBlock, e]⟩
    · rw [tysAt_iff]
      refine ⟨by simp, fun i v t hv ht => ?_⟩
      rw [List.getElem?_map] at hv ht
      cases hz : d'.toList[i]? with
      | none => rw [hz] at hv; cases hv
      | some z =>
        rw [hz] at hv ht
        cases hv; cases ht
        exact z.2.at_.upd hU fun b hb e => by have := hF b hb; omega
    · rw [← e2]
      exact hperm.map _
    · rw [List.pairwise_map, List.pairwise_iff_getElem]
      intro i j hi hj hij
      have hi' : i < d'.size := by simpa using hi
      have hj' : j < d'.size := by simpa using hj
      have := hs i j (Nat.zero_le _) hij (by omega)
      rw [ltT, decide_eq_false_iff_not] at this
      rw [getElem!_pos d' j hj', getElem!_pos d' i hi'] at this
      simpa using this
end Go.Proofs.YtpddhbdjcgkjcaaGreatDoor

/- ty.Union. -/
namespace Go.Proofs.YtpddhbdjcgkjcaaGreatDoor
open Go.SX Go.Ty

/-! ### what is kept of a rising row -/
abbrev eqT (a b : T) : Bool := decide (a = b)
theorem ddA_sub : ∀ (p : T) (l : List T) (x : T), x ∈ ddA eqT p l → x ∈ l
  | _, [], _, h => by simp [ddA] at h
  | p, y :: l, x, h => by
    unfold ddA at h
    split at h
    · exact List.mem_cons_of_mem _ (ddA_sub y l x h)
    · rcases List.mem_cons.1 h with rfl | h
      · simp
      · exact List.mem_cons_of_mem _ (ddA_sub y l x h)
theorem ddA_all : ∀ (p : T) (l : List T) (x : T), x ∈ l → x = p ∨ x ∈ ddA eqT p l
  | _, [], _, h => by cases h
  | p, y :: l, x, h => by
    unfold ddA
    split
    · rename_i e
      have e : y = p := by simpa using e
      subst e
      rcases List.mem_cons.1 h with rfl | h
      · exact .inl rfl
      · exact ddA_all y l x h
    · rcases List.mem_cons.1 h with rfl | h
      · exact .inr (by simp)
      · rcases ddA_all y l x h with rfl | h
        · exact .inr (by simp)
        · exact .inr (List.mem_cons_of_mem _ h)
theorem ddA_sorted : ∀ (p : T) (l : List T), ((p :: l).Pairwise fun a b => ¬ write b < write a) → (∀ x ∈ p :: l, ∀ y ∈ p :: l, write x = write y → x = y) → (∀ x ∈ ddA eqT p l, write p < write x) ∧ SortedT (ddA eqT p l)
  | _, [], _, _ => by simp [ddA]
  | p, y :: l, hs, hi => by
    obtain ⟨h1, h2⟩ := List.pairwise_cons.1 hs
    have hi' : ∀ x ∈ y :: l, ∀ z ∈ y :: l, write x = write z → x = z := fun x hx z hz => hi x (List.mem_cons_of_mem _ hx) z (List.mem_cons_of_mem _ hz)
    obtain ⟨g1, g2⟩ := ddA_sorted y l h2 hi'
    unfold ddA
    by_cases e : y = p
    · subst e
      rw [if_pos (by simp)]
      exact ⟨g1, g2⟩
    · rw [if_neg (by simpa using e)]
      have hlt : write p < write y := lt_of_ne (h1 y (by simp)) fun x => e (hi y (by simp) p (by simp) x)
      refine ⟨fun x hx => ?_, List.pairwise_cons.2 ⟨g1, g2⟩⟩
      rcases List.mem_cons.1 hx with rfl | hx
      · exact hlt
      · exact lt_trans' hlt (g1 x hx)
theorem dd_out {l m : List T} (hT : Tells l) (hp : m.Perm (flatT l)) (hs : m.Pairwise fun a b => ¬ write b < write a) : dd eqT m = outT l := by
  have hmem : ∀ x, x ∈ dd eqT m ↔ x ∈ m := by
    intro x
    cases m with
    | nil => simp [dd]
    | cons p m =>
      unfold dd
      constructor
      · intro h
        rcases List.mem_cons.1 h with rfl | h
        · simp
        · exact List.mem_cons_of_mem _ (ddA_sub p m x h)
      · intro h
        rcases List.mem_cons.1 h with rfl | h
        · simp
        · rcases ddA_all p m x h with rfl | h
          · simp
          · exact List.mem_cons_of_mem _ h
  have hsd : SortedT (dd eqT m) := by
    cases m with
    | nil => exact List.Pairwise.nil
    | cons p m =>
      have hi : ∀ x ∈ p :: m, ∀ y ∈ p :: m, write x = write y → x = y := fun x hx y hy => hT x (hp.mem_iff.1 hx) y (hp.mem_iff.1 hy)
      obtain ⟨h1, h2⟩ := ddA_sorted p m hs hi
      exact List.pairwise_cons.2 ⟨h1, h2⟩
  exact sortedT_ext hsd (outT_spec l).1 fun x => by rw [hmem, hp.mem_iff, out_iff hT]

set_option maxRecDepth 100000 in
set_option maxHeartbeats 2000000 in
theorem tUnion_spec {l : List T} {F : Nat → Prop} {w : World} {x0 : Option Addr} {x0l x0c : Nat} (h : TyRow ids F w (.slice x0 x0l x0c) l) (hll : l.length ≤ 1000000) (hT : allOk l = true → Tells l) :
    callC Tryz.prog 23 #[.slice x0 x0l x0c] w fun v w' => ∃ q : Option Addr, v = .tuple #[.pointer q, .int .i64 (unionF l).2] ∧ TyAt ids (With F w.heap.size) w' (.pointer q) (unionF l).1 ∧ Upd No w w' := by
  obtain ⟨el, _, hlm, _⟩ := h.get
  subst el
  refine tUnion_text _ _ _ _ _ ⟨fun w' => Upd No w w' ∧ l ≠ [] ∧ allOk l = true, ?_, fun b w' => Upd No w w' ∧ ((b = true ∧ unionF l = (.nil, 2)) ∨ (b = false ∧ l ≠ [] ∧ allOk l = true)), ?_, ?_⟩
  rotate_left
  · rintro b w' ⟨u, ⟨rfl, e⟩ | ⟨rfl, e⟩⟩ _
    · exact brC_tt rfl (by rw [e]; exact ⟨none, rfl, rfl, u⟩)
    · exact brC_ff rfl ⟨u, e⟩
  · refine brC_intro (fun hz => ⟨Upd.refl _ _, .inl ⟨rfl, ?_⟩⟩) fun hz => callC_of (tall_spec h) fun v w1 ⟨e, u1⟩ => ⟨_, e, u1, ?_⟩
    · have : l = [] := by
        have : (l.length : Int) = 0 := by simpa using hz
        exact List.eq_nil_of_length_eq_zero (by omega)
      subst this
      rfl
    · have hne : l ≠ [] := fun e => by subst e; simp at hz
      have e2 : (l.all fun t => check t == 0) = allOk l := rfl
      rw [e2]
      cases ha : allOk l with
      | true => exact .inr ⟨rfl, hne, rfl⟩
      | false =>
        refine .inl ⟨rfl, ?_⟩
        unfold unionF
        rw [ha]
        simp
  rintro w1 ⟨u1, hne, hok⟩ _
  have hflat := flat_ok hok
  have hU := unionF_eq hne hok
  generalize hn0 : w.heap.size = n0
  have hw1 : n0 ≤ w1.heap.size := by rw [← hn0]; exact u1.size
  have hrow0 : TyRow ids (fun b => F b ∧ b < n0) w (.slice x0 l.length x0c) l := h.mono fun b hb hf => ⟨hf, by omega⟩
  refine ⟨fun p n c j w' => ∃ i : Nat, j = i ∧ i ≤ l.length ∧ Upd No w w' ∧ n0 ≤ w'.heap.size ∧ OwnT n0 n0 F w' p n c (flatT (l.take i)) ∧ ∀ a ∈ l.take i, a.kind ≠ 1, fun _ _ _ j _ => (l.length - j).toNat,
    ⟨0, rfl, Nat.zero_le _, u1, hw1, OwnT.nil _ _ _ _, (fun a ha => by cases ha)⟩, ?_⟩
  rintro p n c j w9 ⟨i, rfl, hi, u9, g9, O9, hk1⟩ _
  obtain ⟨en, hnc, hcm⟩ := O9.len
  have hfl := flat_len hok i hi
  refine brC_intro (fun hlt => ?_) fun hge => ?_
  · have hlt : i < l.length := by have := of_decide_eq_true hlt; omega
    refine ⟨fun p' n' c' w' => Upd No w w' ∧ n0 ≤ w'.heap.size ∧ OwnT n0 n0 F w' p' n' c' (flatT (l.take (i + 1))) ∧ l[i].kind ≠ 1, ?_, ⟨by omega, by omega, ?_⟩⟩
    · rintro p' n' c' w15 ⟨u15, g15, O15, k15⟩ _
      rw [wrap_succ (by omega)]
      refine ⟨⟨i + 1, rfl, hlt, u15, g15, O15, fun a ha => ?_⟩, by dsimp only; omega⟩
      rw [List.take_succ_eq_append_getElem hlt, List.mem_append, List.mem_singleton] at ha
      rcases ha with ha | rfl
      · exact hk1 a ha
      · exact k15
    have hrow := hrow0.keep u9
    have hchk := allOk_iff.1 hok _ (List.getElem_mem hlt)
    obtain ⟨hmi, hsi⟩ := check_iff.1 hchk
    refine argC hrow hlt fun a x hc hx => ?_
    obtain ⟨g, rfl, hg⟩ := kindC hx (may_notNil hmi)
    refine ptrC_some ⟨_, hg, brC_intro (fun h1 => newC_mk fun w22 B22 u22 s22 => ?_) fun h1 => ?_⟩
    · have h1 : l[i].kind = 1 := by simpa using h1
      rw [hU, if_pos (List.any_eq_true.2 ⟨_, List.getElem_mem hlt, by simpa using h1⟩)]
      refine ⟨_, rfl, mkTy (nv := .slice none 0 0) (av := .slice none 0 0) (rv := .pointer none) (ns := []) (ta := []) (vs := []) (r := .nil) B22 (.inr g9) (RowAt.nil _ _ _) (fun b hb => (no_in b hb).elim) (RowAt.nil _ _ _) (fun b hb => (no_in b hb).elim) trivial rfl, up u9 u22⟩
    have h1 : l[i].kind ≠ 1 := by simpa using h1
    refine brC_intro (fun h9 => ?_) fun h9 => ?_
    · have h9 : l[i].kind = 9 := by simpa using h9
      have hsn := flat_snoc l hlt
      rw [if_pos h9] at hsn
      have hla := len_args hmi hsi
      have hop : ∃ p' c', w9.cell? (Addr.add g 3) = some (.slice p' l[i].args.length c') ∧ TyRow ids (fun b => F b ∧ b < n0) w9 (.slice p' l[i].args.length c') l[i].args := by
        cases hq : l[i] with
        | nil => rw [hq] at hmi; cases hmi
        | mk k' nm' ns' ta' r' =>
          rw [hq] at hx
          obtain ⟨_, _, _, _, _, _, e, D⟩ := ty_opens hx
          cases e
          exact ⟨_, _, D.c3, D.args⟩
      obtain ⟨p', c', hc3, hargs⟩ := hop
      obtain ⟨ys, y1, y2, y3⟩ := hargs
      refine ptrC_some ⟨_, _, _, hc3, O9.grow (Nat.le_refl _) g9 y1 y3 (by omega) fun p2 n2 c2 w34 o2 v34 _ _ => ⟨?_, ?_, ?_, h1⟩⟩
      · exact u9.trans v34 fun b hb (hx : n0 ≤ b) => by omega
      · exact Nat.le_trans g9 v34.size
      · rw [hsn]; exact o2
    · have h9 : l[i].kind ≠ 9 := by simpa using h9
      have hsn := flat_snoc l hlt
      rw [if_neg h9] at hsn
      refine newC_mk fun w41 B41 v41 s41 => ?_
      refine (O9.keep v41).grow1 (Nat.le_refl _) (by omega) B41 (hx.keep v41) (by omega) fun p2 n2 c2 w43 o2 v43 _ _ => ⟨?_, ?_, ?_, h1⟩
      · exact (up u9 v41).trans v43 fun b hb (hx : n0 ≤ b) => by omega
      · have := v43.size; omega
      · rw [hsn]; exact o2
  have hi : i = l.length := by have := of_decide_eq_false hge; omega
  rw [hi, List.take_length] at O9 hk1 en hfl
  have hany : l.any (·.kind == 1) = false := by
    rw [List.any_eq_false]
    intro a ha
    simpa using hk1 a ha
  rw [hany, if_neg (by simp)] at hU
  have hfne : flatT l ≠ [] := fun e => by
    obtain ⟨a, ha⟩ := List.exists_mem_of_ne_nil l hne
    obtain ⟨hma, _⟩ := check_iff.1 (allOk_iff.1 hok a ha)
    have : ∃ x, x ∈ flatT l := by
      by_cases h9 : a.kind = 9
      · have h2 : 2 ≤ a.args.length := by
          cases Go.Ty.shape hma with
          | union _ h2 => exact h2
          | basic _ h1 h5 =>
            have h9 := h9
            simp only [T.kind] at h9
            omega
          | name _ _ => exact absurd h9 (by simp [T.kind])
          | record _ _ _ _ _ _ => exact absurd h9 (by simp [T.kind])
          | fn _ _ _ _ => exact absurd h9 (by simp [T.kind])
        obtain ⟨x, hx⟩ : ∃ x, x ∈ a.args := List.exists_mem_of_ne_nil _ fun e => by rw [e] at h2; simp at h2
        exact ⟨x, List.mem_flatMap.2 ⟨_, ha, by rw [if_pos h9]; exact hx⟩⟩
      · exact ⟨a, List.mem_flatMap.2 ⟨a, ha, by rw [if_neg h9]; simp⟩⟩
    obtain ⟨x, hx⟩ := this
    rw [e] at hx; cases hx
  obtain ⟨vs, own9, t9⟩ := O9.ex
  refine callC_of (sortT_spec own9 t9 (fun b hb => hb.2) hflat hfne (by omega)) fun v w40 ⟨e, vs', l', own40, t40, hperm, hsort, u40⟩ => ⟨e, ?_⟩
  have hR : ∀ v t, (∃ q, v = Value.pointer q ∧ TyAt ids (fun b => F b ∧ b < n0) w40 (.pointer q) t) → ∃ s, v = Value.pointer s := fun v t ⟨q, e, _⟩ => ⟨q, e⟩
  have hnot : ∀ b, (F b ∧ b < n0) → ¬ InRow (.slice p n c) b := fun b hb hin => by have := own40.own b hin; omega
  have U40 : Upd No w w40 := u9.trans u40 fun b hb hx => by have := own9.own b hx; omega
  refine callC_of (compT_of (comp_rule (K := fun v w42 => ∃ p' n' c' xs', v = .slice p' n' c' ∧ RowAt w42 ids.ptr 1 (.slice p' n' c') xs' ∧ Tell (fun v t => ∃ q, v = Value.pointer q ∧ TyAt ids (fun b => F b ∧ b < n0) w40 (.pointer q) t) xs' (dd eqT l') ∧ Upd (InRow (.slice p n c)) w40 w42 ∧ (∀ b, InRow (.slice p' n' c') b → InRow (.slice p n c) b))
    hR zTyp own40.row (tell_typs t40) (eq := eqT) (fun v u a b w' ⟨q, e1, h1⟩ ⟨q', e2, h2⟩ _ _ u' => ?_) fun p' n' c' w' xs' h1 h2 h3 h4 => ⟨p', n', c', xs', rfl, h1, h2, h3, h4⟩)) fun v w42 ⟨p', n', c', xs', e, r42, tl42, u42, in42⟩ => ⟨p', n', c', e, ?_⟩
  · subst e1; subst e2
    exact inv_alike (talike_spec a b _ _ w' q q' (h1.upd u' hnot) (h2.upd u' hnot))
  rw [dd_out (hT hok) hperm hsort] at tl42
  have el := tl42.len
  obtain ⟨en42, _, _⟩ := row_cap r42
  have U42 : Upd No w w42 := U40.trans u42 fun b hb hx => by have := own9.own b hx; omega
  have t42 : TysAt ids (fun b => F b ∧ b < n0) w42 xs' (outT l) := by
    rw [tysAt_iff]
    refine ⟨el, fun i v t a b => ?_⟩
    obtain ⟨q, e, hq⟩ := tl42.at_ i v t a b
    subst e
    exact hq.upd u42 hnot
  rw [hU]
  refine brC_intro (fun h1 => ?_) fun h1 => newC_mk fun w49 B49 u49 s49 => ?_
  · have h1 : (outT l).length = 1 := by have : (n' : Int) = 1 := by simpa using h1
                                        omega
    have hn1 : n' = 1 := by omega
    obtain ⟨t, ht⟩ := List.length_eq_one_iff.1 h1
    rw [ht] at t42 el ⊢
    match xs', t42, el, r42 with
    | [x], t42, _, r42 =>
      obtain ⟨q, rfl, _⟩ := ptr_shape t42.1
      obtain ⟨g, o, rfl, hc⟩ := r42.get (j := 0) (by simp)
      refine ⟨by omega, by omega, ptrC_some ⟨q, by simpa using hc, q, rfl, t42.1.mono fun b _ hb => .inl hb.1, U42⟩⟩
  · have h1 : (outT l).length ≠ 1 := fun e => by
      have : (n' : Int) = 1 := by omega
      rw [this] at h1; simp at h1
    rw [unionOf_big h1]
    have hTy : TyAt ids (With F n0) w49 (.pointer (some ⟨w42.heap.size, 0, none⟩)) (.mk 9 .empty [] (outT l) .nil) := by
      refine mkTy (nv := .slice none 0 0) (av := .slice p' n' c') (rv := .pointer none) B49 (.inr (by have := U42.size; omega)) (RowAt.nil _ _ _) (fun b hb => (no_in b hb).elim) (r42.upd u49 fun _ _ x => x) (fun b hb => .inr (own9.own b (in42 b hb))) ((t42.keep u49).mono fun b _ hb => .inl hb.1) rfl
    exact callC_of (tfits_spec hTy) fun v w51 ⟨q, e, hq, u51⟩ => ⟨_, _, e, q, rfl, hq, up (up U42 u49) u51⟩
end Go.Proofs.YtpddhbdjcgkjcaaGreatDoor

/- The chapter's rows. -/
namespace Go.Proofs.YtpddhbdjcgkjcaaGreatDoor
open Go.SX Go.Ty

theorem row_blk {w : World} {k : Nat} {cs : Array Value} {e : TypeId} (h : Blk w k cs e) (n : Nat) (hn : cs.size = n) (hm : n ≤ maxLen) : RowAt w e 1 (.slice (some ⟨k, 0, none⟩) n n) cs.toList :=
  ⟨n, by simp [hn], .inr ⟨k, 0, n, cs, rfl, h, Nat.le_refl _, hm, by omega, by rw [List.drop_zero, Nat.mul_one, List.take_of_length_le (by simp [hn])]⟩⟩
theorem in_blk {k n c b : Nat} (h : InRow (.slice (some ⟨k, 0, none⟩) n c) b) : b = k := by simpa [InRow, Value.ownBlock] using h.symm
theorem fromW {n0 m : Nat} {w : World} {v : Value} {t : T} (h : TyAt ids (With (From n0) m) w v t) (hn : n0 ≤ m) : TyAt ids (From n0) w v t := h.mono fun b _ hb => hb.elim id fun (hb : m ≤ b) => (show n0 ≤ b by omega)
theorem txt_ok {l c : List UInt8} (h : l = c) : (ByteArray.toList (bs l) == ByteArray.toList (ByteArray.mk c.toArray)) = true := by subst h; exact beq_self_eq_true _
/-- a type of a kind alone. -/
abbrev tk (k : Int) : T := .mk k .empty [] [] .nil

section calls
variable {n0 : Nat} {w : World} {K : Value → World → Prop}
theorem c_kind (k : Int) (hn : n0 ≤ w.heap.size) (hk : ∀ q w', TyAt ids (From n0) w' (.pointer q) (tk k) → Upd No w w' → K (.pointer q) w') : callC Tryz.prog 27 #[.int .i64 k] w K :=
  callC_of (kind_spec k w) fun v w' ⟨q, e, h, u⟩ => e ▸ hk q w' (h.mono fun b _ (hb : w.heap.size ≤ b) => (show n0 ≤ b by omega)) u
theorem c_rec {ns : List ByteArray} {l : List T} {p0 : Option Addr} {m0 d0 : Nat} {p : Option Addr} {n c : Nat} (hN : StrsAt w p0 ns) (hm0 : m0 = ns.length) (h : TyRow ids (From n0) w (.slice p n c) l) (hl : l.length ≤ 1000000) (hn : n0 ≤ w.heap.size)
    (hk : ∀ q w', TyAt ids (From n0) w' (.pointer q) (recF ns l).1 → Upd No w w' → K (.tuple #[.pointer q, .int .i64 (recF ns l).2]) w') : callC Tryz.prog 20 #[.slice p0 m0 d0, .slice p n c] w K :=
  callC_of (tRec_spec hN hm0 h hl) fun v w' ⟨q, e, h, u⟩ => e ▸ hk q w' (fromW h hn) u
theorem c_union {l : List T} {p : Option Addr} {n c : Nat} (h : TyRow ids (From n0) w (.slice p n c) l) (hl : l.length ≤ 1000000) (hT : allOk l = true → Tells l) (hn : n0 ≤ w.heap.size)
    (hk : ∀ q w', TyAt ids (From n0) w' (.pointer q) (unionF l).1 → Upd No w w' → K (.tuple #[.pointer q, .int .i64 (unionF l).2]) w') : callC Tryz.prog 23 #[.slice p n c] w K :=
  callC_of (tUnion_spec h hl hT) fun v w' ⟨q, e, h, u⟩ => e ▸ hk q w' (fromW h hn) u
theorem c_fun {l : List T} {r : T} {p : Option Addr} {n c : Nat} {x : Option Addr} (h : TyRow ids (From n0) w (.slice p n c) l) (hl : l.length ≤ 1000000) (hr : TyAt ids (From n0) w (.pointer x) r) (hn : n0 ≤ w.heap.size)
    (hk : ∀ q w', TyAt ids (From n0) w' (.pointer q) (funF l r).1 → Upd No w w' → K (.tuple #[.pointer q, .int .i64 (funF l r).2]) w') : callC Tryz.prog 25 #[.slice p n c, .pointer x] w K :=
  callC_of (tFun_spec h hl hr) fun v w' ⟨q, e, h, u⟩ => e ▸ hk q w' (fromW h hn) u
theorem c_text {t : T} {F : Nat → Prop} {x : Option Addr} (h : TyAt ids F w (.pointer x) t) (hk : ∀ w', Upd No w w' → K (.string (bs (text t))) w') : callC Tryz.prog 14 #[.pointer x] w K :=
  callC_of (tText_spec h) fun v w' ⟨e, u⟩ => e ▸ hk w' u
theorem c_size {t : T} {F : Nat → Prop} {x : Option Addr} (h : TyAt ids F w (.pointer x) t) (hk : ∀ w', Upd No w w' → K (.int .i64 ((min (size t) 61 : Nat) : Int)) w') : callC Tryz.prog 12 #[.pointer x] w K :=
  callC_of (tSize_spec h) fun v w' ⟨e, u⟩ => e ▸ hk w' u
theorem c_check {t : T} {F : Nat → Prop} {x : Option Addr} (h : TyAt ids F w (.pointer x) t) (hk : ∀ w', Upd No w w' → K (.int .i64 (check t)) w') : callC Tryz.prog 10 #[.pointer x] w K :=
  callC_of (tCheck_spec h) fun v w' ⟨e, u⟩ => e ▸ hk w' u
theorem c_same {t u : T} {F G : Nat → Prop} {x y : Option Addr} (h : TyAt ids F w (.pointer x) t) (g : TyAt ids G w (.pointer y) u) (hk : ∀ w', Upd No w w' → K (.bool (same t u)) w') : callC Tryz.prog 16 #[.pointer x, .pointer y] w K :=
  callC_of (tSame_spec h g) fun v w' ⟨e, u⟩ => e ▸ hk w' u
end calls
theorem tells_of {l : List T} (h : (flatT l).all (fun x => (flatT l).all fun y => !(decide (write x = write y)) || decide (x = y)) = true) : Tells l := fun x hx y hy e => by
  have h1 := List.all_eq_true.1 (List.all_eq_true.1 h x hx) y hy
  simpa [e] using h1
theorem row2 {n0 : Nat} {w : World} {k : Nat} {p q : Option Addr} {t u : T} (B : Blk w k #[.pointer p, .pointer q] ids.ptr) (hk : n0 ≤ k) (h : TyAt ids (From n0) w (.pointer p) t) (g : TyAt ids (From n0) w (.pointer q) u) : TyRow ids (From n0) w (.slice (some ⟨k, 0, none⟩) 2 2) [t, u] :=
  ⟨_, row_blk B 2 rfl (by simp only [maxLen]; omega), fun b hb => by rw [in_blk hb]; exact hk, h, g, trivial⟩
theorem row3 {n0 : Nat} {w : World} {k : Nat} {p q r : Option Addr} {t u v : T} (B : Blk w k #[.pointer p, .pointer q, .pointer r] ids.ptr) (hk : n0 ≤ k) (h : TyAt ids (From n0) w (.pointer p) t) (g : TyAt ids (From n0) w (.pointer q) u) (f : TyAt ids (From n0) w (.pointer r) v) :
    TyRow ids (From n0) w (.slice (some ⟨k, 0, none⟩) 3 3) [t, u, v] :=
  ⟨_, row_blk B 3 rfl (by simp only [maxLen]; omega), fun b hb => by rw [in_blk hb]; exact hk, h, g, f, trivial⟩
theorem row0 {F : Nat → Prop} {w : World} : TyRow ids F w (.slice none 0 0) [] := ⟨[], RowAt.nil _ _ _, fun b hb => (no_in b hb).elim, trivial⟩

def wA : T := (recF [bs [98], bs [97]] [tk 2, tk 1]).1
def wB : T := (unionF [tk 4, tk 2, tk 4]).1
def wC : T := (unionF [tk 2, tk 1]).1
def wD : T := (funF [] (tk 2)).1
def wK : T := (unionF [tk 5, wD]).1
def wM : T := (funF [] wK).1
def wP : T := (recF [] []).1

set_option maxRecDepth 100000 in
set_option maxHeartbeats 2000000 in
theorem works_spec (w : World) : callC Tryz.prog 18 #[] w fun v w' => v = .bool true ∧ Upd No w w' := by
  refine works_text _ _ (newC_mk fun w1 B1 u1 s1 => ?_)
  refine c_kind (n0 := w.heap.size) 2 (by omega) fun p4 w3 h4 u3 => ⟨_, rfl, ?_⟩
  have z3 := u3.size
  refine c_kind (n0 := w.heap.size) 1 (by omega) fun p7 w6 h7 u6 => ⟨_, rfl, newC_mk fun w9 B9 u9 s9 => ?_⟩
  have z6 := u6.size
  refine c_rec (n0 := w.heap.size) (ns := [bs [98], bs [97]]) (strs_row (l := [bs [98], bs [97]]) (row_blk (((B1.upd u3 id).upd u6 id).upd u9 id) 2 rfl (by simp only [maxLen]; omega))) rfl (row2 B9 (by omega) ((h4.keep u6).keep u9) (h7.keep u9)) (by simp) (by omega) fun p12 w11 h12 u11 => ⟨_, _, rfl, ?_⟩
  have z11 := u11.size
  refine c_kind (n0 := w.heap.size) 4 (by omega) fun p16 w15 h16 u15 => ⟨_, rfl, ?_⟩
  have z15 := u15.size
  refine c_kind (n0 := w.heap.size) 2 (by omega) fun p19 w18 h19 u18 => ⟨_, rfl, ?_⟩
  have z18 := u18.size
  refine c_kind (n0 := w.heap.size) 4 (by omega) fun p22 w21 h22 u21 => ⟨_, rfl, newC_mk fun w24 B24 u24 s24 => ?_⟩
  have z21 := u21.size
  refine c_union (n0 := w.heap.size) (row3 B24 (by omega) (h16.keep (up u18 (up u21 u24))) (h19.keep (up u21 u24)) (h22.keep u24)) (by simp) (fun _ => tells_of (by decide +kernel)) (by omega) fun p27 w26 h27 u26 => ⟨_, _, rfl, ?_⟩
  have z26 := u26.size
  refine c_kind (n0 := w.heap.size) 2 (by omega) fun p31 w30 h31 u30 => ⟨_, rfl, ?_⟩
  have z30 := u30.size
  refine c_kind (n0 := w.heap.size) 1 (by omega) fun p34 w33 h34 u33 => ⟨_, rfl, newC_mk fun w36 B36 u36 s36 => ?_⟩
  have z33 := u33.size
  refine c_union (n0 := w.heap.size) (row2 B36 (by omega) (h31.keep (up u33 u36)) (h34.keep u36)) (by simp) (fun _ => tells_of (by decide +kernel)) (by omega) fun p39 w38 h39 u38 => ⟨_, _, rfl, ?_⟩
  have z38 := u38.size
  refine c_union (n0 := w.heap.size) (l := []) row0 (by simp) (fun _ => tells_of (by decide +kernel)) (by omega) fun p43 w42 h43 u42 => ⟨_, _, rfl, ?_⟩
  have z42 := u42.size
  refine c_kind (n0 := w.heap.size) 2 (by omega) fun p47 w46 h47 u46 => ⟨_, rfl, ?_⟩
  have z46 := u46.size
  refine c_fun (n0 := w.heap.size) (l := []) row0 (by simp) h47 (by omega) fun p50 w49 h50 u49 => ⟨_, _, rfl, ?_⟩
  have z49 := u49.size
  have kA : TyAt ids (From w.heap.size) w49 (.pointer p12) wA := h12.keep (up u15 (up u18 (up u21 (up u24 (up u26 (up u30 (up u33 (up u36 (up u38 (up u42 (up u46 u49)))))))))))
  have kB : TyAt ids (From w.heap.size) w49 (.pointer p27) wB := h27.keep (up u30 (up u33 (up u36 (up u38 (up u42 (up u46 u49))))))
  have kC : TyAt ids (From w.heap.size) w49 (.pointer p39) wC := h39.keep (up u42 (up u46 u49))
  have kD : TyAt ids (From w.heap.size) w49 (.pointer p50) wD := h50
  have U49 : Upd No w w49 := up u1 (up u3 (up u6 (up u9 (up u11 (up u15 (up u18 (up u21 (up u24 (up u26 (up u30 (up u33 (up u36 (up u38 (up u42 (up u46 u49)))))))))))))))
  clear h4 h7 h12 h16 h19 h22 h27 h31 h34 h39 h43 h47 h50 B1 B9 B24 B36
  refine ⟨fun w' => Upd No w49 w', ?_, fun b w' => b = false ∧ Upd No w49 w', ?_, ?_⟩
  rotate_left
  · rintro b w' ⟨rfl, u⟩ _
    exact brC_ff rfl u
  · refine brC_ff (by decide +kernel) (brC_ff (by decide +kernel) (brC_ff (by decide +kernel) (brC_ff (by decide +kernel) ?_)))
    refine c_text kD fun w118 u118 => ⟨_, rfl, ?_, u118⟩
    rw [txt_ok (show text wD = [102, 110, 40, 41, 32, 45, 62, 32, 105, 110, 116] by decide +kernel)]; rfl
  intro w53 u53 _
  have z53 := u53.size
  refine c_kind (n0 := w.heap.size) 5 (by omega) fun p57 w56 h57 u56 => ⟨_, rfl, newC_mk fun w59 B59 u59 s59 => ?_⟩
  have z56 := u56.size
  refine c_union (n0 := w.heap.size) (row2 B59 (by omega) (h57.keep u59) (kD.keep (up u53 (up u56 u59)))) (by simp) (fun _ => tells_of (by decide +kernel)) (by omega) fun p62 w61 h62 u61 => ⟨_, _, rfl, ?_⟩
  have z61 := u61.size
  refine c_fun (n0 := w.heap.size) (l := []) row0 (by simp) h62 (by omega) fun p66 w65 h66 u65 => ⟨_, _, rfl, newC_mk fun w69 B69 u69 s69 => ?_⟩
  have z65 := u65.size
  refine c_kind (n0 := w.heap.size) 2 (by omega) fun p72 w71 h72 u71 => ⟨_, rfl, ?_⟩
  have z71 := u71.size
  refine c_kind (n0 := w.heap.size) 2 (by omega) fun p75 w74 h75 u74 => ⟨_, rfl, newC_mk fun w77 B77 u77 s77 => ?_⟩
  have z74 := u74.size
  refine c_rec (n0 := w.heap.size) (ns := [bs [97], bs [97]]) (strs_row (l := [bs [97], bs [97]]) (row_blk (((B69.upd u71 id).upd u74 id).upd u77 id) 2 rfl (by simp only [maxLen]; omega))) rfl (row2 B77 (by omega) ((h72.keep u74).keep u77) (h75.keep u77)) (by simp) (by omega) fun p80 w79 h80 u79 => ⟨_, _, rfl, ?_⟩
  have z79 := u79.size
  refine c_rec (n0 := w.heap.size) (ns := []) (l := []) (fun i hi => by cases hi) rfl row0 (by simp) (by omega) fun p84 w83 h84 u83 => ⟨_, _, rfl, ?_⟩
  have U83 : Upd No w49 w83 := up u53 (up u56 (up u59 (up u61 (up u65 (up u69 (up u71 (up u74 (up u77 (up u79 u83)))))))))
  have kK : TyAt ids (From w.heap.size) w83 (.pointer p62) wK := h62.keep (up u65 (up u69 (up u71 (up u74 (up u77 (up u79 u83))))))
  have kM : TyAt ids (From w.heap.size) w83 (.pointer p66) wM := h66.keep (up u69 (up u71 (up u74 (up u77 (up u79 u83)))))
  have kP : TyAt ids (From w.heap.size) w83 (.pointer p84) wP := h84
  clear h57 h62 h66 h72 h75 h80 h84 B59 B69 B77
  refine c_text (kA.keep U83) fun w87 u87 => ⟨_, rfl, brC_tt (txt_ok (show text wA = _ by decide +kernel)) ?_⟩
  refine c_text (kB.keep (up U83 u87)) fun w90 u90 => ⟨_, rfl, brC_tt (txt_ok (show text wB = _ by decide +kernel)) ?_⟩
  refine c_text (kC.keep (up U83 (up u87 u90))) fun w93 u93 => ⟨_, rfl, brC_tt (txt_ok (show text wC = _ by decide +kernel)) ?_⟩
  refine brC_tt (by decide +kernel) (brC_tt (by decide +kernel) (brC_tt (by decide +kernel) ?_))
  have u93' := up u87 (up u90 u93)
  refine c_text (kK.keep u93') fun w96 u96 => ⟨_, rfl, brC_tt (txt_ok (show text wK = _ by decide +kernel)) ?_⟩
  refine c_text (kM.keep (up u93' u96)) fun w99 u99 => ⟨_, rfl, brC_tt (txt_ok (show text wM = _ by decide +kernel)) ?_⟩
  refine brC_tt (by decide +kernel) (brC_tt (by decide +kernel) ?_)
  refine c_text (kP.keep (up u93' (up u96 u99))) fun w102 u102 => ⟨_, rfl, brC_tt (txt_ok (show text wP = _ by decide +kernel)) ?_⟩
  have U102 : Upd No w49 w102 := up U83 (up u93' (up u96 (up u99 u102)))
  refine c_size (kA.keep U102) fun w105 u105 => ⟨_, rfl, brC_tt (by decide +kernel) ?_⟩
  have U105 := up U102 u105
  refine c_same (kA.keep U105) (kA.keep U105) fun w108 u108 => ⟨_, rfl, brC_tt (by decide +kernel) ?_⟩
  have U108 := up U105 u108
  refine c_same (kA.keep U108) (kB.keep U108) fun w111 u111 => ⟨_, rfl, ?_, up U49 (up U108 u111)⟩
  rw [show same wA wB = false by decide +kernel]; rfl
end Go.Proofs.YtpddhbdjcgkjcaaGreatDoor

/- TyLooks, TyMakes. -/
namespace Go.Proofs.YtpddhbdjcgkjcaaGreatDoor
open Go.SX Go.Ty

theorem looks_spec {w : World} {p q : Option Addr} {n c m d : Nat} {cs ds : List UInt8} (ha : BytesAt w p cs) (hn : n = cs.length) (hc : n ≤ c) (hm : c ≤ maxLen) (hb : BytesAt w q ds) (km : m = ds.length) (kc : m ≤ d) (kd : d ≤ maxLen) :
    callC Tryz.prog 3 #[.slice p n c, .slice q m d] w fun v w' => v = .bool true ∧ Upd No w w' := by
  refine l3_text _ _ _ _ _ _ _ _ (callC_of (typ_spec ha hn hc hm) fun v w1 ⟨x, e, hx, u1⟩ => ⟨x, e, ?_⟩)
  refine callC_of (typ_spec (bytes_keep hb u1) km kc kd) fun v w4 ⟨y, e, hy, u4⟩ => ⟨y, e, ?_⟩
  have hx := hx.keep u4
  refine c_check hx fun w7 u7 => ⟨_, rfl, callC_of (rCheck_spec (hx.keep u7)) fun v w10 ⟨e, u10⟩ => ⟨_, e, brC_tt (by simp) ?_⟩⟩
  have hx := hx.keep (up u7 u10)
  refine c_size hx fun w13 u13 => ⟨_, rfl, callC_of (rSize_spec (hx.keep u13)) fun v w16 ⟨e, u16⟩ => ⟨_, e, brC_tt (by simp) ?_⟩⟩
  have hx := hx.keep (up u13 u16)
  refine c_text hx fun w19 u19 => ⟨_, rfl, callC_of (rText_spec (hx.keep u19)) fun v w22 ⟨e, u22⟩ => ⟨_, e, brC_tt (by simp) ?_⟩⟩
  have hx := hx.keep (up u19 u22)
  have hy := hy.keep (up u7 (up u10 (up u13 (up u16 (up u19 u22)))))
  refine c_same hx hy fun w25 u25 => ⟨_, rfl, callC_of (rSame_spec (hx.keep u25) (hy.keep u25)) fun v w28 ⟨e, u28⟩ => ⟨_, e, brC_tt (by simp) ?_⟩⟩
  have U := up u1 (up u4 (up u7 (up u10 (up u13 (up u16 (up u19 (up u22 (up u25 u28))))))))
  have hx := hx.keep (up u25 u28)
  refine callC_of (typ_spec (bytes_keep ha U) hn hc hm) fun v w31 ⟨z, e, hz, u31⟩ => ⟨z, e, ?_⟩
  have hx := hx.keep u31
  refine c_same hx hz fun w34 u34 => ⟨_, rfl, callC_of (rSame_spec (hx.keep u34) (hx.keep u34)) fun v w37 ⟨e, u37⟩ => ⟨_, e, brC_tt (by simp) ?_⟩⟩
  exact callC_of (works_spec w37) fun v w40 ⟨e, u40⟩ => ⟨_, e, rfl, up U (up u31 (up u34 (up u37 u40)))⟩

theorem same_self {t : T} (h : size t ≤ 60) : same t t = true := by
  rw [same_decide]
  simp [h]
theorem fits_small (t : T) : size (fits t).1 ≤ 60 := by
  unfold fits
  split
  · simp [size]
  · dsimp only; omega
theorem rec_small (ns : List ByteArray) (l : List T) : size (recF ns l).1 ≤ 60 := by
  unfold recF
  split
  · exact fits_small _
  · simp [size]
theorem fun_small (l : List T) (r : T) : size (funF l r).1 ≤ 60 := by
  unfold funF
  split
  · exact fits_small _
  · simp [size]
theorem union_small (l : List T) : size (unionF l).1 ≤ 60 := by
  by_cases hne : l = []
  · subst hne; simp [unionF, size]
  cases hok : allOk l with
  | false => unfold unionF; rw [hok]; simp [size]
  | true =>
    rw [unionF_eq hne hok]
    split
    · simp [size, sizes]
    · have hsub : ∀ u ∈ outT l, size u ≤ 60 := fun u hu => (flat_ok hok u ((outT_spec l).2.1 u hu)).2
      generalize outT l = M at hsub
      match M, hsub with
      | [t], h => exact h t (by simp)
      | [], _ => exact fits_small _
      | _ :: _ :: _, _ => exact fits_small _
theorem list_tells (cs : List UInt8) (h : allOk (listF cs) = true) : Tells (listF cs) :=
  tells_good fun a ha => (goods_of (dm_list cs) (allOk_iff.1 h) a ha).1

theorem strs_cut0 {w : World} {p : Option Addr} {c m : Nat} {ns : List ByteArray} (h : StrsAt w p ns) : StrsAt w (subP p c 0 1) (ns.take m) := fun i hi => by
  have hi' : i < ns.length := by rw [List.length_take] at hi; omega
  obtain ⟨a, rfl, hc⟩ := h i hi'
  have e0 : Addr.add a (0 * 1) = a := by unfold Addr.add; split <;> first | omega | rfl | simp_all
  refine ⟨a, ?_, by rw [hc]; simp⟩
  unfold subP
  split
  · rfl
  · rw [Option.map_some, e0]
theorem makes_spec {w : World} {p q : Option Addr} {n c m d : Nat} {cs : List UInt8} {ns : List ByteArray} (ha : BytesAt w p cs) (hn : n = cs.length) (hc : n ≤ c) (hm : c ≤ maxLen) (hN : StrsAt w q ns) (em : m = ns.length) (hmd : m ≤ d) (hdm : d ≤ maxLen) :
    callC Tryz.prog 4 #[.slice p n c, .slice q m d] w fun v w' => v = .bool true ∧ Upd No w w' := by
  refine l4_text _ _ _ _ _ _ _ _ (callC_of (list_spec ha hn hc hm) fun v w1 ⟨p2, k3, k4, e, hl, u1, h5⟩ => ⟨p2, k3, k4, e, ?_⟩)
  have hnil := list_tells cs
  generalize hL : listF cs = l at hl h5 hnil
  obtain ⟨en, _⟩ := hl.get
  subst en
  have ek : (if 20 < (m : Int) then (20 : Int) else (m : Int)) = ((min m 20 : Nat) : Int) := by split <;> omega
  rw [ek]
  simp only [Int.toNat_natCast]
  refine ⟨by omega, by omega, by omega, ?_⟩
  have hN1 := strs_cut0 (c := d) (m := min m 20) (strs_keep hN u1)
  have hnl : min m 20 - 0 = (ns.take (min m 20)).length := by rw [List.length_take]; omega
  generalize hns : ns.take (min m 20) = nl at hN1 hnl
  have z1 := u1.size
  refine c_rec (n0 := w.heap.size) hN1 hnl hl (by omega) z1 fun p7 w6 h7 u6 => ⟨_, _, rfl, ?_⟩
  refine callC_of (rRec_spec (strs_keep hN1 u6) hnl (by omega) (hl.keep u6)) fun v w10 ⟨p11, e, h11, u10⟩ => ⟨_, _, e, ?_⟩
  refine callC_of (same_spec (h7.keep u10) h11) fun v w14 ⟨e, u14⟩ => ⟨_, e, brC_ff (by rw [same_self (rec_small _ _)]; simp) ?_⟩
  have hl := hl.keep (up u6 (up u10 u14))
  have z14 := (up u6 (up u10 u14)).size
  refine c_union (n0 := w.heap.size) hl (by omega) hnil (by omega) fun p18 w17 h18 u17 => ⟨_, _, rfl, ?_⟩
  refine callC_of (rUnion_spec (hl.keep u17) (by omega)) fun v w21 ⟨p22, e, h22, u21⟩ => ⟨_, _, e, ?_⟩
  refine callC_of (same_spec (h18.keep u21) h22) fun v w25 ⟨e, u25⟩ => ⟨_, e, brC_ff (by rw [same_self (union_small _)]; simp) ?_⟩
  have hl := hl.keep (up u17 (up u21 u25))
  have z25 := (up u17 (up u21 u25)).size
  have U25 := up u1 (up (up u6 (up u10 u14)) (up u17 (up u21 u25)))
  refine ⟨fun p28 w29 => Upd No w25 w29 ∧ ∃ r, TyAt ids (From w.heap.size) w25 (.pointer p28) r, ?_, brC_intro (fun hpos => ?_) fun _ => ⟨Upd.refl _ _, .nil, rfl⟩⟩
  rotate_left
  · have hpos : 0 < l.length := by have := of_decide_eq_true hpos; omega
    refine ⟨by omega, by omega, ?_⟩
    have := argC (i := 0) (K := fun a q => TyAt ids (From w.heap.size) w25 (.pointer q) l[0]) hl hpos fun a q _ h => h
    obtain ⟨_, _, _, hg⟩ := hl.get
    obtain ⟨g, o, v, rfl, hv, ht⟩ := hg 0 l[0] (List.getElem?_eq_getElem hpos)
    obtain ⟨q, e, _⟩ := ptr_shape ht
    subst e
    exact ptrC_some ⟨q, by simpa using hv, Upd.refl _ _, _, ht⟩
  rintro p28 w29 ⟨u29, r, hr⟩ _
  have hl := hl.keep u29
  have hr := hr.keep u29
  have z29 := u29.size
  refine c_fun (n0 := w.heap.size) hl (by omega) hr (by omega) fun p33 w32 h33 u32 => ⟨_, _, rfl, ?_⟩
  refine callC_of (rFun_spec (hl.keep u32) (by omega) (hr.keep u32)) fun v w36 ⟨p37, e, h37, u36⟩ => ⟨_, _, e, ?_⟩
  refine callC_of (same_spec (h33.keep u36) h37) fun v w40 ⟨e, u40⟩ => ⟨_, e, brC_tt (by rw [same_self (fun_small _ _)]; simp) ?_⟩
  exact callC_of (works_spec w40) fun v w42 ⟨e, u42⟩ => ⟨_, e, rfl, up U25 (up u29 (up u32 (up u36 (up u40 u42))))⟩
end Go.Proofs.YtpddhbdjcgkjcaaGreatDoor

/- TyTexts. -/
namespace Go.Proofs.YtpddhbdjcgkjcaaGreatDoor
open Go.SX Go.Ty

theorem text_same {a b : T} (ha : good a ∧ check a = 0) (hb : good b ∧ check b = 0) : ((bs (text a)).toList == (bs (text b)).toList) = same a b := by
  obtain ⟨m1, z1⟩ := check_zero ha.2
  obtain ⟨m2, z2⟩ := check_zero hb.2
  rw [beq_bytes, same_decide]
  unfold text
  rw [if_pos ha.2, if_pos hb.2]
  simp only [z1, z2, decide_true, Bool.true_and]
  refine decide_eq_decide.2 ⟨fun e => ?_, fun e => by rw [e]⟩
  have := congrArg txt e
  rw [txt_bs, txt_bs] at this
  exact write_inj ha.1 hb.1 this
theorem fits_nil {t : T} (h : (fits t).2 ≠ 0) : (fits t).1 = .nil := by
  unfold fits at h ⊢
  split
  · rfl
  · rename_i hc
    rw [if_neg hc] at h
    exact absurd rfl h
theorem union_nil {l : List T} (h : (unionF l).2 ≠ 0) : (unionF l).1 = .nil := by
  by_cases hne : l = []
  · subst hne; rfl
  cases hok : allOk l with
  | false => unfold unionF; rw [hok]; simp
  | true =>
    rw [unionF_eq hne hok] at h ⊢
    split
    · rename_i hc
      rw [if_pos hc] at h
      exact absurd rfl h
    · rename_i hc
      rw [if_neg hc] at h
      generalize outT l = M at h ⊢
      match M, h with
      | [t], h => exact absurd rfl h
      | [], h => exact fits_nil h
      | _ :: _ :: _, h => exact fits_nil h

/-- a type in a row, as it has lain since a world before. -/
theorem argH {F : Nat → Prop} {w0 w : World} {p : Option Addr} {n c : Nat} {l : List T} (h : TyRow ids F w0 (.slice p n c) l) (u : Upd No w0 w) {i : Nat} (hi : i < l.length) {K : Addr → Option Addr → Prop}
    (hk : ∀ a q, (∀ w', Upd No w0 w' → w'.cell? (a.add (Int.toNat (i : Int) * 1)) = some (.pointer q)) → TyAt ids F w (.pointer q) l[i] → K a q) :
    ptrC p fun a => ∃ q, w.cell? (a.add (Int.toNat (i : Int) * 1)) = some (.pointer q) ∧ K a q := by
  obtain ⟨_, _, _, hg⟩ := h.get
  obtain ⟨g, o, v, rfl, hv, ht⟩ := hg i l[i] (List.getElem?_eq_getElem hi)
  obtain ⟨q, e, _⟩ := ptr_shape ht
  subst e
  have hc : ∀ w', Upd No w0 w' → w'.cell? (Addr.add ⟨g, o, none⟩ (Int.toNat (i : Int) * 1)) = some (.pointer q) := fun w' u' => by
    refine cell_keep ?_ u'
    rw [add_mk, Int.toNat_natCast, Nat.mul_one]; exact hv
  exact ptrC_some ⟨q, hc w u, hk _ _ hc (ht.keep u)⟩
set_option maxRecDepth 100000 in
set_option maxHeartbeats 1000000 in
theorem texts_spec {w : World} {p : Option Addr} {n c : Nat} {cs : List UInt8} (ha : BytesAt w p cs) (hn : n = cs.length) (hc : n ≤ c) (hm : c ≤ maxLen) :
    callC Tryz.prog 5 #[.slice p n c] w fun v w' => v = .bool true ∧ Upd No w w' := by
  refine l5_text _ _ _ _ _ (callC_of (works_spec w) fun v w1 ⟨e, u1⟩ => ⟨_, e, brC_ff rfl ?_⟩)
  refine callC_of (list_spec (bytes_keep ha u1) hn hc hm) fun v w4 ⟨p5, k6, k7, e, hl, u4, h5⟩ => ⟨p5, k6, k7, e, ?_⟩
  have hnil := list_tells cs
  have hdm := dm_list cs
  generalize hL : listF cs = l at hl h5 hnil hdm
  obtain ⟨en, _⟩ := hl.get
  subst en
  have hgood : ∀ a ∈ l, check a = 0 → good a ∧ check a = 0 := fun a ha h => ⟨⟨(check_iff.1 h).1, hdm a ha (check_iff.1 h).1⟩, h⟩
  have U4 := up u1 u4
  have ez : (ByteArray.mk #[]) = bs [] := rfl
  refine ⟨fun m w' => ∃ i : Nat, m = i ∧ i ≤ l.length ∧ Upd No w4 w', fun m _ => (l.length - m).toNat, ⟨0, rfl, Nat.zero_le _, Upd.refl _ _⟩, ?_⟩
  rintro m w11 ⟨i, rfl, hi, u11⟩ _
  refine brC_intro (fun hlt => ?_) fun hge => ?_
  · have hlt : i < l.length := by have := of_decide_eq_true hlt; omega
    refine ⟨fun w' => Upd No w4 w', fun w14 u14 _ => ?_, by omega, by omega, argC (hl.keep u11) hlt fun a q hq hx => c_check hx fun w19 u19 => ⟨_, rfl, brC_intro (fun hne => ⟨by omega, by omega, ?_⟩) fun hz => ?_⟩⟩
    · rw [wrap_succ (by omega)]
      exact ⟨⟨i + 1, rfl, hlt, u14⟩, by dsimp only; omega⟩
    · have hne : check l[i] ≠ 0 := by simpa using hne
      refine argC (hl.keep (up u11 u19)) hlt fun a q hq hx => c_text hx fun w24 u24 => ⟨_, rfl, brC_ff ?_ (up u11 (up u19 u24))⟩
      have : text l[i] = [] := by unfold text; rw [if_neg hne]
      rw [this, ez]
      simp
    have hz : check l[i] = 0 := by simpa using hz
    have U19 := up u11 u19
    refine ⟨fun m w' => ∃ k : Nat, m = k ∧ k ≤ l.length ∧ Upd No w4 w', fun m _ => (l.length - m).toNat, ⟨0, rfl, Nat.zero_le _, U19⟩, ?_⟩
    rintro m w29 ⟨k, rfl, hk, u29⟩ _
    refine brC_intro (fun hklt => ?_) fun _ => u29
    have hklt : k < l.length := by have := of_decide_eq_true hklt; omega
    refine ⟨fun w' => Upd No w4 w', fun w32 u32 _ => ?_, fun b w' => b = false ∧ Upd No w4 w', ?_, drawC_mk fun w38 u38 _ => ⟨fun w' => Upd No w38 w', by omega, by omega, ?_⟩⟩
    · rw [wrap_succ (by omega)]
      exact ⟨⟨k + 1, rfl, hklt, u32⟩, by dsimp only; omega⟩
    · rintro b w36 ⟨rfl, u36⟩ _
      exact brC_ff rfl u36
    have U38 := up u29 u38
    refine argC (hl.keep U38) hklt fun a40 p41 c40 h41 => ⟨fun w' u' => lds_typ (cell_keep c40 u'), c_check h41 fun w44 u44 => ⟨_, rfl, u44, brC_intro (fun hz2 => ?_) fun _ => ⟨⟨⟨⟨rfl, up U38 u44⟩, trivial⟩, trivial⟩, trivial⟩⟩, trivial⟩
    have hz2 : check l[k] = 0 := by simpa using hz2
    have H38 := hl.keep U38
    refine ⟨by omega, by omega, argH H38 u44 hlt fun a46 p47 c46 h47 => ⟨fun w' u' => lds_typ (c46 w' u'), by omega, by omega, argH H38 u44 hklt fun a49 p50 c49 h50 => ⟨fun w' u' => lds_typ (c49 w' u'), by omega, by omega, argH H38 u44 hlt fun a52 p53 c52 h53 => ⟨fun w' u' => lds_typ (c52 w' u'), by omega, by omega, argH H38 u44 hklt fun a55 p56 c55 h56 => ⟨fun w' u' => lds_typ (c55 w' u'), ?_, trivial⟩⟩⟩⟩⟩
    refine c_text h47 fun w59 u59 => ⟨_, rfl, up u44 u59, c_text (h50.keep u59) fun w62 u62 => ⟨_, rfl, up u44 (up u59 u62), c_same (h53.keep (up u59 u62)) (h56.keep (up u59 u62)) fun w65 u65 => ⟨_, rfl, up u44 (up u59 (up u62 u65)), ?_, up U38 (up u44 (up u59 (up u62 u65)))⟩, trivial⟩, trivial⟩
    rw [text_same (hgood _ (List.getElem_mem hlt) hz) (hgood _ (List.getElem_mem hklt) hz2)]
    simp
  have H11 := hl.keep u11
  have z11 := u11.size
  refine c_union (n0 := w1.heap.size) H11 (by omega) hnil (by have := u4.size; omega) fun p69 w68 h69 u68 => ⟨_, _, rfl, brC_intro (fun hne => ?_) fun hz => ?_⟩
  · have hne : (unionF l).2 ≠ 0 := by simpa using hne
    rw [union_nil hne] at h69
    refine ⟨?_, up U4 (up u11 u68)⟩
    rw [ty_isNone h69]
    rfl
  have hz : (unionF l).2 = 0 := by simpa using hz
  refine c_fun (n0 := w1.heap.size) (H11.keep u68) (by omega) h69 (by have := u4.size; have := u68.size; omega) fun p73 w72 h73 u72 => ⟨_, _, rfl, ?_⟩
  have U72 := up U4 (up u11 (up u68 u72))
  refine c_check (h69.keep u72) fun w76 u76 => ⟨_, rfl, brC_tt ?_ (brC_intro (fun _ => ⟨rfl, up U72 u76⟩) fun hf => ?_)⟩
  · rw [(unionF_ok hz).1]; rfl
  have hf : (funF l (unionF l).1).2 = 0 := by simpa using hf
  have hcf : check (funF l (unionF l).1).1 = 0 := (funF_ok hf).1
  refine c_check (h73.keep u76) fun w79 u79 => ⟨_, rfl, brC_tt (by rw [hcf]; rfl) ?_⟩
  refine c_size (h73.keep (up u76 u79)) fun w81 u81 => ⟨_, rfl, ?_, up U72 (up u76 (up u79 u81))⟩
  have := (check_zero hcf).2
  rw [decide_eq_true (by omega)]
end Go.Proofs.YtpddhbdjcgkjcaaGreatDoor

/- The laws' arguments: bytes, texts. -/
namespace Go.Proofs.YtpddhbdjcgkjcaaGreatDoor
open Go.ChangeShapes Go.WideShapes Go.ChangeAt Go.RowKit Go.SX

theorem own_prog : ownKnob Tryz.prog.godebug = none := by kernel_rfl
theorem laid : laidOutB Tryz.prog = true := by kernel_rfl
theorem undBs : Tryz.prog.underlying 22 = some (.slice 5) := by kernel_rfl
theorem undB : Tryz.prog.underlying 5 = some (.int .u8) := by kernel_rfl
theorem undSs : Tryz.prog.underlying 32 = some (.slice 9) := by kernel_rfl
theorem undBool : Tryz.prog.underlying 4 = some .bool := by kernel_rfl

section
variable {H : Type} {enc : TypeId × Value → H} {W : World}
theorem bytes_of {x : DataW H × List MemPlace} {fuel : Nat} {a0 : Option Addr} {l c : Nat} (h : DataW.trod enc Tryz.prog W 0 (fun _ => true) true fuel 22 [.slice a0 l c] = some x) :
    ∃ cs : List UInt8, l = cs.length ∧ l ≤ c ∧ c ≤ maxLen ∧ BytesAt W a0 cs := by
  rcases Go.Deep.open_slice1 undBs (by kernel_rfl) h with ⟨e, _⟩ | ⟨a, len, cap, m, n, V, D, Pl, e, _, hl, hcm, hm, _, hx⟩
  · cases e; exact ⟨[], rfl, Nat.le_refl _, Nat.zero_le _, fun i hi => by cases hi⟩
  · cases e
    have key : ∀ i, ∃ b : UInt8, i < l → W.cell? (a.add i) = some (.int .u8 (b.toNat : Int)) := by
      intro i
      by_cases hi : i < l
      · obtain ⟨h1, h2⟩ := hx i (by rw [hm]; simp; omega)
        obtain ⟨k, q, _, wt⟩ := DataW.trod_int undB h2
        have hb := wf_bounds wt
        have hb1 : (0 : Int) ≤ k := hb.1
        have hb2 : k ≤ (255 : Int) := hb.2
        rw [List.head_eq_of_cons_eq q] at h1
        refine ⟨UInt8.ofNat k.toNat, fun _ => ?_⟩
        rw [h1]
        have : ((UInt8.ofNat k.toNat).toNat : Int) = k := by
          rw [UInt8.toNat_ofNat']
          omega
        rw [this]
      · exact ⟨0, fun h => (hi h).elim⟩
    refine ⟨(List.range l).map fun i => (key i).choose, by simp, hl, hcm, fun i hi => ?_⟩
    have hi' : i < l := by simpa using hi
    refine ⟨a, rfl, ?_⟩
    rw [Nat.mul_one, (key i).choose_spec hi']
    simp
theorem strs_of {x : DataW H × List MemPlace} {fuel : Nat} {a0 : Option Addr} {l c : Nat} (h : DataW.trod enc Tryz.prog W 0 (fun _ => true) true fuel 32 [.slice a0 l c] = some x) :
    ∃ ps : List ByteArray, l = ps.length ∧ l ≤ c ∧ c ≤ maxLen ∧ StrsAt W a0 ps := by
  rcases Go.Deep.open_slice1 undSs (by kernel_rfl) h with ⟨e, _⟩ | ⟨a, len, cap, m, n, V, D, Pl, e, _, hl, hcm, hm, _, hx⟩
  · cases e; exact ⟨[], rfl, Nat.le_refl _, Nat.zero_le _, fun i hi => by cases hi⟩
  · cases e
    have key : ∀ i, ∃ s : ByteArray, i < l → W.cell? (a.add i) = some (.string s) := by
      intro i
      by_cases hi : i < l
      · obtain ⟨h1, h2⟩ := hx i (by rw [hm]; simp; omega)
        obtain ⟨s, q, _, hs⟩ := DataW.trod_string undS h2
        rw [List.head_eq_of_cons_eq q] at h1
        exact ⟨s, fun _ => h1⟩
      · exact ⟨ByteArray.empty, fun h => (hi h).elim⟩
    refine ⟨(List.range l).map fun i => (key i).choose, by simp, hl, hcm, fun i hi => ?_⟩
    have hi' : i < l := by simpa using hi
    refine ⟨a, rfl, ?_⟩
    rw [Nat.mul_one, (key i).choose_spec hi']
    simp
end
end Go.Proofs.YtpddhbdjcgkjcaaGreatDoor
