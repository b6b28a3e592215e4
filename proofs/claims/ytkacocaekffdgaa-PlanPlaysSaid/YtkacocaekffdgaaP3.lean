/- plan.New; small; works. -/
import Derived.Test.YtkacocaekffdgaaP2
namespace Go.Proofs.Ytkacocaekffdgaa
open Go.SX

/-- who waits at first. -/
def firstW (O first : List ByteArray) : Nat → Bool := fun j => match O[j]? with | some x => decide (x ∈ first) | none => false

theorem madeStates (n i : Nat) (hi : i < 2 * n) : (madeCells (Value.agg #[.bool false, .bool false]).cells (n * 2))[i]? = some (.bool false) := by
  unfold madeCells
  have h2 : i < n * 2 := by omega
  simp only [Array.getElem?_map, Array.getElem?_range, h2, if_true, Option.map_some]
  show some ((#[Value.bool false, .bool false] : Array Value)[i % 2]!) = _
  have : i % 2 = 0 ∨ i % 2 = 1 := by omega
  rcases this with h | h <;> rw [h] <;> rfl

set_option maxRecDepth 20000 in
theorem pnew_spec {w : World} {g : Nat} {ps : List ByteArray} {adj : ByteArray → List ByteArray} {m : Nat} {f : Value → Value} (G : GraphAt w g ps adj m f) (hn : ps.length ≤ 900000) (hs : ∀ p ∈ ps, p.size ≤ maxLen)
    {x1 : Option Addr} {first : List ByteArray} (hF : StrsAt w x1 first) (hfl : first.length ≤ 1000000) (c1 : Nat) :
    callC Try.prog 26 #[.pointer (some ⟨g, 0, none⟩), .slice x1 first.length c1] w fun r w' => ∃ W0 mb k bs vO nh, r = .pointer (some ⟨k, 0, none⟩) ∧ PlanAt W0 w' g mb k bs vO (orderOf ps adj) (firstW (orderOf ps adj) first) (fun _ => false) nh ∧ Upd No w W0 ∧ Upd No w w' := by
  refine pnew _ _ _ _ _ _ (brC_ff rfl (callC_of (order_spec G (by omega) hs) fun v w1 ⟨hO, u1, _⟩ => ?_))
  obtain ⟨p2, k3, k4, rfl, _⟩ := hO.shape
  have hk3 := rowAt_len hO
  have hnd : ps.Nodup := strs_nodup G.map.nodup
  have hperm := order_perm adj hnd
  generalize orderOf ps adj = O at hO hk3 hperm
  subst hk3
  have hOl : O.length ≤ 900000 := by rw [hperm.length_eq]; exact hn
  have hON : O.Nodup := hperm.nodup_iff.2 hnd
  refine ⟨_, _, _, rfl, newM_mk (d := .string) (f := atV O) fun w6 h6 u6 s6 => newC_mk fun w8 h8 u8 s8 => ⟨_, _, _, h8.cell rfl, ?_⟩⟩
  obtain ⟨io2, hj1, hj2, hj3, hj4⟩ := info_get (P := Try.prog) (e := 89) (s := 2) (b := 2) (z := .agg #[.bool false, .bool false]) (by kernel_rfl)
  have hmk := run_makeSlice (P := Try.prog) w8 79 89 io2 _ Try.underlying79 hj1 hj2 .i64 .i64 (O.length : Int) (O.length : Int) (by omega) (Int.le_refl _) (by rw [hj3]; omega) (by rw [hj4]; omega) (by omega)
  rw [Int.toNat_natCast, hj3] at hmk
  refine ⟨_, _, hmk, _, _, _, rfl, ?_⟩
  have B13 : Blk (w8.alloc (.cells (madeCells (Value.agg #[.bool false, .bool false]).cells (O.length * 2)) 89)) w8.heap.size _ 89 := blk_alloc w8 _ 89
  have u13 : Upd No w8 (w8.alloc (.cells (madeCells (Value.agg #[.bool false, .bool false]).cells (O.length * 2)) 89)) := upd_alloc w8 _
  have s13 : (w8.alloc (.cells (madeCells (Value.agg #[.bool false, .bool false]).cells (O.length * 2)) 89)).heap.size = w8.heap.size + 1 := by simp
  clear hmk
  generalize w8.alloc (.cells (madeCells (Value.agg #[.bool false, .bool false]).cells (O.length * 2)) 89) = w13 at B13 u13 s13
  generalize hcs : madeCells (Value.agg #[.bool false, .bool false]).cells (O.length * 2) = cs at B13
  have hcsz : cs.size = 2 * O.length := by rw [← hcs, size_madeCells]; omega
  have hcsf : ∀ i, i < 2 * O.length → cs[i]? = some (.bool false) := fun i hi => by rw [← hcs]; exact madeStates O.length i hi
  clear hcs
  generalize hmb : w1.heap.size = mb at h6 s6 h8
  generalize hkk : w6.heap.size = k at h8 s8
  generalize hbs : w8.heap.size = bs at B13 s13
  have hlt : mb + 1 = k ∧ k + 1 = bs := by omega
  refine stC_mk (h8.upd u13 id) (by simp) fun w17 h17 u17 s17 => ?_
  have u17 : Upd (· = k) w13 w17 := u17
  have hB17 : Blk w17 k [.slice none 0 0, .slice (some ⟨bs, 0, none⟩) O.length O.length, .pointer (some ⟨g, 0, none⟩), .slice p2 O.length k4, .map (some mb)].toArray 83 := h17
  have u117 : Upd No w1 w17 := ((u6.trans u8 fun _ _ => id).trans u13 fun _ _ => id).trans u17 fun b hb e => by omega
  have h617 := ((h6.upd u8 id).upd u13 id).upd u17 (by omega)
  have B17 := B13.upd u17 (by omega)
  refine ⟨_, _, _, hB17.cell rfl, ?_⟩
  have hSO := StrsAt.of_row hO
  -- the map
  refine ⟨fun n w' => ∃ i : Nat, n = i ∧ i ≤ O.length ∧ MapF .string w' mb (strs (O.take i)) (atV O) ∧ Upd (· = mb) w17 w' ∧ Upd No w1 w', fun n _ => (O.length - n).toNat, ⟨0, rfl, Nat.zero_le _, h617, Upd.refl _ _, u117⟩, ?_⟩
  rintro n23 w24 ⟨i, rfl, hi, M24, u24, u124⟩ d
  refine brC_intro (fun hlt2 => ?_) fun hge => ?_
  · have hlt2 : i < O.length := by have := of_decide_eq_true hlt2; omega
    obtain ⟨a, rfl, ha⟩ := hSO.keep u124 i hlt2
    have hw : IntKind.wrap .i64 ((i : Int) + 1) = ((i + 1 : Nat) : Int) := Go.SX.wrap_small (by omega) (by omega)
    rw [hw]
    have htk : O.take (i + 1) = O.take i ++ [O[i]] := List.take_succ_eq_append_getElem hlt2
    have hnin : O[i] ∉ O.take i := fun h => by
      have : (O.take (i + 1)).Nodup := hON.sublist (List.take_sublist _ _)
      rw [htk, List.nodup_append] at this
      exact this.2.2 _ h _ (by simp) rfl
    have hnum : idxAt O O[i] 0 = (i : Int) := by rw [(num_spec (List.getElem_mem hlt2)).1, num_at hON hlt2]
    refine ⟨by omega, by omega, ptrC_some ⟨_, by rw [Int.toNat_natCast]; exact ha, _, (hB17.upd u24 (by omega)).cell rfl, ?_⟩⟩
    refine update_out (P := Try.prog) (t := 69) (kt := 9) (et := 3) (f' := atV O) Try.underlying69 Try.underlying9 (k := .string O[i]) trivial M24 (fun e => hnin (strs_mem.1 e)) _ (by show Value.int .i64 (idxAt O O[i] 0) = _; rw [hnum]) (fun _ _ _ => rfl) fun w30 M30 u30 s30 => ?_
    have e2 : strs (O.take i) ++ [Value.string O[i]] = strs (O.take (i + 1)) := by rw [htk, strs, strs, List.map_append]; rfl
    rw [e2] at M30
    exact ⟨⟨i + 1, rfl, hlt2, M30, u24.trans u30 fun _ _ x => x, u124.trans u30 fun b hb e => by omega⟩, by dsimp only; omega⟩
  have : i = O.length := by have := of_decide_eq_false hge; omega
  subst this
  rw [List.take_length] at M24
  have hB24 := hB17.upd u24 (by omega)
  have P24 : PlanAt w1 w24 g mb k bs (.slice p2 O.length k4) O (fun _ => false) (fun _ => false) 0 := by
    refine ⟨u124, by omega, by omega, by omega, hO, hON, hOl, ⟨_, fun _ => 0, cs, hB24, ⟨hB24.cell rfl, RowAt.nil _ _ _, fun h => (by cases h)⟩, fun t _ h => absurd h (by omega), fun s t h => absurd h (by omega), fun x => ⟨fun ⟨t, h, _⟩ => absurd h (by omega), fun h => (by cases h.2)⟩, fun b hb => (by cases hb), B17.upd u24 (by omega), hcsz, fun j hj => ⟨hcsf _ (by omega), hcsf _ (by omega)⟩⟩, M24⟩
  -- the first ones
  refine ⟨fun n w' => ∃ (i : Nat), n = i ∧ i ≤ first.length ∧ ∃ nh, PlanAt w1 w' g mb k bs (.slice p2 O.length k4) O (firstW O (first.take i)) (fun _ => false) nh, fun n _ => (first.length - n).toNat,
    ⟨0, rfl, Nat.zero_le _, 0, planAt_congr P24 (fun j hj => by unfold firstW; cases O[j]? <;> simp) fun _ _ => rfl⟩, ?_⟩
  rintro n33 w34 ⟨i, rfl, hi, nh, P34⟩ d
  refine brC_intro (fun hlt2 => ?_) fun hge => ?_
  · have hlt2 : i < first.length := by have := of_decide_eq_true hlt2; omega
    have u034 : Upd No w w34 := u1.trans P34.old fun _ _ => id
    obtain ⟨a, rfl, ha⟩ := hF.keep u034 i hlt2
    have hw : IntKind.wrap .i64 ((i : Int) + 1) = ((i + 1 : Nat) : Int) := Go.SX.wrap_small (by omega) (by omega)
    rw [hw]
    have htk : first.take (i + 1) = first.take i ++ [first[i]] := List.take_succ_eq_append_getElem hlt2
    refine ⟨by omega, by omega, ptrC_some ⟨_, by rw [Int.toNat_natCast]; exact ha, callC_of (wait_spec P34 first[i]) fun r w39 ⟨hr, ⟨nh', P39⟩, _⟩ => ⟨hr, ⟨i + 1, rfl, hlt2, nh', planAt_congr P39 (fun j hj => ?_) fun _ _ => rfl⟩, by dsimp only; omega⟩⟩⟩
    unfold firstW
    rw [htk, List.getElem?_eq_getElem hj]
    simp only [List.mem_append, List.mem_singleton, Option.some.injEq]
    by_cases c1 : O[j] ∈ first.take i
    · simp [c1]
    · by_cases c2 : O[j] = first[i]
      · simp [c2]
      · simp [c1, c2]
  · have : i = first.length := by have := of_decide_eq_false hge; omega
    subst this
    rw [List.take_length] at P34
    exact ⟨w1, mb, k, bs, _, nh, rfl, P34, u1, u1.trans P34.old fun _ _ => id⟩
theorem pnew_nil (w : World) (x1 : Option Addr) (l c : Nat) : callC Try.prog 26 #[.pointer none, .slice x1 l c] w fun r w' => r = .pointer none ∧ w = w' := pnew _ _ _ _ _ _ (brC_tt rfl ⟨rfl, rfl⟩)

theorem phas_spec {w : World} {p : Option Addr} {l : List ByteArray} (h : StrsAt w p l) (hl : l.length ≤ maxLen) (c : Nat) (s : ByteArray) :
    callC Try.prog 35 #[.slice p l.length c, .string s] w fun v w' => v = .bool (decide (s ∈ l)) ∧ w = w' := by
  simp only [maxLen] at hl
  refine phas _ _ _ _ _ _ ⟨fun m w' => ∃ i : Nat, m = i ∧ i ≤ l.length ∧ w = w' ∧ s ∉ l.take i, fun m _ => (l.length - m).toNat, ⟨0, rfl, Nat.zero_le _, rfl, by simp⟩, ?_⟩
  rintro m w3 ⟨i, rfl, hi, rfl, hno⟩ d
  refine brC_intro (fun hlt => ?_) fun hge => ?_
  · have hlt : i < l.length := by have := of_decide_eq_true hlt; omega
    obtain ⟨a, rfl, ha⟩ := h i hlt
    refine ⟨by omega, by omega, ptrC_some ⟨_, by rw [Int.toNat_natCast]; exact ha, ?_⟩⟩
    rw [beq_bytes]
    refine brC_intro (fun he => ?_) fun hne => ?_
    · have he : l[i] = s := by simpa using he
      have : s ∈ l := he ▸ List.getElem_mem hlt
      simp [this]
    · have hne : ¬ l[i] = s := by simpa using hne
      have hw : IntKind.wrap .i64 ((i : Int) + 1) = ((i + 1 : Nat) : Int) := Go.SX.wrap_small (by omega) (by omega)
      rw [hw]
      refine ⟨⟨i + 1, rfl, hlt, rfl, fun hx => ?_⟩, by dsimp only; omega⟩
      rw [List.take_succ_eq_append_getElem hlt, List.mem_append, List.mem_singleton] at hx
      rcases hx with hx | rfl
      · exact hno hx
      · exact hne rfl
  · have : i = l.length := by have := of_decide_eq_false hge; omega
    subst this
    rw [List.take_length] at hno
    simp [hno]

/-- the least that waits. -/
def least (n : Nat) (Wt : Nat → Bool) : Option Nat := (List.range n).find? Wt
theorem least_some {n i : Nat} {Wt : Nat → Bool} (hi : i < n) (h : Wt i = true) (hm : ∀ j, j < i → Wt j = false) : least n Wt = some i := by
  unfold least
  rw [List.find?_eq_some_iff_append]
  refine ⟨h, List.range i, (List.range n).drop (i + 1), ?_, fun a ha => by rw [hm a (by simpa using ha)]; rfl⟩
  have h1 : (List.range n)[i]'(by simpa using hi) = i := List.getElem_range _
  conv => lhs; rw [← List.take_append_drop i (List.range n)]
  congr 1
  · rw [List.take_range]; congr 1; omega
  · rw [List.drop_eq_getElem_cons (by simpa using hi), h1]
theorem least_none {n : Nat} {Wt : Nat → Bool} (h : ∀ j, j < n → Wt j = false) : least n Wt = none := by
  unfold least
  rw [List.find?_eq_none]
  intro x hx
  rw [h x (by simpa using hx)]
  simp

theorem next_is {W0 w : World} {g mb k bs : Nat} {vO : Value} {O : List ByteArray} {Wt Ps : Nat → Bool} {nh : Nat} (h : PlanAt W0 w g mb k bs vO O Wt Ps nh) {i : Nat} (hl : least O.length Wt = some i) {x : ByteArray} (hx : O[i]? = some x) :
    callC Try.prog 31 #[.pointer (some ⟨k, 0, none⟩)] w fun r w' => r = .tuple #[.string x, .bool true] ∧ (∃ nh', PlanAt W0 w' g mb k bs vO O (fun j => Wt j && !decide (j = i)) (fun j => Ps j || decide (j = i)) nh') ∧ PStep k bs w w' := by
  refine callC_of (next_spec h) fun r w' hr => ?_
  rcases hr with ⟨_, hn, _⟩ | ⟨j, hj, hr, hW, hm, P, st⟩
  · rw [least_none hn] at hl; cases hl
  · rw [least_some hj hW hm] at hl
    cases hl
    rw [List.getElem?_eq_getElem hj] at hx
    cases hx
    exact ⟨hr, P, st⟩
theorem next_no {W0 w : World} {g mb k bs : Nat} {vO : Value} {O : List ByteArray} {Wt Ps : Nat → Bool} {nh : Nat} (h : PlanAt W0 w g mb k bs vO O Wt Ps nh) (hl : least O.length Wt = none) :
    callC Try.prog 31 #[.pointer (some ⟨k, 0, none⟩)] w fun r w' => r = .tuple #[.string (ByteArray.mk #[]), .bool false] ∧ w = w' := by
  refine callC_of (next_spec h) fun r w' hr => ?_
  rcases hr with ⟨hr, hn, e⟩ | ⟨j, hj, hr, hW, hm, P, st⟩
  · exact ⟨hr, e⟩
  · rw [least_some hj hW hm] at hl; cases hl

def wPs : List ByteArray := [b1 97, b1 98, b1 99]
def wImps : List (List ByteArray) := [[], [b1 97], []]
theorem w_order : orderOf wPs (adjOf wPs wImps) = wPs := by
  rw [orderC_eq (n := 2) (by decide +kernel)]
  decide +kernel

set_option maxRecDepth 20000 in
theorem pworks_spec (w : World) : callC Try.prog 27 #[] w fun v w' => v = .bool true ∧ Upd No w w' := by
  refine pworks _ _ (newC_mk fun w1 h1 u1 s1 => newC_mk fun w3 h3 u3 s3 => newC_mk fun w5 h5 u5 s5 => ?_)
  have a3 : Upd No w3 w5 := u5
  have a1 : Upd No w1 w5 := u3.trans a3 fun _ _ => id
  have hP : StrsAt w5 (some ⟨w.heap.size, 0, none⟩) wPs := (strsAt_blk (l := wPs) h1).keep a1
  have hI : ImpsAt w5 (some ⟨w3.heap.size, 0, none⟩) wImps := impsAt_blk (imps := wImps) h5 fun i hi => by
    match i, hi with
    | 0, _ => exact ⟨_, _, rfl, strsAt_nil _ _, Nat.le_of_ble_eq_true rfl⟩
    | 1, _ => exact ⟨_, _, rfl, (strsAt_blk (l := [b1 97]) h3).keep a3, Nat.le_of_ble_eq_true rfl⟩
    | 2, _ => exact ⟨_, _, rfl, strsAt_nil _ _, Nat.le_of_ble_eq_true rfl⟩
  refine callC_of (new_spec (ps := wPs) (imps := wImps) hP hI (by decide) 3 3) fun v w7 ⟨u7, h⟩ => ?_
  rcases h with ⟨_, h⟩ | ⟨g, m, f, hv, _, _, G⟩
  · exact (h (by decide +kernel)).elim
  refine ⟨_, hv, newC_mk fun w10 h10 u10 s10 => callC_of (pnew_spec (G.keep u10) (by decide) (by decide +kernel) (strsAt_blk (l := [b1 97]) h10) (by decide) 1) fun v w12 ⟨W0, mb, k, bs, vO, nh, hv, P, u0, u12⟩ => ⟨_, hv, brC_ff rfl ?_⟩⟩
  have G0 := (G.keep u10).keep u0
  have u0' : Upd No w W0 := ((((u1.trans a1 fun _ _ => id).trans u7 fun _ _ => id).trans u10 fun _ _ => id).trans u0 fun _ _ => id)
  rw [w_order] at P
  have hperm : wPs.Perm wPs := List.Perm.refl _
  refine callC_of (next_is P (i := 0) (x := b1 97) (by decide +kernel) (by decide +kernel)) fun v w15 ⟨hv, ⟨nh1, P1⟩, _⟩ => ⟨_, _, hv, ?_⟩
  refine callC_of (done_spec P1 G0 hperm (by decide +kernel) (b1 97) true) fun v w19 ⟨hv, ⟨nh2, P2⟩, _⟩ => ⟨hv, ?_⟩
  refine callC_of (next_is P2 (i := 1) (x := b1 98) (by decide +kernel) (by decide +kernel)) fun v w21 ⟨hv, ⟨nh3, P3⟩, _⟩ => ⟨_, _, hv, ?_⟩
  refine callC_of (next_no P3 (by decide +kernel)) fun v w25 ⟨hv, e⟩ => ⟨_, _, hv, brC_tt (by decide +kernel) (brC_tt rfl (brC_tt (by decide +kernel) (brC_tt rfl (brC_tt rfl ?_))))⟩
  subst e
  refine callC_of (plen_spec P3) fun v w29 ⟨hv, e⟩ => ⟨_, hv, ?_, ?_⟩
  · have : cnt wPs.length (fun j => (((firstW wPs [b1 97] j && !decide (j = 0)) || (actB wPs (fun j => false || decide (j = 0)) (b1 97) true && impB wPs (adjOf wPs wImps) (b1 97) j && !(false || decide (j = 0)))) && !decide (j = 1))) = 0 := by decide +kernel
    rw [this]; rfl
  · subst e
    exact u0'.trans P3.old fun _ _ => id
end Go.Proofs.Ytkacocaekffdgaa
