/- Joined by program of: Yb1, Sh, Yc1, Yc2, Yc3, Yc4, Ydr, Yc5, Yc6, Yc7, Yc8, Yc9. -/
import Derived.Test.YtdbkclnlfibgdaaGreatDoorWa
import Derived.Test.YtdbkclnlfibgdaaGreatDoorVa
import Derived.DataElems
import Derived.Test.YtdbkclnlfibgdaaGreatDoorVq
import Derived.RangeFuncKeeps
import Derived.RangeFuncBound
import Derived.RangeFuncLeaves
import Derived.RangeFuncFrom
import Derived.Shelf.Abstract
import Derived.WalkKit
import Derived.OwnWalkIn
import Derived.TacticsInMore
import Derived.Test.YtdbkclnlfibgdaaGreatDoorVb
import Derived.LaidEqlPtr
import Derived.Lib.Builder
set_option maxRecDepth 100000
set_option maxHeartbeats 4000000
namespace Go.Proofs.YtdbkclnlfibgdaaGreatDoor
open Go.SX Go.Ty
abbrev ids : Ids := ⟨9, 29, 84⟩
theorem ptrC_some {a : Addr} {K : Addr -> Prop} (h : K a) : ptrC (some a) K := h
theorem ty_open {F : Nat -> Prop} {w : World} {x0 : Option Addr} {k : Int} {nm : ByteArray} {ns : List ByteArray} {ta : List T} {r : T} (h : TyAt ids F w (.pointer x0) (.mk k nm ns ta r)) :
    ∃ b nv p n c, ∃ rp : Option Addr, x0 = some ⟨b, 0, none⟩ /\ F b /\ Blk w b #[.int .i64 k, .string nm, nv, .slice p n c, .pointer rp] 84 /\ RowAt w ids.str 1 nv (ns.map Value.string) /\ TyRow ids F w (.slice p n c) ta /\ TyAt ids F w (.pointer rp) r := by
  unfold TyAt at h; obtain ⟨b, nv, av, rv, vs, e, hb, hB, hN, fN, hA, fA, hT, hR⟩ := h; cases e; obtain ⟨p, n, c, rfl, _⟩ := hA.shape
  have hp : ∃ rp : Option Addr, rv = .pointer rp := by
    cases r with
    | nil => exact ⟨none, hR⟩
    | mk =>
      unfold TyAt at hR; obtain ⟨b', _, _, _, _, e, _⟩ := hR; exact ⟨_, e⟩
  obtain ⟨rp, rfl⟩ := hp; exact ⟨b, nv, p, n, c, rp, rfl, hb, hB, hN, ⟨vs, hA, fA, hT⟩, hR⟩
open Go.SX Go.Ty
def lettI (x : Int) : Bool := (decide (97 <= x) && decide (x <= 122)) || (decide (65 <= x) && decide (x <= 90)) || x == 95
theorem lettI_eq (c : UInt8) : lettI (c.toNat : Int) = letter c := by
  unfold lettI letter; rw [Bool.eq_iff_iff]; simp only [Bool.or_eq_true, Bool.and_eq_true, decide_eq_true_eq, beq_iff_eq]; omega
open Go.SX Go.Ty
theorem size_txt (s : ByteArray) : s.size = (txt s).length := by
  unfold txt; rw [Array.length_toList]; rfl
theorem byteAt_txt {s : ByteArray} {i : Nat} (h : i < s.size) : byteAt s i = (((txt s)[i]'(by rw [<- size_txt]; exact h)).toNat : Int) := by
  unfold byteAt; rw [getElem?_pos s i h]; simp [txt, ByteArray.getElem_eq_getElem_data]
open Go.SX Go.Ty
theorem fieldL_eq (l : List UInt8) (h : 0 < l.length) : fieldL l = (decide (l.length <= 24) && letter l[0] && l.all fun c => letter c || digit c) := by
  cases l with
  | nil => simp at h
  | cons c l => rfl
open Go.SX Go.Ty
theorem bytesLess_lt : ∀ (x y : List UInt8), Op.bytesLess x y = decide (x < y)
  | _, [] => by simp [Op.bytesLess]
  | [], _ :: _ => by simp [Op.bytesLess]
  | a :: x, b :: y => by
    rw [Op.bytesLess, bytesLess_lt x y, Bool.eq_iff_iff]; simp [List.cons_lt_cons_iff]
def lessB (x y : ByteArray) : Bool := Op.bytesLess x.data.toList y.data.toList
theorem lessB_iff {x y : ByteArray} : lessB x y = true ↔ x.data.toList < y.data.toList := by
  unfold lessB; rw [bytesLess_lt, decide_eq_true_eq]
theorem byteAt_eq {s : ByteArray} {i : Nat} (h : i < s.data.toList.length) : byteAt s i = ((s.data.toList[i]).toNat : Int) := by
  have h' : i < s.size := by simpa using h
  unfold byteAt; rw [getElem?_pos s i h']; simp [ByteArray.getElem_eq_getElem_data]
open Go.SX Go.Ty
theorem size_bs (l : List UInt8) : (bs l).size = l.length := by
  rw [size_txt, txt_bs]
theorem bs_append (a b : List UInt8) : bs (a ++ b) = bs a ++ bs b := by
  apply txt_inj; rw [txt_bs]; simp [txt, bs]
theorem join_take_succ (sep : List UInt8) (l : List (List UInt8)) {i : Nat} (h : i < l.length) : join sep (l.take (i + 1)) = (if 0 < i then join sep (l.take i) ++ sep else join sep (l.take i)) ++ l[i] := by
  rw [List.take_succ_eq_append_getElem h, join_snoc]
  by_cases hi : 0 < i
  . rw [if_pos hi, if_neg (fun e => by have := congrArg List.length e; rw [List.length_take, List.length_nil] at this; omega)]
  . have : i = 0 := by omega
    subst this; simp [join]
theorem join_take_le (sep : List UInt8) (l : List (List UInt8)) (i : Nat) : (join sep (l.take i)).length <= (join sep l).length := by
  have key : ∀ n, (join sep (l.take i)).length <= (join sep (l.take (i + n))).length := by
    intro n
    induction n with
    | zero => exact Nat.le_refl _
    | succ n ih =>
      refine Nat.le_trans ih ?_
      by_cases h : i + n < l.length
      . rw [<- Nat.add_assoc, join_take_succ sep l h]; split <;> simp only [List.length_append] <;> omega
      . rw [List.take_of_length_le (by omega), List.take_of_length_le (by omega)]; exact Nat.le_refl _
  have := key l.length
  rwa [List.take_of_length_le (i := i + l.length) (by omega)] at this
open Go.SX Go.Ty
structure TyC (F : Nat -> Prop) (w : World) (b : Nat) (k : Int) (nm : ByteArray) (ns : List ByteArray) (ta : List T) (r : T) (np : Option Addr) (nc : Nat) (p : Option Addr) (c : Nat) (rp : Option Addr) : Prop where
  inF : F b
  blk : Blk w b #[.int .i64 k, .string nm, .slice np ns.length nc, .slice p ta.length c, .pointer rp] 84
  names : RowAt w ids.str 1 (.slice np ns.length nc) (ns.map Value.string)
  args : TyRow ids F w (.slice p ta.length c) ta
  ret : TyAt ids F w (.pointer rp) r
  len : ns.length <= maxLen /\ ta.length <= maxLen
theorem row_len {w : World} {e : TypeId} {p : Option Addr} {n c : Nat} {xs : List Value} (h : RowAt w e 1 (.slice p n c) xs) : n = xs.length /\ n <= maxLen := by
  obtain ⟨q, m, d, e, h1, h2, h3⟩ := h.shape; cases e; omega
theorem ty_opens {F : Nat -> Prop} {w : World} {x0 : Option Addr} {k : Int} {nm : ByteArray} {ns : List ByteArray} {ta : List T} {r : T} (h : TyAt ids F w (.pointer x0) (.mk k nm ns ta r)) :
    ∃ b np nc p c rp, x0 = some ⟨b, 0, none⟩ /\ TyC F w b k nm ns ta r np nc p c rp := by
  obtain ⟨b, nv, p, n, c, rp, rfl, hb, hB, hN, hA, hR⟩ := ty_open h; obtain ⟨np, m, nc, rfl, _⟩ := hN.shape; obtain ⟨e1, l1⟩ := row_len hN; rw [List.length_map] at e1; obtain ⟨e2, l3, l2, _⟩ := hA.get; subst e1; subst e2; exact ⟨b, np, nc, p, c, rp, rfl, hb, hB, hN, hA, hR, l1, Nat.le_trans l3 l2⟩
theorem ptr_shape {F : Nat -> Prop} {w : World} {v : Value} {t : T} (h : TyAt ids F w v t) : ∃ p : Option Addr, v = .pointer p /\ p.isNone = t.isNil := by
  cases t with
  | nil => exact ⟨none, h, rfl⟩
  | mk k nm ns ta r =>
    unfold TyAt at h; obtain ⟨b, nv, av, rv, vs, rfl, _⟩ := h; exact ⟨_, rfl, rfl⟩
theorem ty_isNone {F : Nat -> Prop} {w : World} {p : Option Addr} {t : T} (h : TyAt ids F w (.pointer p) t) : p.isNone = t.isNil := by
  obtain ⟨q, e, h⟩ := ptr_shape h; cases e; exact h
section
variable {F : Nat -> Prop} {w : World} {b : Nat} {k : Int} {nm : ByteArray} {ns : List ByteArray} {ta : List T} {r : T} {np : Option Addr} {nc : Nat} {p : Option Addr} {c : Nat} {rp : Option Addr}
theorem TyC.keep {w' : World} (h : TyC F w b k nm ns ta r np nc p c rp) (u : Upd No w w') : TyC F w' b k nm ns ta r np nc p c rp :=
  ⟨h.inF, h.blk.upd u id, h.names.upd u fun _ _ x => x, h.args.keep u, h.ret.keep u, h.len⟩
theorem TyC.c0 (h : TyC F w b k nm ns ta r np nc p c rp) : w.cell? ⟨b, 0, none⟩ = some (.int .i64 k) := h.blk.cell rfl
theorem TyC.c1 (h : TyC F w b k nm ns ta r np nc p c rp) : w.cell? (Addr.add ⟨b, 0, none⟩ 1) = some (.string nm) := by rw [add_mk]; exact h.blk.cell rfl
theorem TyC.c2 (h : TyC F w b k nm ns ta r np nc p c rp) : w.cell? (Addr.add ⟨b, 0, none⟩ 2) = some (.slice np ns.length nc) := by rw [add_mk]; exact h.blk.cell rfl
theorem TyC.c3 (h : TyC F w b k nm ns ta r np nc p c rp) : w.cell? (Addr.add ⟨b, 0, none⟩ 3) = some (.slice p ta.length c) := by rw [add_mk]; exact h.blk.cell rfl
theorem TyC.c4 (h : TyC F w b k nm ns ta r np nc p c rp) : w.cell? (Addr.add ⟨b, 0, none⟩ 4) = some (.pointer rp) := by rw [add_mk]; exact h.blk.cell rfl
end
theorem argC {F : Nat -> Prop} {w : World} {p : Option Addr} {n c : Nat} {l : List T} (h : TyRow ids F w (.slice p n c) l) {i : Nat} (hi : i < l.length) {K : Addr -> Option Addr -> Prop}
    (hk : ∀ a q, w.cell? (a.add (Int.toNat (i : Int) * 1)) = some (.pointer q) -> TyAt ids F w (.pointer q) l[i] -> K a q) :
    ptrC p fun a => ∃ q, w.cell? (a.add (Int.toNat (i : Int) * 1)) = some (.pointer q) /\ K a q := by
  obtain ⟨_, _, _, hg⟩ := h.get; obtain ⟨g, o, v, rfl, hv, ht⟩ := hg i l[i] (List.getElem?_eq_getElem hi); obtain ⟨q, rfl, _⟩ := ptr_shape ht; have hc : w.cell? (Addr.add ⟨g, o, none⟩ (Int.toNat (i : Int) * 1)) = some (.pointer q) := by rw [add_mk, Int.toNat_natCast, Nat.mul_one]; exact hv
  exact ptrC_some ⟨q, hc, hk _ _ hc ht⟩
theorem nameC' {w : World} {e : TypeId} {p : Option Addr} {n c : Nat} {l : List ByteArray} (h : RowAt w e 1 (.slice p n c) (l.map Value.string)) {i : Nat} (hi : i < l.length) {K : Addr -> ByteArray -> Prop}
    (hk : ∀ a, w.cell? (a.add (Int.toNat (i : Int) * 1)) = some (.string l[i]) -> K a l[i]) :
    ptrC p fun a => ∃ q, w.cell? (a.add (Int.toNat (i : Int) * 1)) = some (.string q) /\ K a q := by
  obtain ⟨g, o, rfl, hv⟩ := h.get (j := i) (by simpa using hi)
  have hc : w.cell? (Addr.add ⟨g, o, none⟩ (Int.toNat (i : Int) * 1)) = some (.string l[i]) := by
    rw [add_mk, Int.toNat_natCast, Nat.mul_one, hv]; simp
  exact ptrC_some ⟨_, hc, hk _ hc⟩
theorem cell_keep {W w : World} {a : Addr} {v : Value} (h : W.cell? a = some v) (u : Upd No W w) : w.cell? a = some v := by
  have hb := World.block_lt_of_cell? W a h; have := u.block a.block hb id; unfold World.cell? at *; rw [this]; exact h
theorem lds_str {w : World} {a : Addr} {s : ByteArray} (h : w.cell? a = some (.string s)) : Lds Tryz.prog 9 w a (.string s) := by
  have key : (∃ s', w.cell? a = some (.string s') /\ Value.string s' = Value.string s) = ldVC Tryz.prog 9 w a (fun v => v = .string s) := by kernel_rfl
  obtain ⟨v, rfl, hr⟩ := semR_out (ldVC_sound (of_eq ⟨_, h, rfl⟩ key)); exact hr w rfl
theorem lds_strs {w : World} {a : Addr} {p : Option Addr} {n c : Nat} (h : w.cell? a = some (.slice p n c)) : Lds Tryz.prog 53 w a (.slice p n c) := by
  have key : (∃ p' n' c', w.cell? a = some (.slice p' n' c') /\ .slice p' n' c' = Value.slice p n c) = ldVC Tryz.prog 53 w a (fun v => v = .slice p n c) := by kernel_rfl
  obtain ⟨v, rfl, hr⟩ := semR_out (ldVC_sound (of_eq ⟨_, _, _, h, rfl⟩ key)); exact hr w rfl
theorem lds_typs {w : World} {a : Addr} {p : Option Addr} {n c : Nat} (h : w.cell? a = some (.slice p n c)) : Lds Tryz.prog 82 w a (.slice p n c) := by
  have key : (∃ p' n' c', w.cell? a = some (.slice p' n' c') /\ .slice p' n' c' = Value.slice p n c) = ldVC Tryz.prog 82 w a (fun v => v = .slice p n c) := by kernel_rfl
  obtain ⟨v, rfl, hr⟩ := semR_out (ldVC_sound (of_eq ⟨_, _, _, h, rfl⟩ key)); exact hr w rfl
theorem lds_typ {w : World} {a : Addr} {p : Option Addr} (h : w.cell? a = some (.pointer p)) : Lds Tryz.prog 29 w a (.pointer p) := by
  have key : (∃ p', w.cell? a = some (.pointer p') /\ Value.pointer p' = Value.pointer p) = ldVC Tryz.prog 29 w a (fun v => v = .pointer p) := by kernel_rfl
  obtain ⟨v, rfl, hr⟩ := semR_out (ldVC_sound (of_eq ⟨_, h, rfl⟩ key)); exact hr w rfl
theorem wrap_succ {i : Nat} (h : i < 9223372036854775807) : IntKind.wrap .i64 ((i : Int) + 1) = ((i + 1 : Nat) : Int) := by
  rw [Go.SX.wrap_small (by omega) (by omega)]; rfl
theorem wrap_pred {i : Nat} (h : i < 9223372036854775807) : IntKind.wrap .i64 (((i + 1 : Nat) : Int) - 1) = (i : Int) := by
  rw [Go.SX.wrap_small (by omega) (by omega)]; omega
theorem small_args {t a : T} (h : a ∈ t.args) (hs : size t <= 60) : size a <= 60 := by have := size_args h; omega
theorem len_args {t : T} (h : may t = true) (hs : size t <= 60) : t.args.length <= 60 := by
  obtain ⟨hA, _, e⟩ := may_args h
  have := length_le_sizes (l := t.args) fun a ha => by
    have := hA a ha
    cases a with
    | nil => cases this
    | mk => rfl
  omega
open Go.SX Go.Ty
theorem mem_lt {l : List T} {i : Nat} (h : i < l.length) : l[i] ∈ l := List.getElem_mem h
def preJ (sep : List UInt8) (l : List (List UInt8)) (q : Nat) : List UInt8 := if 0 < q then join sep (l.take q) ++ sep else join sep (l.take q)
theorem preJ_succ (sep : List UInt8) (l : List (List UInt8)) {q : Nat} (h : q < l.length) : preJ sep l q ++ l[q] = join sep (l.take (q + 1)) := (join_take_succ sep l h).symm
theorem preJ_le (sep : List UInt8) (l : List (List UInt8)) {q : Nat} (h : q < l.length) : (preJ sep l q).length + (l[q]).length <= (join sep l).length := by
  rw [<- List.length_append, preJ_succ sep l h]; exact join_take_le sep l _
open Go.SX Go.Ty
theorem beq_bytes (x y : ByteArray) : (x.toList == y.toList) = decide (x = y) := by
  rw [Bool.eq_iff_iff, beq_iff_eq, ByteArray.toList_eq, ByteArray.toList_eq, decide_eq_true_eq]; constructor
  . intro h; cases x; cases y
    congr 1
    exact Array.toList_inj.1 h
  . rintro rfl; rfl
def headB (k : Int) (nm : ByteArray) (ns : List ByteArray) (ta : List T) (r : T) : Bool :=
  decide (1 <= k) && decide (k <= 9) && (decide (nm = .empty) || k == 6) && (ns.isEmpty || k == 7) && (ta.isEmpty || decide (7 <= k)) && ((!r.isNil) == (k == 8))
def tailB (k : Int) (nm : ByteArray) (ns : List ByteArray) (ta : List T) (r : T) : Bool :=
  if k = 6 then namedL (txt nm)
  else if k = 7 then ns.length == ta.length && (ns.all fun n => fieldL (txt n)) && rising (ns.map txt)
  else if k = 8 then may r
  else if k = 9 then decide (2 <= ta.length) && (ta.all fun a => !(a.kind == 9) && !(a.kind == 1)) && rising (ta.map write)
  else true
theorem may_eq (k : Int) (nm : ByteArray) (ns : List ByteArray) (ta : List T) (r : T) : may (.mk k nm ns ta r) = (headB k nm ns ta r && ta.all may && tailB k nm ns ta r) := by
  rw [may, mays_all, writes_map]; rfl
open Go.SX Go.Ty
theorem may_arg_false {k : Int} {nm : ByteArray} {ns : List ByteArray} {ta : List T} {r a : T} (ha : a ∈ ta) (h : may a = false) : may (.mk k nm ns ta r) = false := by
  refine Bool.eq_false_iff.2 fun hm => ?_; have := (may_args hm).1 a ha; rw [h] at this; cases this
theorem kindC {F : Nat -> Prop} {w : World} {x : Option Addr} {t : T} (h : TyAt ids F w (.pointer x) t) (hn : t.isNil = false) : ∃ g, x = some g /\ w.cell? g = some (.int .i64 t.kind) := by
  cases t with
  | nil => cases hn
  | mk k nm ns ta r =>
    obtain ⟨_, _, _, _, _, _, rfl, D⟩ := ty_opens h; exact ⟨_, rfl, D.c0⟩
theorem may_notNil {t : T} (h : may t = true) : t.isNil = false := by
  cases t with
  | nil => cases h
  | mk => rfl
theorem up {A B C : World} (u : Upd No A B) (v : Upd No B C) : Upd No A C := u.trans v fun _ _ => id
open Go.SX Go.Ty
theorem ne_false {t u : T} (h : t ≠ u) : Value.bool false = Value.bool (decide (t = u)) := by rw [decide_eq_false h]
theorem same_decide (a b : T) : same a b = (decide (size a <= 60) && (decide (size b <= 60) && decide (a = b))) := by
  unfold same; rw [Bool.and_assoc, Bool.eq_iff_iff]; simp [alike_iff]
open Go.SX Go.Ty
abbrev From (n0 : Nat) : Nat -> Prop := fun b => n0 <= b
theorem upFrom {a b c : World} {n0 : Nat} (h : Upd No a b) (k : Upd (From n0) b c) (hn : a.heap.size <= n0) : Upd No a c := h.trans k fun x hx (hs : n0 <= x) => by omega
structure Elem (t e : TypeId) (bytes : Nat) : Prop where
  ut : Tryz.prog.underlying t = some (.slice e)
  info : ∃ i z, Tryz.prog.info? e = some i /\ i.zero = some z /\ i.size = 1 /\ i.bytes = bytes /\ z.cells.size = 1
theorem elemStr : Elem 53 9 16 := ⟨by kernel_rfl, by
  obtain ⟨i, h1, h2, h3, h4⟩ := info_get (P := Tryz.prog) (e := 9) (s := 1) (b := 16) (z := .string ByteArray.empty) (by kernel_rfl); exact ⟨i, _, h1, h2, h3, h4, rfl⟩⟩
theorem elemTyp : Elem 82 29 8 := ⟨by kernel_rfl, by
  obtain ⟨i, h1, h2, h3, h4⟩ := info_get (P := Tryz.prog) (e := 29) (s := 1) (b := 8) (z := .pointer none) (by kernel_rfl); exact ⟨i, _, h1, h2, h3, h4, rfl⟩⟩
structure Own (n0 : Nat) (w : World) (e : TypeId) (p : Option Addr) (n c : Nat) (xs : List Value) : Prop where
  row : RowAt w e 1 (.slice p n c) xs
  own : ∀ b, InRow (.slice p n c) b -> n0 <= b
  len : n = xs.length
  cap : n <= c /\ c <= maxLen
theorem ownNil (n0 : Nat) (w : World) (e : TypeId) : Own n0 w e none 0 0 [] := ⟨RowAt.nil _ _ _, (fun b h => by cases h), rfl, Nat.le_refl _, Nat.zero_le _⟩
theorem Own.keep {n0 : Nat} {w w' : World} {e : TypeId} {p : Option Addr} {n c : Nat} {xs : List Value} (h : Own n0 w e p n c xs) (u : Upd No w w') : Own n0 w' e p n c xs :=
  ⟨h.row.upd u fun _ _ x => x, h.own, h.len, h.cap⟩
theorem row_cap {w : World} {e : TypeId} {p : Option Addr} {n c : Nat} {xs : List Value} (h : RowAt w e 1 (.slice p n c) xs) : n = xs.length /\ n <= c /\ c <= maxLen := by
  obtain ⟨q, m, d, e, h1, h2, h3⟩ := h.shape; cases e; exact ⟨by omega, h2, h3⟩
theorem grow_row {t e : TypeId} {bytes n0 : Nat} {w : World} {p : Option Addr} {n c : Nat} {xs : List Value} {q : Option Addr} {m d : Nat} {ys : List Value} (E : Elem t e bytes) (h : Own n0 w e p n c xs) (hn0 : n0 <= w.heap.size)
    (hs : RowAt w e 1 (.slice q m d) ys) (h1 : ∀ u ∈ ys, u.oneCell' = true) (hb : bytes <= 16) (hsz : xs.length + ys.length <= 1000000000000) {K : Option Addr -> Nat -> Nat -> WP}
    (hk : ∀ p' n' c' w', Own n0 w' e p' n' c' (xs ++ ys) -> Upd (From n0) w w' -> (∀ b, InRow (.slice p' n' c') b -> InRow (.slice p n c) b \/ w.heap.size <= b) -> Upd (InRow (.slice p n c)) w w' -> K p' n' c' w') :
    runC Tryz.prog (Builtin.append_ #[t, t] t #[.slice p n c, .slice q m d]) w fun v w' => ∃ p' n' c', v = .slice p' n' c' /\ K p' n' c' w' := by
  obtain ⟨i, z, hi, hz, hsize, hby, hzs⟩ := E.info; obtain ⟨em, hmc, _⟩ := row_cap hs; have hlen := h.len; have hmul : (n + m) * bytes <= (n + m) * 16 := Nat.mul_le_mul_left _ hb; refine append_slice (P := Tryz.prog) E.ut hi hz hsize hby hzs h.row (n := n) (by omega) q m d ys (by omega) (by omega) (fun j u hu => ?_) h1 (by simp only [maxLen]; omega) (by omega) fun v' w' r u hbl => ?_
  . obtain ⟨g, o, rfl, e⟩ := hs.get (j := j) (by
      rcases Nat.lt_or_ge j ys.length with h | h
      . exact h
      . rw [List.getElem?_eq_none h] at hu; cases hu)
    exact ⟨_, rfl, by rw [add_mk, e, hu]⟩
  . obtain ⟨p', n', c', rfl, e1, e2, e3⟩ := r.shape; exact ⟨p', n', c', rfl, hk p' n' c' w' ⟨r, fun b hb => (hbl b hb).elim (h.own b) fun h => by omega, by omega, e2, e3⟩ (u.mono fun x _ hx => h.own x hx) hbl u⟩
theorem row_one {w : World} {k : Nat} {x : Value} {e : TypeId} (h : Blk w k #[x] e) : RowAt w e 1 (.slice (some ⟨k, 0, none⟩) 1 1) [x] :=
  ⟨1, rfl, .inr ⟨k, 0, 1, #[x], rfl, h, Nat.le_refl _, by simp only [maxLen]; omega, by simp, by simp⟩⟩
def StrsAt (w : World) (p : Option Addr) (l : List ByteArray) : Prop := ∀ i, (h : i < l.length) -> ∃ a : Addr, p = some a /\ w.cell? (Addr.add a (i * 1)) = some (.string l[i])
theorem strs_keep {W w : World} {p : Option Addr} {l : List ByteArray} (h : StrsAt W p l) (u : Upd No W w) : StrsAt w p l := fun i hi => by
  obtain ⟨a, rfl, hc⟩ := h i hi; exact ⟨a, rfl, cell_keep hc u⟩
theorem strs_row {w : World} {e : TypeId} {p : Option Addr} {n c : Nat} {l : List ByteArray} (h : RowAt w e 1 (.slice p n c) (l.map Value.string)) : StrsAt w p l := fun i hi => by
  obtain ⟨g, o, rfl, hv⟩ := h.get (j := i) (by simpa using hi); exact ⟨_, rfl, by rw [add_mk, Nat.mul_one, hv]; simp⟩
theorem strC {w : World} {p : Option Addr} {l : List ByteArray} (h : StrsAt w p l) {i : Nat} (hi : i < l.length) {K : Addr -> ByteArray -> Prop}
    (hk : ∀ a, w.cell? (a.add (Int.toNat (i : Int) * 1)) = some (.string l[i]) -> K a l[i]) :
    ptrC p fun a => ∃ q, w.cell? (a.add (Int.toNat (i : Int) * 1)) = some (.string q) /\ K a q := by
  obtain ⟨a, rfl, hc⟩ := h i hi; exact ptrC_some ⟨_, hc, hk a hc⟩
theorem one_typs {F : Nat -> Prop} {w : World} {vs : List Value} {l : List T} (h : TysAt ids F w vs l) : ∀ u ∈ vs, u.oneCell' = true := by
  intro u hu; obtain ⟨i, hi, rfl⟩ := List.getElem_of_mem hu; have hl : i < l.length := by have := h.length; omega
  obtain ⟨q, e, _⟩ := ptr_shape (h.at_ (List.getElem?_eq_getElem hi) (List.getElem?_eq_getElem hl)); rw [e]; rfl
theorem ty_here {F : Nat -> Prop} {w : World} {v : Value} {t : T} (h : TyAt ids F w v t) : TyAt ids (fun b => F b /\ b < w.heap.size) w v t := h.mono fun _ hl hf => ⟨hf, hl⟩
open Go.SX Go.Ty
abbrev With (F : Nat -> Prop) (n0 : Nat) : Nat -> Prop := fun b => F b \/ n0 <= b
theorem mkTy {G : Nat -> Prop} {w : World} {b : Nat} {k : Int} {nm : ByteArray} {nv av rv : Value} {ns : List ByteArray} {ta : List T} {r : T} {vs : List Value} (hB : Blk w b #[.int .i64 k, .string nm, nv, av, rv] 84) (hG : G b)
    (hN : RowAt w ids.str 1 nv (ns.map Value.string)) (gN : ∀ b, InRow nv b -> G b) (hA : RowAt w ids.ptr 1 av vs) (gA : ∀ b, InRow av b -> G b) (hT : TysAt ids G w vs ta) (hR : TyAt ids G w rv r) :
    TyAt ids G w (.pointer (some ⟨b, 0, none⟩)) (.mk k nm ns ta r) := by
  unfold TyAt; exact ⟨b, nv, av, rv, vs, rfl, hG, hB, hN, gN, hA, gA, hT, hR⟩
theorem no_in {n c : Nat} : ∀ b, InRow (.slice none n c) b -> False := fun b h => by cases h
structure OwnT (n0 n1 : Nat) (F : Nat -> Prop) (w : World) (p : Option Addr) (n c : Nat) (l : List T) : Prop where
  ex : ∃ vs, Own n1 w ids.ptr p n c vs /\ TysAt ids (fun b => F b /\ b < n0) w vs l
theorem OwnT.len {n0 n1 : Nat} {F : Nat -> Prop} {w : World} {p : Option Addr} {n c : Nat} {l : List T} (h : OwnT n0 n1 F w p n c l) : n = l.length /\ n <= c /\ c <= maxLen := by
  obtain ⟨vs, h1, h2⟩ := h.ex; have := h1.len; have := h2.length; exact ⟨by omega, h1.cap⟩
theorem OwnT.keep {n0 n1 : Nat} {F : Nat -> Prop} {w w' : World} {p : Option Addr} {n c : Nat} {l : List T} (h : OwnT n0 n1 F w p n c l) (u : Upd No w w') : OwnT n0 n1 F w' p n c l := by
  obtain ⟨vs, h1, h2⟩ := h.ex; exact ⟨vs, h1.keep u, h2.keep u⟩
theorem OwnT.nil (n0 n1 : Nat) (F : Nat -> Prop) (w : World) : OwnT n0 n1 F w none 0 0 [] := ⟨[], ownNil _ _ _, trivial⟩
theorem OwnT.grow {n0 n1 : Nat} {F : Nat -> Prop} {w : World} {p : Option Addr} {n c : Nat} {l : List T} (h : OwnT n0 n1 F w p n c l) (h01 : n0 <= n1) (hn : n1 <= w.heap.size) {q : Option Addr} {m d : Nat} {ys : List Value} {ts : List T}
    (hs : RowAt w ids.ptr 1 (.slice q m d) ys) (ht : TysAt ids (fun b => F b /\ b < n0) w ys ts) (hsz : l.length + ts.length <= 1000000000000) {K : Option Addr -> Nat -> Nat -> WP}
    (hk : ∀ p' n' c' w', OwnT n0 n1 F w' p' n' c' (l ++ ts) -> Upd (From n1) w w' -> (∀ b, InRow (.slice p' n' c') b -> InRow (.slice p n c) b \/ w.heap.size <= b) -> Upd (InRow (.slice p n c)) w w' -> K p' n' c' w') :
    runC Tryz.prog (Builtin.append_ #[82, 82] 82 #[.slice p n c, .slice q m d]) w fun v w' => ∃ p' n' c', v = .slice p' n' c' /\ K p' n' c' w' := by
  obtain ⟨vs, h1, h2⟩ := h.ex; have e1 := h2.length; have e2 := ht.length; refine grow_row elemTyp h1 hn hs (one_typs ht) (by omega) (by omega) fun p' n' c' w' o u hin uin => hk p' n' c' w' ⟨vs ++ ys, o, ?_⟩ u hin uin; exact (h2.append ht).upd u fun b hb (hx : n1 <= b) => by omega
theorem OwnT.grow1 {n0 n1 : Nat} {F : Nat -> Prop} {w : World} {p : Option Addr} {n c : Nat} {l : List T} (h : OwnT n0 n1 F w p n c l) (h01 : n0 <= n1) (hn : n1 <= w.heap.size) {k : Nat} {q : Option Addr} {t : T}
    (hs : Blk w k #[.pointer q] ids.ptr) (ht : TyAt ids (fun b => F b /\ b < n0) w (.pointer q) t) (hsz : l.length + 1 <= 1000000000000) {K : Option Addr -> Nat -> Nat -> WP}
    (hk : ∀ p' n' c' w', OwnT n0 n1 F w' p' n' c' (l ++ [t]) -> Upd (From n1) w w' -> (∀ b, InRow (.slice p' n' c') b -> InRow (.slice p n c) b \/ w.heap.size <= b) -> Upd (InRow (.slice p n c)) w w' -> K p' n' c' w') :
    runC Tryz.prog (Builtin.append_ #[82, 82] 82 #[.slice p n c, .slice (some ⟨k, 0, none⟩) 1 1]) w fun v w' => ∃ p' n' c', v = .slice p' n' c' /\ K p' n' c' w' :=
  h.grow h01 hn (row_one hs) (ts := [t]) ⟨ht, trivial⟩ hsz hk
open Go.SX Go.Ty
abbrev OwnS (n1 : Nat) (w : World) (p : Option Addr) (n c : Nat) (l : List ByteArray) : Prop := Own n1 w ids.str p n c (l.map Value.string)
theorem OwnS.len' {n1 : Nat} {w : World} {p : Option Addr} {n c : Nat} {l : List ByteArray} (h : OwnS n1 w p n c l) : n = l.length /\ n <= c /\ c <= maxLen := by
  have := h.len; rw [List.length_map] at this; exact ⟨this, h.cap⟩
theorem rec_not {ns : List ByteArray} {l : List T} (h : ¬ (ns.length = l.length /\ allOk l = true /\ (ns.all fun n => fieldL (txt n)) = true /\ ns.Nodup)) : recF ns l = (.nil, 2) := by
  unfold recF; rw [if_neg h]
open Go.SX Go.Ty
theorem flat_snoc (l : List T) {i : Nat} (h : i < l.length) : flatT (l.take (i + 1)) = flatT (l.take i) ++ (if l[i].kind = 9 then l[i].args else [l[i]]) := by
  unfold flatT; rw [List.take_succ_eq_append_getElem h, List.flatMap_append]; simp
theorem flat_ok {l : List T} (h : allOk l = true) : ∀ u ∈ flatT l, may u = true /\ size u <= 60 := by
  intro u hu; rw [allOk_iff] at h; obtain ⟨a, ha, hx⟩ := List.mem_flatMap.1 hu; obtain ⟨h1, h2⟩ := check_iff.1 (h a ha); split at hx
  . exact ⟨(may_args h1).1 u hx, small_args hx h2⟩
  . obtain rfl : u = a := by simpa using hx
    exact ⟨h1, h2⟩
theorem flat_len {l : List T} (h : allOk l = true) : ∀ i, i <= l.length -> (flatT (l.take i)).length <= 60 * i := by
  intro i
  induction i with
  | zero => intro _; simp [flatT]
  | succ i ih =>
    intro hi; have hi' : i < l.length := by omega
    rw [flat_snoc l hi', List.length_append]; have := ih (by omega); obtain ⟨h1, h2⟩ := check_iff.1 (allOk_iff.1 h _ (List.getElem_mem hi')); have := len_args h1 h2; split
    . omega
    . simp only [List.length_cons, List.length_nil]; omega
def unionOf : List T -> T × Int
  | [t] => (t, 0)
  | M => fits (.mk 9 .empty [] M .nil)
theorem unionOf_big : ∀ {M : List T}, M.length ≠ 1 -> unionOf M = fits (.mk 9 .empty [] M .nil)
  | [], _ => rfl
  | [_], h => (h rfl).elim
  | _ :: _ :: _, _ => rfl
theorem unionF_eq {l : List T} (hne : l ≠ []) (hok : allOk l = true) : unionF l = if l.any (·.kind == 1) then (.mk 1 .empty [] [] .nil, 0) else unionOf (outT l) := by
  unfold unionF; rw [hok]
  have e : (l.isEmpty || !true) = false := by
    cases l with
    | nil => exact (hne rfl).elim
    | cons => rfl
  rw [e, if_neg (by simp)]; split
  . rfl
  . split
    . rename_i e; rw [e]; rfl
    . rename_i hx; refine (unionOf_big fun h => ?_).symm
      match ho : outT l, h with
      | [t], _ => exact hx t ho
open Go.SX Go.Ty
open Go.SX Go.Ty
open Go.SX Go.Ty
def nb : Nat -> Nat | 0 => 1 | d + 1 => 1 + 4 * nb d
open Go.SX Go.Ty
end Go.Proofs.YtdbkclnlfibgdaaGreatDoor
namespace Go.Proofs
open Go.Shelf Go.RowKit
theorem Tryz.Builder_Extra_str : Builder.Extra Tryz.prog Tryz.strL_ren where
  sizeBuilder := by kernel_rfl
  liesBuilder := by kernel_rfl
  t5 := Tryz.underlying5
  a5 := fun w => run_isAgg_plain Tryz.underlying5 rfl w
  z5 := fun w => by kernel_rfl
  v5 := fun w => by kernel_rfl
  infoByte := by kernel_rfl
  cellsByte := by kernel_rfl
  sizeByte := by kernel_rfl
  neB5 := by decide
end Go.Proofs
namespace Go.Proofs.YtdbkclnlfibgdaaGreatDoor
open Go.SX Go.Ty Go.RowKit
def KC (nb : Nat) (A B : World) : Prop := ∀ b cs t z, b ≠ nb -> A.heap[b]? = some (.cells cs t z) -> B.heap[b]? = some (.cells cs t z)
theorem KC.refl (nb : Nat) (A : World) : KC nb A A := fun _ _ _ _ _ h => h
theorem KC.trans {nb : Nat} {A B C : World} (h : KC nb A B) (k : KC nb B C) : KC nb A C := fun b cs t z hn hb => k b cs t z hn (h b cs t z hn hb)
theorem KC.upd {nb : Nat} {A B : World} (u : Upd No A B) : KC nb A B := fun b cs t z _ hb => by
  have hlt : b < A.heap.size := by
    rcases Nat.lt_or_ge b A.heap.size with h | h
    . exact h
    . rw [Array.getElem?_eq_none h] at hb; cases hb
  rw [u.block b hlt id]; exact hb
theorem KC.blk {nb : Nat} {A B : World} (k : KC nb A B) {b : Nat} {cs : Array Value} {t : TypeId} (h : Blk A b cs t) (hn : b ≠ nb) : Blk B b cs t := k b cs t (0, 0) hn h
theorem KC.row {nb : Nat} {A B : World} (k : KC nb A B) {e : TypeId} {size : Nat} {v : Value} {xs : List Value} (h : RowAt A e size v xs) (hn : ∀ b, InRow v b -> b ≠ nb) : RowAt B e size v xs := by
  obtain ⟨n, hl, h | ⟨g, o, cap, cur, rfl, hg, hr⟩⟩ := h
  . exact ⟨n, hl, .inl h⟩
  . exact ⟨n, hl, .inr ⟨g, o, cap, cur, rfl, k.blk hg (hn g rfl), hr⟩⟩
theorem KC.ty {nb : Nat} {A B : World} {F : Nat -> Prop} (k : KC nb A B) (hF : ∀ b, F b -> b ≠ nb) : ∀ (t : T) (v : Value), TyAt ids F A v t -> TyAt ids F B v t := by
  refine ind (fun v h => h) fun kd nm ns ta r ha hr v h => ?_; unfold TyAt at h ⊢; obtain ⟨b, nv, av, rv, vs, rfl, hb, hB, hN, fN, hA, fA, hT, hR⟩ := h; refine ⟨b, nv, av, rv, vs, rfl, hb, k.blk hB (hF b hb), k.row hN (fun x hx => hF x (fN x hx)), fN, k.row hA (fun x hx => hF x (fA x hx)), fA, ?_, hr rv hR⟩; rw [tysAt_iff] at hT ⊢; exact ⟨hT.1, fun i v t a b => ha t (List.mem_of_getElem? b) v (hT.2 i v t a b)⟩
theorem drawC_eq {w : World} {K : WP} (h : K w.drew) : drawC w K := h
theorem upd_drew (w : World) : Upd No w w.drew := ⟨rfl, rfl, rfl, Nat.le_refl _, fun _ _ _ => rfl⟩
def RoundOk (l nb : Nat) (J Jx : List (Option Addr) -> WP) (N : Nat) : Prop :=
  ∀ pre x W, J pre W -> pre.length < N -> YieldAt Fence.wide 0 Tryz.prog l #[.pointer x] W fun e W' => (e = .returned (.bool true) /\ J (pre ++ [x]) W' /\ KC nb W W') \/ (e = .returned (.bool false) /\ Jx (pre ++ [x]) W')
abbrev WalkPost (nb : Nat) (J Jx : List (Option Addr) -> WP) (pre : List (Option Addr)) (n : Nat) (W : World) (v : Value) (W' : World) : Prop :=
  (v = .bool true /\ (∃ ys : List (Option Addr), ys.length = n /\ J (pre ++ ys) W') /\ KC nb W W') \/ (v = .bool false /\ ∃ q : List (Option Addr), q.length <= n /\ Jx (pre ++ q) W')
theorem inv_walk {yb wb : Nat} {x : Option Addr} {w : World} {K : KV} (h : callC Tryz.prog 60 #[.pointer x, .pointer (some ⟨yb, 0, none⟩), .pointer (some ⟨wb, 0, none⟩)] w K) :
    invC Tryz.prog (.func (.func 60) #[] #[.pointer (some ⟨yb, 0, none⟩), .pointer (some ⟨wb, 0, none⟩)]) #[.pointer x] w K := of_eq h (by kernel_rfl)
theorem yldC_of {l : Nat} {args : Array Value} {w : World} {R : Ending -> WP} {K : KV} (h : YieldAt Fence.wide 0 Tryz.prog l args w R) (hk : ∀ e w', R e w' -> ∃ v, e = .returned v /\ K v w') :
    yldC Tryz.prog (.func (.yield l) #[] #[]) args w K :=
  let ⟨fn, tmps, assign, body, hy, hR⟩ := h
  ⟨l, rfl, fn, tmps, assign, body, hy, hR.mono fun e w' x => by
    obtain ⟨v, rfl, k⟩ := hk e w' x; exact k⟩
theorem twalk_spec {l nb yb wb N : Nat} {J Jx : List (Option Addr) -> WP} (hY : RoundOk l nb J Jx N) (hJ : ∀ pre W W', J pre W -> Upd No W W' -> J pre W') (hyb : yb ≠ nb) (hwb : wb ≠ nb) :
    ∀ (t : T) (F : Nat -> Prop) (W : World) (x : Option Addr) (pre : List (Option Addr)), TyAt ids F W (.pointer x) t -> (∀ b, F b -> b ≠ nb) -> Blk W yb #[.func (.yield l) #[] #[]] 39 ->
      Blk W wb #[.func (.func 60) #[] #[.pointer (some ⟨yb, 0, none⟩), .pointer (some ⟨wb, 0, none⟩)]] 39 -> J pre W -> pre.length + size t <= N ->
      callC Tryz.prog 60 #[.pointer x, .pointer (some ⟨yb, 0, none⟩), .pointer (some ⟨wb, 0, none⟩)] W (WalkPost nb J Jx pre (size t) W) := by
  refine ind (fun F W x pre h hF hy hw hj hn => ?_) fun k nm ns ta r ihA ihR F W x pre h hF hy hw hj hn => ?_
  . obtain rfl : x = none := by unfold TyAt at h; cases h; rfl
    exact twalk_text _ _ _ _ _ _ _ (brC_tt rfl (.inl ⟨rfl, ⟨[], rfl, by rw [List.append_nil]; exact hj⟩, KC.refl _ _⟩))
  obtain ⟨b, np, nc, p, c, rp, rfl, C⟩ := ty_opens h; have hsz : size (.mk k nm ns ta r) = 1 + sizes ta + size r := by rw [size]
  rw [hsz] at hn; rw [hsz]; have hlen := C.len; simp only [maxLen] at hlen; refine twalk_text _ _ _ _ _ _ _ (brC_ff rfl ⟨_, hy.cell rfl, yldC_of (hY pre (some ⟨b, 0, none⟩) W hj (by omega)) fun e W2 hk => ?_⟩); rcases hk with ⟨rfl, hj2, k2⟩ | ⟨rfl, hx⟩
  rotate_left
  . exact ⟨_, rfl, _, rfl, brC_tt rfl (.inr ⟨rfl, [some ⟨b, 0, none⟩], by simp; omega, hx⟩)⟩
  refine ⟨_, rfl, _, rfl, brC_ff rfl ?_⟩; have h2 := k2.ty hF _ _ h; obtain ⟨_, _, _, _, _, _, e, C2⟩ := ty_opens h2; cases e
  have e3 : (W2.cell? (Addr.add ⟨b, 0, none⟩ 3)) = some (.slice p ta.length c) := by
    have := k2.blk C.blk (hF b C.inF); rw [add_mk]; exact this.cell rfl
  have hcc := C2.c3; rw [e3] at hcc; cases hcc; refine ptrC_some ⟨_, _, _, e3, ?_⟩
  refine ⟨fun j W' => ∃ i : Nat, j = i /\ i <= ta.length /\ KC nb W2 W' /\ ∃ ys : List (Option Addr), ys.length = 1 + sizes (ta.take i) /\ J (pre ++ ys) W', fun j _ => (ta.length - j).toNat,
    ⟨0, rfl, Nat.zero_le _, KC.refl _ _, [some ⟨b, 0, none⟩], by simp [sizes], hj2⟩, ?_⟩
  rintro j W11 ⟨i, rfl, hi, k11, ys, hys, hj11⟩ _; have h11 := k11.ty hF _ _ h2; obtain ⟨_, _, _, _, _, _, e, C11⟩ := ty_opens h11; cases e
  have e11 : (W11.cell? (Addr.add ⟨b, 0, none⟩ 3)) = some (.slice p ta.length c) := by
    have := (k2.trans k11).blk C.blk (hF b C.inF); rw [add_mk]; exact this.cell rfl
  have hcc := C11.c3; rw [e11] at hcc; cases hcc; have K11 := k2.trans k11
  have hle : sizes (ta.take i) <= sizes ta := by
    have := sizes_append (ta.take i) (ta.drop i); rw [List.take_append_drop] at this; omega
  refine brC_intro (fun hlt => ⟨by omega, by have := of_decide_eq_true hlt; omega, ?_⟩) fun hge => ?_
  . have hlt : i < ta.length := by have := of_decide_eq_true hlt; omega
    have e5 : sizes (ta.take (i + 1)) = sizes (ta.take i) + size ta[i] := by
      rw [List.take_succ_eq_append_getElem hlt, sizes_append]; simp [sizes]
    have hle5 : sizes (ta.take (i + 1)) <= sizes ta := by
      have := sizes_append (ta.take (i + 1)) (ta.drop (i + 1)); rw [List.take_append_drop] at this; omega
    refine argC C11.args hlt fun a x hc hx => ⟨_, (K11.blk hw hwb).cell rfl, inv_walk ?_⟩; refine callC_of (ihA _ (mem_lt hlt) F W11 x (pre ++ ys) hx hF (K11.blk hy hyb) (K11.blk hw hwb) hj11 (by rw [List.length_append]; omega)) fun v W17 hp => ?_; rcases hp with ⟨rfl, ⟨zs, hz, hjz⟩, k17⟩ | ⟨rfl, q, hq, hjx⟩
    . refine ⟨_, rfl, brC_ff rfl ?_⟩; rw [wrap_succ (by omega)]; exact ⟨⟨i + 1, rfl, hlt, k11.trans k17, ys ++ zs, by rw [List.length_append]; omega, by rw [<- List.append_assoc]; exact hjz⟩, by dsimp only; omega⟩
    . exact ⟨_, rfl, brC_tt rfl (.inr ⟨rfl, ys ++ q, by rw [List.length_append]; omega, by rw [<- List.append_assoc]; exact hjx⟩)⟩
  . have hi : i = ta.length := by have := of_decide_eq_false hge; omega
    rw [hi, List.take_length] at hys; refine drawC_eq ?_; have ud := upd_drew W11; refine ⟨_, ((K11.blk hw hwb).upd ud id).cell rfl, ptrC_some ⟨_, cell_keep C11.c4 ud, inv_walk ?_⟩⟩; refine callC_of (ihR F _ _ (pre ++ ys) (C11.ret.keep ud) hF ((K11.blk hy hyb).upd ud id) ((K11.blk hw hwb).upd ud id) (hJ _ _ _ hj11 ud) (by rw [List.length_append]; omega)) fun v W24 hp => ?_; rcases hp with ⟨rfl, ⟨zs, hz, hjz⟩, k24⟩ | ⟨rfl, q, hq, hjx⟩
    . exact ⟨_, rfl, .inl ⟨rfl, ⟨ys ++ zs, by rw [List.length_append]; omega, by rw [<- List.append_assoc]; exact hjz⟩, (K11.trans (KC.upd ud)).trans k24⟩⟩
    . exact ⟨_, rfl, .inr ⟨rfl, ys ++ q, by rw [List.length_append]; omega, by rw [<- List.append_assoc]; exact hjx⟩⟩
theorem tparts1_spec {l nb N : Nat} {J Jx : List (Option Addr) -> WP} (hY : RoundOk l nb J Jx N) (hJ : ∀ pre W W', J pre W -> Upd No W W' -> J pre W') {t : T} {F : Nat -> Prop} {W : World} {x : Option Addr} {tb : Nat}
    (ht : TyAt ids F W (.pointer x) t) (hF : ∀ b, F b -> b ≠ nb) (hnb : nb < W.heap.size) (htb : W.cell? ⟨tb, 0, none⟩ = some (.pointer x)) (hj : J [] W) (hN : size t <= N) :
    callC Tryz.prog 59 #[.func (.yield l) #[] #[], .pointer (some ⟨tb, 0, none⟩)] W fun v W' => (∃ ys : List (Option Addr), ys.length = size t /\ J ys W') \/ (∃ q : List (Option Addr), q.length <= size t /\ Jx q W') := by
  refine tparts1_text _ _ _ _ _ _ _ (newC_mk fun w1 B1 u1 s1 => newC_mk fun w3 B3 u3 s3 => stC_mk B3 (by simp) fun w4 B4 u4 s4 => ?_); have u : Upd No W w4 := (up u1 u3).trans u4 fun y hy e => by have : y = w1.heap.size := e; omega
  refine ⟨_, B4.cell rfl, _, cell_keep htb u, inv_walk ?_⟩; refine callC_of (twalk_spec hY hJ (show W.heap.size ≠ nb by omega) (show w1.heap.size ≠ nb by omega) t F w4 x [] (ht.keep u) hF ((B1.upd u3 id).upd u4 (show W.heap.size ≠ w1.heap.size by omega)) B4 (hJ _ _ _ hj u) (by simpa using hN)) fun v W' hp => ?_; rcases hp with ⟨rfl, ⟨ys, h1, h2⟩, _⟩ | ⟨rfl, q, h1, h2⟩
  . exact ⟨_, rfl, .inl ⟨ys, h1, h2⟩⟩
  . exact ⟨_, rfl, .inr ⟨q, h1, h2⟩⟩
theorem yield_any {m m' l : Nat} {args : Array Value} {W : World} {R : Ending -> WP} (h : YieldAt Fence.wide m Tryz.prog l args W R) : YieldAt Fence.wide m' Tryz.prog l args W R := by
  obtain ⟨fn, tmps, assign, body, hy, hR⟩ := h; exact ⟨fn, tmps, assign, body, hy, hR.1, fun c cs _ => hR.2 c cs (room_wide _)⟩
theorem parts_stops {n nb tb : Nat} {t : T} {F : Nat -> Prop} {w : World} {x : Option Addr} (ht : TyAt ids F w (.pointer x) t) (hF : ∀ b, F b -> b ≠ nb) (hnb : nb < w.heap.size) (htb : w.cell? ⟨tb, 0, none⟩ = some (.pointer x)) :
    SeqStopsK Fence.wide n Tryz.prog 59 #[.pointer (some ⟨tb, 0, none⟩)] (fun x : Option Addr => #[Value.pointer x]) (KC nb) (fun ys => ys.length = size t) (fun q => q.length <= size t) (size t) w := by
  intro l J Jx W hb hJ hJx hY hj; have u : Upd No w W := ⟨hb.os, hb.tape, hb.output, hb.size, fun k hk _ => hb.block k hk⟩; refine callsIn_wide.2 (Calls.mono (tparts1_spec (l := l) (nb := nb) (N := size t) (J := J) (Jx := Jx) (fun pre x W1 hp hlt => yield_any (hY pre x W1 hp hlt)) ?_ (ht.keep u) hF (by have := u.size; omega) (cell_keep htb u) hj (Nat.le_refl _)) fun e W' h => ?_)
  . intro pre A B ha v; exact hJ pre A B none ha ⟨v.os, v.tape, v.output, v.size, fun k hk _ => v.block k hk id⟩ (fun r e => by cases e)
  . cases e with
    | returned v => exact ⟨⟨v, rfl⟩, h⟩
    | _ => exact h.elim
end Go.Proofs.YtdbkclnlfibgdaaGreatDoor
namespace Go.Proofs.YtdbkclnlfibgdaaGreatDoor
open Go.SX Go.Ty Go.RowKit Go.Shelf
attribute [local go_sem] Oper.semAt_some
theorem box_cell {W : World} {B : Nat} {v : Value} {t : TypeId} (h : Blk W B #[v] t) : W.cell? ⟨B, 0, none⟩ = some v /\ W.frozen? ⟨B, 0, none⟩ = false := ⟨h.cell rfl, h.frozen 0⟩
theorem upd_of_below {w w' : World} (h : Below w.heap.size w w') : Upd No w w' := ⟨h.os, h.tape, h.output, h.size, fun k hk _ => h.block k hk⟩
theorem below_of_upd {w w' : World} (h : Upd No w w') : Below w.heap.size w w' := ⟨h.os, h.tape, h.output, h.size, fun k hk => h.block k hk id⟩
theorem blk_own {A B : World} {row : Option Nat} {n₀ b : Nat} {cs : Array Value} {t : TypeId} (h : Blk A b cs t) (hg : A.grownBy B row) (hr : ∀ r, row = some r -> n₀ <= r /\ ∃ o : Obj, A.heap[r]? = some o /\ o.isCells = false) : Blk B b cs t := by
  have e := hg.block b h.lt fun e => by
    obtain ⟨_, o, ho, hc⟩ := hr b e.symm; rw [show A.heap[b]? = some (.cells cs t (0, 0)) from h] at ho; cases ho; cases hc
  show B.heap[b]? = _; rw [e]; exact h
theorem tSize_in {t : T} {F : Nat -> Prop} {w : World} {x0 : Option Addr} (ht : TyAt ids F w (.pointer x0) t) :
    CallsIn Fence.wide 5 Tryz.prog 12 #[.pointer x0] w fun e w' => e = .returned (.int .i64 ((min (size t) 61 : Nat) : Int)) /\ Below w.heap.size w w' := by
  have h31 : Fence.wide.fn 28 := trivial; have h67 : Fence.wide.fn 59 := trivial
  have hparts : CallsIn Fence.wide 4 Tryz.prog 28 #[.pointer x0] (w.alloc (.cells #[.int .i64 0] 3)) fun e w' => e = .returned (.func (.func 59) #[] #[.pointer (some ⟨w.heap.size + 1, 0, none⟩)]) /\ w' = (w.alloc (.cells #[.int .i64 0] 3)).alloc (.cells #[.pointer x0] 29) := by
    refine callsIn_wide.2 (Calls.mono (tparts_text x0 _ (fun v w' => v = .func (.func 59) #[] #[.pointer (some ⟨w.heap.size + 1, 0, none⟩)] /\ w' = (w.alloc (.cells #[.int .i64 0] 3)).alloc (.cells #[.pointer x0] 29)) ?_) fun e w' h => ?_)
    . unfold newC; exact ⟨by simp, rfl⟩
    . cases e with
      | returned v => obtain ⟨rfl, rfl⟩ := h; exact ⟨rfl, rfl⟩
      | _ => exact h.elim
  have hB1 : Blk (w.alloc (.cells #[.int .i64 0] 3)) w.heap.size #[.int .i64 0] 3 := blk_alloc _ _ _; have u1 : Upd No w (w.alloc (.cells #[.int .i64 0] 3)) := upd_alloc _ _; have u2 : Upd No (w.alloc (.cells #[.int .i64 0] 3)) ((w.alloc (.cells #[.int .i64 0] 3)).alloc (.cells #[.pointer x0] 29)) := upd_alloc _ _
  have hB2 : Blk ((w.alloc (.cells #[.int .i64 0] 3)).alloc (.cells #[.pointer x0] 29)) (w.heap.size + 1) #[.pointer x0] 29 := by
    have := blk_alloc (w.alloc (.cells #[.int .i64 0] 3)) #[.pointer x0] 29
    rwa [World.size_alloc] at this
  refine callsIn_of_wp_marks Tryz.func12 rfl trivial ?_ rfl; simp only [Tryz.ntmps12, List.size_toArray, List.length_cons, List.length_nil, Nat.reduceAdd, Nat.reduceSub, Array.replicate_succ, Array.replicate_zero, List.push_toArray, List.append_toArray, List.nil_append, List.cons_append]
  gi_wp2_with (gi_at_call 28; refine hparts.mono ?_; rintro e w' ⟨rfl, rfl⟩)
  have hT : TyAt ids (fun b => F b /\ b < w.heap.size) w (.pointer x0) t := ty_here ht
  refine wpIn_rangeFunc_ownF rfl (by omega) (gf := 59) (lb := #[.pointer (some ⟨w.heap.size + 1, 0, none⟩)]) rfl trivial (enters_of Tryz.func59 (by kernel_rfl) rfl)
    (parts_stops (nb := w.heap.size) ((hT.keep u1).keep u2) (fun b hb e => by omega) (by simp; omega) (hB2.cell rfl)) (fun h k => h.trans k) (fun W l o o' hl ho hc hw b cs t z hn hb => ?kb) (Below.refl _ _) (fun _ => rfl)
    (fun pre W => Blk W w.heap.size #[.int .i64 (pre.length : Int)] 3 /\ pre.length <= 60 /\ Below w.heap.size w W)
    (fun c pre W => c = .exit 0 /\ Blk W w.heap.size #[.int .i64 61] 3 /\ pre.length = 61 /\ Below w.heap.size w W)
    ?own ?ownx ?start
    (fun x => { tmps := #[.pointer x0, undef, .int .i64 0, .pointer (some ⟨w.heap.size, 0, none⟩), .pointer x0, .func (.func 59) #[] #[.pointer (some ⟨w.heap.size + 1, 0, none⟩)], .pointer x, undef, undef, undef, undef, undef], defers := [] }) ?assign ?body ?done ?stop
  case kb =>
    by_cases e : b = l
    . subst e; rw [ho] at hb; cases hb; cases hc
    . rw [World.putObj_heap_other e]; exact hb
  case own =>
    rintro s A B row ⟨h1, h2, h3⟩ hg hr; refine ⟨blk_own h1 hg hr, h2, ?_⟩; exact ownFrom_below (β := List (Option Addr)) (B := w.heap.size) (w₀ := w) (Nat.le_refl _) (Nat.le_refl _) s A B row h3 hg fun r e => ⟨by have := (hr r e).1; simp at this; omega, (hr r e).2⟩
  case ownx =>
    rintro c s A B row ⟨h0, h1, h2, h3⟩ hg hr; refine ⟨h0, blk_own h1 hg hr, h2, ?_⟩; exact ownFrom_below (β := List (Option Addr)) (B := w.heap.size) (w₀ := w) (Nat.le_refl _) (Nat.le_refl _) s A B row h3 hg fun r e => ⟨by have := (hr r e).1; simp at this; omega, (hr r e).2⟩
  case start => exact ⟨hB1.upd u2 id, Nat.zero_le _, below_of_upd (u1.trans u2 fun _ _ => id)⟩
  case assign =>
    intro l x W K hK
    gi_wp2
    simpa using hK
  case body =>
    rintro l pre x W ⟨hB, hl, hb⟩ _; obtain ⟨hc, hf⟩ := box_cell hB
    have key : ∀ v, KeepsOthers W (W.setCell ⟨w.heap.size, 0, none⟩ v) /\ Below w.heap.size w (W.setCell ⟨w.heap.size, 0, none⟩ v) /\ Blk (W.setCell ⟨w.heap.size, 0, none⟩ v) w.heap.size #[v] 3 /\ KC w.heap.size W (W.setCell ⟨w.heap.size, 0, none⟩ v) := fun v => by
      refine ⟨KeepsOthers.setCell _ _ _, hb.trans ((Below.refl w.heap.size W).setCell (p := ⟨w.heap.size, 0, none⟩) (Nat.le_refl _) _), hB.set 0 v, fun b cs t z hn hh => ?_⟩; rw [heap_setCell_ne _ _ _ _ hn]; exact hh
    gi_wp2
    . have h60 : (60 : Int) < (pre.length : Int) + 1 := by assumption
      obtain ⟨k1, k2, k3, k4⟩ := key (.int .i64 ((pre.length : Int) + 1)); have e61 : (pre.length : Int) + 1 = 61 := by omega
      exact ⟨k1, rfl, by rw [<- e61]; exact k3, by rw [List.length_append]; simp; omega, k2⟩
    . have h60 : ¬ (60 : Int) < (pre.length : Int) + 1 := by omega
      have ep : ((pre.length : Int) + 1) = (((pre ++ [x]).length : Nat) : Int) := by rw [List.length_append]; rfl
      obtain ⟨k1, k2, k3, k4⟩ := key (.int .i64 ((pre.length : Int) + 1)); exact ⟨k1, k4, by rw [<- ep]; exact k3, by rw [List.length_append]; simp; omega, k2⟩
  case done =>
    rintro D ys W hD hS ⟨hB, hl, hb⟩ hK; obtain ⟨hc, hf⟩ := box_cell hB; have hD' : w.heap.size <= D := by simp at hD; omega
    have e61 : ((min (size t) 61 : Nat) : Int) = (ys.length : Int) := by omega
    gi_wp2
    refine ⟨by simp, .inl ⟨_, _, rfl, run_takeDeferred hK, ?_⟩⟩; refine ⟨_, results_tmp rfl _ _ _, ?_, ownFrom_below (β := Unit) (B := w.heap.size) (w₀ := w) (Nat.le_refl _) (Nat.le_refl _) () W _ (some D) hb (grownBy_putObj' W D _) fun r e => by cases e; exact ⟨hD', _, hK, rfl⟩⟩; exact congrArg (fun n : Int => Ending.returned (.int .i64 n)) (by omega)
  case stop =>
    rintro D c pre W hD hS ⟨rfl, hB, hl, hb⟩ hK; obtain ⟨hc, hf⟩ := box_cell hB; have hD' : w.heap.size <= D := by simp at hD; omega
    have e61 : ((min (size t) 61 : Nat) : Int) = 61 := by omega
    gi_wp2
    refine ⟨by simp, .inl ⟨_, _, rfl, run_takeDeferred hK, ?_⟩⟩; refine ⟨_, results_tmp rfl _ _ _, ?_, ownFrom_below (β := Unit) (B := w.heap.size) (w₀ := w) (Nat.le_refl _) (Nat.le_refl _) () W _ (some D) hb (grownBy_putObj' W D _) fun r e => by cases e; exact ⟨hD', _, hK, rfl⟩⟩; exact congrArg (fun n : Int => Ending.returned (.int .i64 n)) (by omega)
theorem tSize_spec {t : T} {F : Nat -> Prop} {w : World} {x : Option Addr} (ht : TyAt ids F w (.pointer x) t) :
    callC Tryz.prog 12 #[.pointer x] w fun v w' => v = .int .i64 ((min (size t) 61 : Nat) : Int) /\ Upd No w w' :=
  Calls.mono (callsIn_wide.1 (tSize_in ht)) fun e w' ⟨he, hb⟩ => by
    subst he; exact ⟨rfl, upd_of_below hb⟩
end Go.Proofs.YtdbkclnlfibgdaaGreatDoor
namespace Go.Proofs.YtdbkclnlfibgdaaGreatDoor
open Go.SX Go.Ty
theorem eqS_spec {w : World} {p q : Option Addr} {n c m d : Nat} {l k : List ByteArray} (hl : StrsAt w p l) (hn : n = l.length) (hk : StrsAt w q k) (hm : m = k.length) (hb : n <= maxLen) :
    callC Tryz.prog 69 #[.slice p n c, .slice q m d] w fun v w' => v = .bool (decide (l = k)) /\ Upd No w w' := by
  subst hn; subst hm; simp only [maxLen] at hb; refine eqS_text _ _ _ _ _ _ _ _ (brC_intro (fun hne => ⟨?_, Upd.refl _ _⟩) fun heq => ?_)
  . rw [decide_eq_false fun e => by subst e; simp at hne]
  have heq : (l.length : Int) = k.length := by simpa using heq
  refine ⟨fun n w' => ∃ i : Nat, n = i /\ i <= l.length /\ Upd No w w' /\ l.take i = k.take i, fun n _ => (l.length - n).toNat, ⟨0, rfl, Nat.zero_le _, Upd.refl _ _, rfl⟩, ?_⟩; rintro n w9 ⟨i, rfl, hi, u9, hsame⟩ _; refine brC_intro (fun hlt => ?_) fun hge => ⟨?_, u9⟩
  . have hlt : i < l.length := by have := of_decide_eq_true hlt; omega
    have hlt' : i < k.length := by omega
    refine drawC_mk fun w15 u15 _ => ⟨by omega, by omega, ?_⟩; refine strC (strs_keep hl (up u9 u15)) hlt fun a hc => ⟨by omega, by omega, ?_⟩; refine strC (strs_keep hk (up u9 u15)) hlt' fun a' hc' => ?_; rw [beq_bytes]; refine brC_intro (fun hne => ⟨?_, up u9 u15⟩) fun he => ?_
    . rw [decide_eq_false fun e => by subst e; simp at hne]
    . rw [wrap_succ (by omega)]; refine ⟨⟨i + 1, rfl, hlt, up u9 u15, ?_⟩, by dsimp only; omega⟩; rw [List.take_succ_eq_append_getElem hlt, List.take_succ_eq_append_getElem hlt', hsame]; have he : l[i] = k[i] := by simpa using he
      rw [he]
  . have hi : i = l.length := by have := of_decide_eq_false hge; omega
    have : l.length = k.length := by omega
    rw [hi, List.take_length, this, List.take_length] at hsame; rw [decide_eq_true hsame]
def FnTT (fv : Value) (f : T -> T -> Bool) (D : T -> T -> Prop) : Prop := ∀ (F G : Nat -> Prop) (w : World) (q r : Option Addr) (t u : T), D t u -> TyAt ids F w (.pointer q) t -> TyAt ids G w (.pointer r) u -> invC Tryz.prog fv #[.pointer q, .pointer r] w fun v w' => v = .bool (f t u) /\ Upd No w w'
theorem eqfT_spec {w : World} {p q : Option Addr} {n c m d : Nat} {l k : List T} {F G : Nat -> Prop} {fv : Value} (hl : TyRow ids F w (.slice p n c) l) (hk : TyRow ids G w (.slice q m d) k) (hf : FnTT fv (fun t u => decide (t = u)) fun t _ => t ∈ l) :
    callC Tryz.prog 70 #[.slice p n c, .slice q m d, fv] w fun v w' => v = .bool (decide (l = k)) /\ Upd No w w' := by
  obtain ⟨hn, hc1, hc2, _⟩ := hl.get; obtain ⟨hm, hd1, hd2, _⟩ := hk.get; subst hn; subst hm; simp only [maxLen] at hc2 hd2; refine eqfT_text _ _ _ _ _ _ _ _ _ (brC_intro (fun hne => ⟨?_, Upd.refl _ _⟩) fun heq => ?_)
  . rw [decide_eq_false fun e => by subst e; simp at hne]
  have heq : (l.length : Int) = k.length := by simpa using heq
  refine ⟨fun n w' => ∃ i : Nat, n = i /\ i <= l.length /\ Upd No w w' /\ l.take i = k.take i, fun n _ => (l.length - n).toNat, ⟨0, rfl, Nat.zero_le _, Upd.refl _ _, rfl⟩, ?_⟩; rintro n w9 ⟨i, rfl, hi, u9, hsame⟩ _; refine brC_intro (fun hlt => ?_) fun hge => ⟨?_, u9⟩
  . have hlt : i < l.length := by have := of_decide_eq_true hlt; omega
    have hlt' : i < k.length := by omega
    refine ⟨by omega, by omega, ?_⟩; refine argC (hl.keep u9) hlt fun a x hc hx => ⟨by omega, by omega, ?_⟩; refine argC (hk.keep u9) hlt' fun a' x' hc' hx' => ?_; have hinv := hf F G w9 x x' _ _ (mem_lt hlt) hx hx'; refine semVC_mono (nextVC_mono fun v w10 ⟨e, u10⟩ => ?_) _ _ hinv; refine ⟨_, e, brC_intro (fun hne => ⟨?_, up u9 u10⟩) fun he => ?_⟩
    . rw [decide_eq_false fun e => by subst e; simp at hne]
    . rw [wrap_succ (by omega)]; refine ⟨⟨i + 1, rfl, hlt, up u9 u10, ?_⟩, by dsimp only; omega⟩; rw [List.take_succ_eq_append_getElem hlt, List.take_succ_eq_append_getElem hlt', hsame]; have he : l[i] = k[i] := by simpa using he
      rw [he]
  . have hi : i = l.length := by have := of_decide_eq_false hge; omega
    have : l.length = k.length := by omega
    rw [hi, List.take_length, this, List.take_length] at hsame; rw [decide_eq_true hsame]
theorem inv_alike {q r : Option Addr} {w : World} {K : KV} (h : callC Tryz.prog 30 #[.pointer q, .pointer r] w K) : invC Tryz.prog (.func (.func 30) #[] #[]) #[.pointer q, .pointer r] w K := of_eq h (by kernel_rfl)
theorem lds_int {w : World} {a : Addr} {n : Int} (h : w.cell? a = some (.int .i64 n)) : Lds Tryz.prog 3 w a (.int .i64 n) := by
  have key : (∃ n', w.cell? a = some (.int .i64 n') /\ Value.int .i64 n' = Value.int .i64 n) = ldVC Tryz.prog 3 w a (fun v => v = .int .i64 n) := by kernel_rfl
  obtain ⟨v, rfl, hr⟩ := semR_out (ldVC_sound (of_eq ⟨_, h, rfl⟩ key)); exact hr w rfl
theorem talike_spec : ∀ (t u : T) (F G : Nat -> Prop) (w : World) (x0 x1 : Option Addr), TyAt ids F w (.pointer x0) t -> TyAt ids G w (.pointer x1) u ->
    callC Tryz.prog 30 #[.pointer x0, .pointer x1] w fun v w' => v = .bool (decide (t = u)) /\ Upd No w w' := by
  refine ind (fun u F G w x0 x1 h g => ?_) fun k nm ns ta r ihA ihR u F G w x0 x1 h g => ?_
  . obtain rfl : x0 = none := by unfold TyAt at h; cases h; rfl
    have hg := ty_isNone g; refine talike_text _ _ _ _ ⟨fun _ => False, fun _ h => h.elim, fun b w' => b = true /\ w' = w, ?_, brC_tt rfl ⟨rfl, rfl⟩⟩; rintro b w' ⟨rfl, rfl⟩ _; refine brC_tt rfl (brC_tt rfl ⟨?_, Upd.refl _ _⟩); rw [hg]; cases u <;> simp [T.isNil]
  cases u with
  | nil =>
    obtain rfl : x1 = none := by unfold TyAt at g; cases g; rfl
    obtain ⟨_, _, _, _, _, _, rfl, _⟩ := ty_opens h; refine talike_text _ _ _ _ ⟨fun _ => False, fun _ h => h.elim, fun b w' => b = true /\ w' = w, ?_, brC_ff rfl ⟨rfl, rfl⟩⟩; rintro b w' ⟨rfl, rfl⟩ _; exact brC_tt rfl (brC_ff rfl ⟨by simp, Upd.refl _ _⟩)
  | mk k' nm' ns' ta' r' =>
  obtain ⟨b, np, nc, p, c, rp, rfl, C⟩ := ty_opens h; obtain ⟨b', np', nc', p', c', rp', rfl, D⟩ := ty_opens g; refine talike_text _ _ _ _ ⟨fun w' => w' = w, ?_, fun b w' => b = false /\ w' = w, ?_, brC_ff rfl ⟨rfl, rfl⟩⟩
  rotate_left
  . rintro b w' ⟨rfl, rfl⟩ _; exact brC_ff rfl rfl
  rintro w1 rfl _; refine drawC_mk fun w3 u3 _ => ⟨fun w' => Upd No w3 w', ?_⟩; have C := C.keep u3; have D := D.keep u3; refine ptrC_some ⟨_, C.c0, fun w' u' => lds_int (cell_keep C.c0 u'), ptrC_some ⟨_, D.c0, fun w' u' => lds_int (cell_keep D.c0 u'), brC_intro (fun h1 => ?_) fun h1 => ⟨⟨⟨⟨ne_false fun e => ?_, u3⟩, trivial⟩, trivial⟩, trivial⟩⟩⟩
  rotate_left
  . cases e; simp at h1
  have h1 : k = k' := by simpa using h1
  subst h1; refine ptrC_some ⟨_, C.c1, fun w' u' => lds_str (cell_keep C.c1 u'), ptrC_some ⟨_, D.c1, fun w' u' => lds_str (cell_keep D.c1 u'), ?_⟩⟩; rw [beq_bytes]; refine brC_intro (fun h2 => ?_) fun h2 => ⟨⟨⟨⟨ne_false fun e => ?_, u3⟩, trivial⟩, trivial⟩, trivial⟩
  rotate_left
  . cases e; simp at h2
  have h2 : nm = nm' := by simpa using h2
  subst h2; refine ptrC_some ⟨_, _, _, C.c2, fun w' u' => lds_strs (cell_keep C.c2 u'), ptrC_some ⟨_, _, _, D.c2, fun w' u' => lds_strs (cell_keep D.c2 u'), ?_, trivial⟩⟩; refine callC_of (eqS_spec (strs_row C.names) rfl (strs_row D.names) rfl C.len.1) fun v w28 ⟨e, u28⟩ => ⟨_, e, u28, brC_intro (fun h3 => ?_) fun h3 => ⟨⟨⟨ne_false fun e => ?_, up u3 u28⟩, trivial⟩, trivial⟩⟩
  rotate_left
  . cases e; simp at h3
  have h3 : ns = ns' := by simpa using h3
  subst h3; have C28 := C.keep u28; have D28 := D.keep u28; refine ptrC_some ⟨_, _, _, C28.c3, fun w' u' => lds_typs (cell_keep C.c3 u'), ptrC_some ⟨_, _, _, D28.c3, fun w' u' => lds_typs (cell_keep D.c3 u'), ?_, trivial⟩⟩; refine callC_of (eqfT_spec C28.args D28.args fun F' G' w' q' r' t u ht h1 h2 => inv_alike (ihA t ht u F' G' w' q' r' h1 h2)) fun v w41 ⟨e, u41⟩ => ⟨_, e, up u28 u41, brC_intro (fun h4 => ?_) fun h4 => ⟨⟨ne_false fun e => ?_, up (up u3 u28) u41⟩, trivial⟩⟩
  rotate_left
  . cases e; simp at h4
  have h4 : ta = ta' := by simpa using h4
  subst h4; have C41 := C28.keep u41; have D41 := D28.keep u41; refine ptrC_some ⟨_, C41.c4, fun w' u' => lds_typ (cell_keep C.c4 u'), ptrC_some ⟨_, D41.c4, fun w' u' => lds_typ (cell_keep D.c4 u'), ?_, trivial⟩⟩; refine callC_of (ihR r' F G w41 rp rp' C41.ret D41.ret) fun v w50 ⟨e, u50⟩ => ⟨_, e, up (up u28 u41) u50, ?_, up (up (up u3 u28) u41) u50⟩
  congr 1
  exact decide_eq_decide.2 ⟨fun e => by rw [e], fun e => by cases e; rfl⟩
theorem tSame_spec {t u : T} {F G : Nat -> Prop} {w : World} {x0 x1 : Option Addr} (h : TyAt ids F w (.pointer x0) t) (g : TyAt ids G w (.pointer x1) u) :
    callC Tryz.prog 16 #[.pointer x0, .pointer x1] w fun v w' => v = .bool (same t u) /\ Upd No w w' := by
  rw [same_decide]; refine tSame_text _ _ _ _ (callC_of (tSize_spec h) fun v w4 ⟨e, u4⟩ => ⟨_, e, brC_intro (fun h1 => ?_) fun h1 => ⟨?_, u4⟩⟩)
  . have h1 := of_decide_eq_true h1; rw [decide_eq_true (show size t <= 60 by omega)]; refine callC_of (tSize_spec (g.keep u4)) fun v w7 ⟨e, u7⟩ => ⟨_, e, brC_intro (fun h2 => ?_) fun h2 => ⟨?_, up u4 u7⟩⟩
    . have h2 := of_decide_eq_true h2; rw [decide_eq_true (show size u <= 60 by omega)]; exact callC_of (talike_spec t u F G w7 x0 x1 (h.keep (up u4 u7)) (g.keep (up u4 u7))) fun v w8 ⟨e, u8⟩ => ⟨_, e, rfl, up (up u4 u7) u8⟩
    . have h2 := of_decide_eq_false h2; rw [decide_eq_false (show ¬ size u <= 60 by omega)]; rfl
  . have h1 := of_decide_eq_false h1; rw [decide_eq_false (show ¬ size t <= 60 by omega)]; rfl
theorem tfits_spec {t : T} {F : Nat -> Prop} {w : World} {x0 : Option Addr} (h : TyAt ids F w (.pointer x0) t) :
    callC Tryz.prog 154 #[.pointer x0] w fun v w' => ∃ p : Option Addr, v = .tuple #[.pointer p, .int .i64 (fits t).2] /\ TyAt ids F w' (.pointer p) (fits t).1 /\ Upd No w w' := by
  refine tfits_text _ _ _ (callC_of (tSize_spec h) fun v w' ⟨e, u⟩ => ⟨_, e, brC_intro (fun h1 => ?_) fun h1 => ?_⟩)
  . have h1 := of_decide_eq_true h1; have : fits t = (.nil, 3) := by unfold fits; rw [if_pos (by omega)]
    rw [this]; exact ⟨none, rfl, rfl, u⟩
  . have h1 := of_decide_eq_false h1; have : fits t = (t, 0) := by unfold fits; rw [if_neg (by omega)]
    rw [this]; exact ⟨x0, rfl, h.keep u, u⟩
def FnT (fv : Value) (f : T -> Bool) (D : T -> Prop) : Prop := ∀ (F : Nat -> Prop) (w : World) (q : Option Addr) (t : T), D t -> TyAt ids F w (.pointer q) t -> invC Tryz.prog fv #[.pointer q] w fun v w' => v = .bool (f t) /\ Upd No w w'
def FnS (fv : Value) (f : ByteArray -> Bool) (D : ByteArray -> Prop) : Prop := ∀ (w : World) (s : ByteArray), D s -> invC Tryz.prog fv #[.string s] w fun v w' => v = .bool (f s) /\ Upd No w w'
theorem cfT_spec {w : World} {p : Option Addr} {n c : Nat} {l : List T} {F : Nat -> Prop} {fv : Value} {f : T -> Bool} {D : T -> Prop} (hl : TyRow ids F w (.slice p n c) l) (hf : FnT fv f D) (hD : ∀ t ∈ l, D t) :
    callC Tryz.prog 50 #[.slice p n c, fv] w fun v w' => v = .bool (l.any f) /\ Upd No w w' := by
  obtain ⟨hn, hc1, hc2, _⟩ := hl.get; subst hn; simp only [maxLen] at hc2; refine cfT_text _ _ _ _ _ _ (ixT_text _ _ _ _ _ _ ?_); refine ⟨fun n w' => ∃ i : Nat, n = i /\ i <= l.length /\ Upd No w w' /\ ∀ t ∈ l.take i, f t = false, fun n _ => (l.length - n).toNat, ⟨0, rfl, Nat.zero_le _, Upd.refl _ _, (fun t ht => by cases ht)⟩, ?_⟩; rintro n w9 ⟨i, rfl, hi, u9, hno⟩ _; refine brC_intro (fun hlt => ?_) fun hge => ⟨_, rfl, ?_, u9⟩
  . have hlt : i < l.length := by have := of_decide_eq_true hlt; omega
    refine ⟨by omega, by omega, ?_⟩; refine argC (hl.keep u9) hlt fun a x hc hx => ?_; refine semVC_mono (nextVC_mono fun v w10 ⟨e, u10⟩ => ?_) _ _ (hf F w9 x _ (hD _ (mem_lt hlt)) hx); refine ⟨_, e, brC_intro (fun ht => ⟨_, rfl, ?_, up u9 u10⟩) fun ht => ?_⟩
    . rw [List.any_eq_true.2 ⟨_, mem_lt hlt, ht⟩]; simp
    . rw [wrap_succ (by omega)]; refine ⟨⟨i + 1, rfl, hlt, up u9 u10, fun t h => ?_⟩, by dsimp only; omega⟩; rw [List.take_succ_eq_append_getElem hlt, List.mem_append, List.mem_singleton] at h; rcases h with h | rfl
      . exact hno t h
      . exact ht
  . have hi : i = l.length := by have := of_decide_eq_false hge; omega
    rw [hi, List.take_length] at hno; have : l.any f = false := List.any_eq_false.2 fun t ht => by rw [hno t ht]; simp
    rw [this]; rfl
theorem cfS_spec {w : World} {p : Option Addr} {n c : Nat} {l : List ByteArray} {fv : Value} {f : ByteArray -> Bool} {D : ByteArray -> Prop} (hl : StrsAt w p l) (hn : n = l.length) (hb : n <= maxLen) (hf : FnS fv f D) (hD : ∀ t ∈ l, D t) :
    callC Tryz.prog 52 #[.slice p n c, fv] w fun v w' => v = .bool (l.any f) /\ Upd No w w' := by
  subst hn; simp only [maxLen] at hb; refine cfS_text _ _ _ _ _ _ (ixS_text _ _ _ _ _ _ ?_); refine ⟨fun n w' => ∃ i : Nat, n = i /\ i <= l.length /\ Upd No w w' /\ ∀ t ∈ l.take i, f t = false, fun n _ => (l.length - n).toNat, ⟨0, rfl, Nat.zero_le _, Upd.refl _ _, (fun t ht => by cases ht)⟩, ?_⟩; rintro n w9 ⟨i, rfl, hi, u9, hno⟩ _; refine brC_intro (fun hlt => ?_) fun hge => ⟨_, rfl, ?_, u9⟩
  . have hlt : i < l.length := by have := of_decide_eq_true hlt; omega
    refine ⟨by omega, by omega, ?_⟩; refine strC (strs_keep hl u9) hlt fun a hc => ?_; refine semVC_mono (nextVC_mono fun v w10 ⟨e, u10⟩ => ?_) _ _ (hf w9 _ (hD _ (List.getElem_mem hlt))); refine ⟨_, e, brC_intro (fun ht => ⟨_, rfl, ?_, up u9 u10⟩) fun ht => ?_⟩
    . rw [List.any_eq_true.2 ⟨_, List.getElem_mem hlt, ht⟩]; simp
    . rw [wrap_succ (by omega)]; refine ⟨⟨i + 1, rfl, hlt, up u9 u10, fun t h => ?_⟩, by dsimp only; omega⟩; rw [List.take_succ_eq_append_getElem hlt, List.mem_append, List.mem_singleton] at h; rcases h with h | rfl
      . exact hno t h
      . exact ht
  . have hi : i = l.length := by have := of_decide_eq_false hge; omega
    rw [hi, List.take_length] at hno; have : l.any f = false := List.any_eq_false.2 fun t ht => by rw [hno t ht]; simp
    rw [this]; rfl
theorem callC_of_calls {P : Program} {f : FuncId} {args : Array Value} {w : World} {R : Ending -> WP} {K : KV} (h : Calls P f args w R) (hk : ∀ e w', R e w' -> ∃ v, e = .returned v /\ K v w') : callC P f args w K :=
  Calls.mono h fun e w' x => by
    obtain ⟨v, rfl, k⟩ := hk e w' x; exact k
theorem dw_nil {p : UInt8 -> Bool} : ∀ l : List UInt8, l.dropWhile p = [] ↔ l.all p = true
  | [] => by simp
  | a :: l => by
    rw [List.dropWhile_cons, List.all_cons]; cases h : p a
    . simp
    . simpa using dw_nil l
theorem dw_all {p : UInt8 -> Bool} : ∀ l : List UInt8, (l.dropWhile p).all p = true ↔ l.all p = true
  | [] => by simp
  | a :: l => by
    rw [List.dropWhile_cons, List.all_cons]; cases h : p a
    . simp [h]
    . simpa using dw_all l
theorem trim_nil (s cs : List UInt8) : Lib.trimS s cs = [] ↔ s.all (cs.contains ·) = true := by
  show List.dropWhile (cs.contains ·) (List.dropWhile (cs.contains ·) s.reverse).reverse = [] ↔ _; rw [dw_nil, List.all_reverse, dw_all, List.all_reverse]
def usual : List UInt8 := [97, 98, 99, 100, 101, 102, 103, 104, 105, 106, 107, 108, 109, 110, 111, 112, 113, 114, 115, 116, 117, 118, 119, 120, 121, 122, 65, 66, 67, 68, 69, 70, 71, 72, 73, 74, 75, 76, 77, 78, 79, 80, 81, 82, 83, 84, 85, 86, 87, 88, 89, 90, 48, 49, 50, 51, 52, 53, 54, 55, 56, 57, 95]
theorem byte_all {p : UInt8 -> Bool} (h : ∀ n, n < 256 -> p (UInt8.ofNat n) = true) (c : UInt8) : p c = true := by
  have := h c.toNat c.toNat_lt
  rwa [UInt8.ofNat_toNat] at this
theorem usual_eq (c : UInt8) : usual.contains c = (letter c || digit c) := by
  have := byte_all (p := fun c => usual.contains c == (letter c || digit c)) (by decide +kernel) c; simpa using this
theorem named_eq (c : UInt8) : (usual ++ [45, 47, 46]).contains c = nameC c := by
  have := byte_all (p := fun c => (usual ++ [45, 47, 46]).contains c == nameC c) (by decide +kernel) c; simpa using this
theorem tmade_spec {s : ByteArray} {w : World} (cs : List UInt8) (most : Nat) (hc : cs.all (fun b => decide (b.toNat < 128)) = true) (hl : cs.length <= 10) (hm : most <= 1000) :
    callC Tryz.prog 51 #[.string s, .string (bs cs), .int .i64 most] w fun v w' => v = .bool (decide (1 <= s.size) && decide (s.size <= most) && (txt s).all fun c => (usual ++ cs).contains c) /\ Upd No w w' := by
  have hsz := size_txt s; have e0 : (ByteArray.mk #[]) = ByteArray.empty := rfl; refine tmade_text _ _ _ _ _ ?_; rw [e0, beq_bytes]; refine brC_intro (fun h1 => brC_intro (fun h2 => ?_) fun h2 => ⟨?_, Upd.refl _ _⟩) fun h1 => ⟨?_, Upd.refl _ _⟩
  . have h1 : s ≠ .empty := by simpa using h1
    have h2 := of_decide_eq_true h2
    have h0 : 1 <= s.size := by
      rcases Nat.eq_zero_or_pos s.size with e | e
      . exact (h1 (txt_inj (List.eq_nil_of_length_eq_zero (by omega)))).elim
      . exact e
    rw [size_bs]; have eu : (ByteArray.mk #[97, 98, 99, 100, 101, 102, 103, 104, 105, 106, 107, 108, 109, 110, 111, 112, 113, 114, 115, 116, 117, 118, 119, 120, 121, 122, 65, 66, 67, 68, 69, 70, 71, 72, 73, 74, 75, 76, 77, 78, 79, 80, 81, 82, 83, 84, 85, 86, 87, 88, 89, 90, 48, 49, 50, 51, 52, 53, 54, 55, 56, 57, 95]) = bs usual := rfl; rw [eu, <- bs_append]; refine ⟨by omega, callC_of_calls (Any.strings_Trim_laid Tryz.trimL (by kernel_rfl) s (bs (usual ++ cs)) w (by omega) (by rw [size_bs, List.length_append]; have : usual.length = 63 := rfl; omega) (ascii_of_all ?_)) fun e w' ⟨he, hb⟩ => ⟨_, he, _, rfl, ?_, ⟨hb.os, hb.tape, hb.output, hb.size, fun k hk _ => hb.block k hk⟩⟩⟩
    . show (txt (bs (usual ++ cs))).all _ = true; rw [txt_bs, List.all_append, hc]; decide
    . have et : (bs (usual ++ cs)).data.toList = usual ++ cs := txt_bs _; rw [et, beq_bytes]
      congr 1
      have ht := trim_nil s.data.toList (usual ++ cs); rw [decide_eq_true h0, decide_eq_true (show s.size <= most by omega), Bool.eq_iff_iff, decide_eq_true_eq]; constructor
      . intro h
        have : Lib.trimS s.data.toList (usual ++ cs) = [] := by
          have := congrArg txt h; simpa [txt] using this
        exact ht.1 this
      . intro h; have h' : Lib.trimS s.data.toList (usual ++ cs) = [] := ht.2 h; rw [h']; rfl
  . have h2 := of_decide_eq_false h2; rw [decide_eq_false (show ¬ s.size <= most by omega)]; simp
  . have h1 : s = .empty := by simpa using h1
    subst h1; rfl
theorem named_made (s : List UInt8) : (decide (1 <= s.length) && decide (s.length <= 161) && s.all fun c => (usual ++ [45, 47, 46]).contains c) = namedL s := by
  unfold namedL
  congr 2
  funext c
  rw [named_eq]; rfl
theorem indexByte_mem (l : List UInt8) (c : UInt8) : 0 <= Lib.indexByte l c ↔ c ∈ l := by
  induction l with
  | nil => simp [Lib.indexByte]
  | cons b l ih =>
    unfold Lib.indexByte
    by_cases e : b = c
    . subst e; simp
    . have : (b == c) = false := by simpa using e
      rw [this]
      have hlow : -1 <= Lib.indexByte l c := by
        clear ih this e
        induction l with
        | nil => simp [Lib.indexByte]
        | cons b l ih =>
          unfold Lib.indexByte; split
          . omega
          . split <;> omega
      have hne : c ≠ b := fun h => e h.symm; rw [List.mem_cons]; simp only [hne, false_or]; split
      . rename_i h; cases h
      . split
        . rename_i h; have h : Lib.indexByte l c = -1 := by simpa using h
          rw [<- ih, h]
        . rename_i h; have h : Lib.indexByte l c ≠ -1 := by simpa using h
          rw [<- ih]; omega
theorem digits_eq (c : UInt8) : ([48, 49, 50, 51, 52, 53, 54, 55, 56, 57] : List UInt8).contains c = digit c := by
  have := byte_all (p := fun c => ([48, 49, 50, 51, 52, 53, 54, 55, 56, 57] : List UInt8).contains c == digit c) (by decide +kernel) c; simpa using this
theorem letter_digit (c : UInt8) : (letter c && digit c) = false := by
  have := byte_all (p := fun c => !(letter c && digit c)) (by decide +kernel) c; revert this; cases (letter c && digit c) <;> simp
theorem tfield_spec (s : ByteArray) (w : World) : callC Tryz.prog 54 #[.string s] w fun v w' => v = .bool (fieldL (txt s)) /\ Upd No w w' := by
  have hsz := size_txt s; refine tfield_text _ _ _ (callC_of (tmade_spec (s := s) (w := w) [] 24 rfl (by decide) (by decide)) fun v w1 ⟨e, u1⟩ => ⟨_, e, ?_⟩)
  have ea : ((txt s).all fun c => (usual ++ []).contains c) = (txt s).all fun c => letter c || digit c := by
    congr 1
    funext c
    rw [List.append_nil, usual_eq]
  rw [ea]; refine brC_intro (fun h1 => ⟨by omega, by omega, ?_, ?_⟩) fun h1 => ⟨?_, u1⟩
  . simp only [Bool.and_eq_true, decide_eq_true_eq] at h1; omega
  . simp only [Bool.and_eq_true, decide_eq_true_eq] at h1; have h0 : 0 < (txt s).length := by omega
    have ex : ByteArray.extract s 0 (Int.toNat 1) = ⟨#[(txt s)[0]]⟩ := by
      apply txt_inj
      have : txt (ByteArray.extract s 0 (Int.toNat 1)) = (txt s).take 1 := by
        unfold txt; rw [ByteArray.data_extract, Array.toList_extract]; simp
      rw [this]; show _ = [(txt s)[0]]; revert h0; generalize txt s = ts; intro h0
      cases ts with
      | nil => simp at h0
      | cons a l => simp
    rw [ex]; refine callC_of_calls (Any.strings_Contains_one Tryz.containsL _ _ _) fun e w2 ⟨he, hw⟩ => ⟨_, he, _, rfl, ?_, by rw [hw]; exact u1⟩
    have hd : decide ((0 : Int) <= Lib.indexByte (ByteArray.mk #[48, 49, 50, 51, 52, 53, 54, 55, 56, 57]).data.toList (txt s)[0]) = digit (txt s)[0] := by
      rw [Bool.eq_iff_iff, decide_eq_true_eq, indexByte_mem, <- digits_eq]; simp
    rw [hd, fieldL_eq _ h0, decide_eq_true (show (txt s).length <= 24 by omega), h1.2]; have hfirst := List.all_eq_true.1 h1.2 _ (List.getElem_mem h0); have hld := letter_digit (txt s)[0]; cases hl : letter (txt s)[0] <;> cases hg : digit (txt s)[0] <;> simp_all
  . have hf : fieldL (txt s) = false := by
      refine Bool.eq_false_iff.2 fun hx => ?_; obtain ⟨h2, h3⟩ := field_all hx
      have h4 : (txt s).length <= 24 := by
        simp only [fieldL, Bool.and_eq_true, decide_eq_true_eq] at hx; exact hx.1.1
      have h5 : 1 <= (txt s).length := by
        rcases Nat.eq_zero_or_pos (txt s).length with e | e
        . exact (h3 (List.eq_nil_of_length_eq_zero e)).elim
        . exact e
      rw [h2, decide_eq_true (show 1 <= s.size by omega), decide_eq_true (show s.size <= 24 by omega)] at h1; cases h1
    rw [hf]
end Go.Proofs.YtdbkclnlfibgdaaGreatDoor
namespace Go.Proofs.YtdbkclnlfibgdaaGreatDoor
open Go.SX
theorem viewStore_drawn {P : Program} {w w1 : World} {at_ k : Addr} {u : TypeId} {v : Value} {b : Bool} {l : List Addr} (h : World.viewStore P w at_ u k v b = .ok (w1, l)) : w1.drawn = w.drawn := by
  unfold World.viewStore at h; simp only [bind, Except.bind, pure, Except.pure, throw, throwThe, MonadExceptOf.throw] at h
  repeat' split at h
  all_goals first | (cases h; rfl) | cases h
theorem farStore_drawn {P : Program} {w w1 : World} {a : Addr} {v : Value} {b : Bool} {l : List Addr} (h : World.farStore P w a v b = .ok (w1, l)) : w1.drawn = w.drawn := by
  unfold World.farStore at h; split at h
  . split at h
    . rename_i h2; cases h; exact viewStore_drawn h2
    . cases h
  . cases h
theorem ask_drawn {α : Type} : ∀ (k : Ask α) (w : World), w.drawn <= (w.ask k).2.drawn
  | .done a, w => Nat.le_refl _
  | .ask what range k, w => by
    unfold World.ask; simp only; split
    . exact ask_drawn _ w
    . exact Nat.le_trans (Nat.le_succ _) (ask_drawn (k _) { w with drawn := w.drawn + 1 })
theorem sys_drawn (w : World) (c : Sys) : w.drawn <= (w.sys c).2.drawn := by
  have := ask_drawn (Kernel.perform c w.os) w; unfold World.sys; split
  . exact Nat.le_refl _
  . rename_i h; rw [h] at this; exact this
theorem freeze_drawn (w : World) (a : Addr) (n : Nat) : (w.freeze a n).drawn = w.drawn := by
  unfold World.freeze
  first | rfl | (repeat' split) <;> rfl
theorem run_drawn {P : Program} {α : Type} : ∀ (s : Sem α) (w : World) (v : α) (w' : World), s.run P w = .ok v w' -> w.drawn <= w'.drawn := by
  intro s
  induction s with
  | pure a => intro w v w' h; cases h; exact Nat.le_refl _
  | load m a k ih =>
    intro w v w' h; unfold Sem.run at h; split at h
    . exact ih _ _ _ _ h
    . split at h
      . exact ih _ _ _ _ h
      . cases h
  | store m a x k ih =>
    intro w v w' h; cases x
    all_goals first
      | (cases h; done)
      | (simp only [Sem.run] at h
         split at h
         . split at h
           . cases h
           . have := ih _ _ _ h; exact this
         . split at h
           . rename_i h2; have := ih _ _ _ h; rw [farStore_drawn h2] at this; exact this
           . cases h)
  | new o k ih => intro w v w' h; exact ih _ { w with heap := w.heap.push o } _ _ h
  | shape r k ih => intro w v w' h; exact ih _ _ _ _ h
  | freeze a n k ih =>
    intro w v w' h; have := ih _ _ _ h; rw [freeze_drawn] at this; exact this
  | frozen a k ih => intro w v w' h; exact ih _ _ _ _ h
  | getObj r k ih =>
    intro w v w' h; unfold Sem.run at h; split at h
    . cases h
    . exact ih _ _ _ _ h
    . cases h
  | setObj r o k ih =>
    intro w v w' h; unfold Sem.run at h; split at h
    . cases h
    . exact ih { w with heap := w.heap.setIfInBounds r o } _ _ h
    . cases h
  | choose q k ih =>
    intro w v w' h; unfold Sem.run at h; split at h
    . exact ih _ _ _ _ h
    . exact Nat.le_trans (Nat.le_succ _) (ih _ _ _ _ h)
  | sys c k ih => intro w v w' h; exact Nat.le_trans (sys_drawn w c) (ih _ _ _ _ h)
  | program k ih => intro w v w' h; exact ih _ _ _ _ h
  | mark m k ih => intro w v w' h; exact ih _ _ _ h
  | halt x => intro w v w' h; cases h
theorem newC_d {w : World} {cs : Array Value} {t : TypeId} {K : Nat -> WP}
    (h : ∀ w', Blk w' w.heap.size cs t -> Upd No w w' -> w'.heap.size = w.heap.size + 1 -> w.drawn <= w'.drawn -> K w.heap.size w') : newC w (.cells cs t) K :=
  h _ (blk_alloc w cs t) (upd_alloc w _) (by simp) (Nat.le_refl _)
theorem drawC_d {w : World} {K : WP} (h : ∀ w', Upd No w w' -> w'.heap.size = w.heap.size -> w.drawn <= w'.drawn -> K w') : drawC w K :=
  h _ ⟨rfl, rfl, rfl, Nat.le_refl _, fun _ _ _ => rfl⟩ rfl (Nat.le_succ _)
theorem stC_d {w : World} {b i : Nat} {cs : Array Value} {t : TypeId} {v : Value} {K : WP} (hb : Blk w b cs t) (hi : i < cs.size)
    (h : ∀ w', Blk w' b (cs.setIfInBounds i v) t -> Upd (· = b) w w' -> w'.heap.size = w.heap.size -> w.drawn <= w'.drawn -> K w') : stC w ⟨b, i, none⟩ v K :=
  ⟨⟨cs[i], hb.cell (by simp [hi])⟩, hb.frozen i, h _ (hb.set i v) (upd_setCell w b i v) (by simp [World.setCell]) (Nat.le_refl _)⟩
end Go.Proofs.YtdbkclnlfibgdaaGreatDoor
namespace Go.Proofs.YtdbkclnlfibgdaaGreatDoor
open Go.SX Go.Ty Go.RowKit
abbrev Bld (n0 bb : Nat) (w : World) (l : List UInt8) : Prop := Lib.IsBuilderF 130 5 n0 bb (Lib.byteCells l) w
structure BStep (n0 bb : Nat) (w w' : World) : Prop where
  below : Below n0 w w'
  others : Lib.OthersKept 5 (some bb) w w'
  drawn : w.drawn <= w'.drawn
theorem BStep.refl (n0 bb : Nat) (w : World) : BStep n0 bb w w := ⟨Below.refl _ _, Lib.OthersKept.refl _ _ _, Nat.le_refl _⟩
theorem BStep.trans {n0 bb : Nat} {a b c : World} (h : BStep n0 bb a b) (k : BStep n0 bb b c) : BStep n0 bb a c := ⟨h.below.trans k.below, h.others.trans k.others, Nat.le_trans h.drawn k.drawn⟩
theorem BStep.upd {n0 bb : Nat} {a b : World} (u : Upd No a b) (hn : n0 <= a.heap.size) (hd : a.drawn <= b.drawn) : BStep n0 bb a b :=
  ⟨⟨u.os, u.tape, u.output, u.size, fun k hk => u.block k (by omega) id⟩, fun k o hk _ _ => by
    have hlt : k < a.heap.size := (Array.getElem?_eq_some_iff.1 hk).1; rw [u.block k hlt id]; exact hk, hd⟩
theorem BStep.blk {n0 bb : Nat} {w w' : World} (s : BStep n0 bb w w') {b : Nat} {cs : Array Value} {t : TypeId} (h : Blk w b cs t) (hb : b ≠ bb) (ht : t ≠ 5) : Blk w' b cs t :=
  s.others b _ h (fun e => hb (by cases e; rfl)) fun c fz e => ht (by cases e; rfl)
theorem BStep.upF {n0 bb : Nat} {w w' : World} (s : BStep n0 bb w w') : Upd (From n0) w w' := ⟨s.below.os, s.below.tape, s.below.output, s.below.size, fun b _ hb => s.below.block b (Nat.lt_of_not_le hb)⟩
theorem BStep.ty {n0 bb : Nat} {w w' : World} (s : BStep n0 bb w w') {F : Nat -> Prop} {v : Value} {t : T} (h : TyAt ids F w v t) (hF : ∀ b, F b -> b < n0) : TyAt ids F w' v t := h.upd s.upF fun b hb (e : n0 <= b) => by have := hF b hb; omega
theorem BStep.row {n0 bb : Nat} {w w' : World} (s : BStep n0 bb w w') {F : Nat -> Prop} {v : Value} {l : List T} (h : TyRow ids F w v l) (hF : ∀ b, F b -> b < n0) : TyRow ids F w' v l := h.upd s.upF fun b hb (e : n0 <= b) => by have := hF b hb; omega
theorem bld_upd {n0 bb : Nat} {w w' : World} {l : List UInt8} (h : Bld n0 bb w l) (u : Upd No w w') : Bld n0 bb w' l := by
  have key : ∀ p, Lib.BuilderAtF 130 5 n0 bb p (Lib.byteCells l) w -> Lib.BuilderAtF 130 5 n0 bb p (Lib.byteCells l) w' := fun p h => by
    have hlt := h.lt; obtain ⟨hB, v, hb, hown, hne⟩ := h; exact ⟨hB, v, (u.block bb hlt id).trans hb, hown.kept (row := none) ⟨u.os, u.tape, u.output, u.size, fun k hk _ => u.block k hk id⟩ (by cases hv : v.ownBlock <;> simp), hne⟩
  exact h.elim (fun x => .inl (key _ x)) fun x => .inr (key _ x)
theorem bld_new {w' : World} {n0 : Nat} (h : Blk w' n0 #[.pointer none, .slice none 0 0] 130) : Bld n0 n0 w' [] :=
  .inl ⟨Nat.le_refl _, _, h, ⟨rfl, .inl ⟨rfl, rfl⟩⟩, by simp [Value.ownBlock]⟩
theorem strCells_txt (s : ByteArray) : Lib.strCells s = Lib.byteCells (txt s) := rfl
theorem byteCells_append (a b : List UInt8) : Lib.byteCells a ++ Lib.byteCells b = Lib.byteCells (a ++ b) := by simp [Lib.byteCells]
theorem bcc_spec {n0 bb : Nat} {w : World} {l : List UInt8} (h : Bld n0 bb w l) :
    callC Tryz.prog 112 #[.pointer (some ⟨bb, 0, none⟩)] w fun v w' => v = .tuple #[] /\ Lib.BuilderAtF 130 5 n0 bb (.pointer (some ⟨bb, 0, none⟩)) (Lib.byteCells l) w' /\ BStep n0 bb w w' := by
  obtain ⟨j, hj, hjs⟩ := Option.map_eq_some_iff.1 Tryz.Builder_Extra_str.sizeBuilder; have hj : Tryz.prog.info? 130 = some j := hj; have hu79 : Tryz.prog.underlying 127 = some (.pointer 130) := by kernel_rfl
  have hu128 : Tryz.prog.underlying 228 = some .unsafePointer := by kernel_rfl
  rcases h with h | h
  . refine bcc_text _ _ _ (ptrC_some ⟨none, h.cell0, brC_tt rfl ?_⟩); refine ⟨_, _, Lib.run_to_unsafe w ⟨bb, 0, none⟩ hu79 hu128 hj (by rw [hjs]; decide) h.shape (Nat.zero_lt_succ 1), _, rfl, _, rfl, ?_⟩; refine ⟨_, _, Lib.run_from_unsafe w ⟨bb, 0, none⟩ hu128 hu79 hj h.shape Tryz.Builder_Extra_str.liesBuilder, _, rfl, ptrC_some ⟨⟨_, h.cell0⟩, h.frozen0, rfl, h.used _, ?_⟩⟩; exact ⟨(Below.refl n0 w).setCell (p := ⟨bb, 0, none⟩) h.1 _, (Lib.OthersKept.refl _ _ w).setCell ⟨bb, 0, none⟩ rfl _, Nat.le_refl _⟩
  . refine bcc_text _ _ _ (ptrC_some ⟨_, h.cell0, brC_ff rfl (ptrC_some ⟨_, h.cell0, ?_⟩)⟩); refine ⟨.bool false, ⟨_, rfl, brC_ff rfl ⟨rfl, h, BStep.refl _ _ _⟩⟩, fun w' _ => ?_⟩; have he := run_eql_ptr_same (P := Tryz.prog) w' ⟨bb, 0, none⟩ hu79 hj
    have e1 : (Op.equal 127 (.pointer (some ⟨bb, 0, none⟩)) (.pointer (some ⟨bb, 0, none⟩))).run Tryz.prog w' = .ok true w' := by
      have : binOp .eql 127 (.pointer (some ⟨bb, 0, none⟩)) (.pointer (some ⟨bb, 0, none⟩)) = Op.equal 127 (.pointer (some ⟨bb, 0, none⟩)) (.pointer (some ⟨bb, 0, none⟩)) >>= fun b => pure (Value.bool b) := rfl; rw [this, Sem.run_bind] at he
      cases hr : (Op.equal 127 (.pointer (some ⟨bb, 0, none⟩)) (.pointer (some ⟨bb, 0, none⟩))).run Tryz.prog w' with
      | halt x y => rw [hr] at he; cases he
      | ok b y =>
        rw [hr, Result.andThen_ok, Sem.run_pure] at he; cases he; rfl
    show ((pure () : Sem Unit) >>= fun _ => Op.equal 127 (.pointer (some ⟨bb, 0, none⟩)) (.pointer (some ⟨bb, 0, none⟩)) >>= fun b => pure (Value.bool !b)).run Tryz.prog w' = _; rw [Sem.run_bind, Sem.run_pure, Result.andThen_ok, Sem.run_bind, e1]; rfl
theorem bws_spec {n0 bb : Nat} {w : World} {l : List UInt8} (h : Bld n0 bb w l) (s : ByteArray) (hl : l.length + s.size <= 1000000) (hn : n0 <= w.heap.size) :
    callC Tryz.prog 62 #[.pointer (some ⟨bb, 0, none⟩), .string s] w fun v w' => v = .tuple #[.int .i64 s.size, .nilIface] /\ Bld n0 bb w' (l ++ txt s) /\ BStep n0 bb w w' := by
  obtain ⟨i0, hi, hz0, hz1, hz2⟩ := info_parts Tryz.Builder_Extra_str.infoByte; have hu22 : Tryz.prog.underlying 128 = some (.slice 5) := by kernel_rfl
  have hu9 : Tryz.prog.underlying 9 = some .string := by kernel_rfl
  refine bws_text _ _ _ _ (callC_of (bcc_spec h) fun v w1 ⟨e, h1, s1⟩ => ⟨e, ?_⟩); obtain ⟨hB, v, hbk, hown, hne⟩ := h1; have hlen : (Lib.byteCells l).length = l.length := Lib.byteCells_length l
  obtain ⟨p3, k4, k5, rfl⟩ : ∃ p3 k4 k5, v = .slice p3 k4 k5 := by
    rcases hown.2 with ⟨hv, _⟩ | ⟨g, cap, cur, fz, hv, _⟩
    . exact ⟨_, _, _, hv⟩
    . exact ⟨_, _, _, hv⟩
  have hw1 := s1.below.size; obtain ⟨v', w2, hrun, hown', hgrow, _⟩ := Lib.run_append_own_stringF (P := Tryz.prog) w1 n0 128 9 128 5 i0 hu22 hu9 hi hz0 hz1 hz2 _ _ _ hown s (by simp only [maxLen]; omega) (by omega) (by omega); have hlt : bb < w1.heap.size := (Array.getElem?_eq_some_iff.1 hbk).1
  have hb2 : w2.heap[bb]? = some (.cells #[.pointer (some ⟨bb, 0, none⟩), .slice p3 k4 k5] 130 (0, 0)) := by
    rw [hgrow.block bb hlt (fun e => hne e.symm)]; exact hbk
  have B2 : Blk w2 bb #[.pointer (some ⟨bb, 0, none⟩), .slice p3 k4 k5] 130 := hb2
  obtain ⟨p8, k9, k10, rfl⟩ : ∃ p3 k4 k5, v' = .slice p3 k4 k5 := by
    rcases hown'.2 with ⟨hv, _⟩ | ⟨g, cap, cur, fz, hv, _⟩
    . exact ⟨_, _, _, hv⟩
    . exact ⟨_, _, _, hv⟩
  refine ptrC_some ⟨p3, k4, k5, by rw [add_mk]; exact (show Blk w1 bb _ _ from hbk).cell rfl, _, _, hrun, p8, k9, k10, rfl, ptrC_some ?_⟩; rw [add_mk]; refine ⟨⟨_, B2.cell rfl⟩, B2.frozen _, rfl, .inr ?_, ?_⟩
  . have := Lib.BuilderAtF.put (T := 130) (e := 5) hB hb2 (bs' := Lib.byteCells l ++ Lib.strCells s) (by simpa [Lib.strCells_length] using hown') (by decide); rw [strCells_txt, byteCells_append] at this; exact this
  . have hd := run_drawn _ _ _ _ hrun; refine s1.trans ⟨?_, ?_, hd⟩
    . exact ((Below.refl n0 w1).grown hgrow (by omega) (fun k hk => (hown.lt k hk).1)).setCell (p := ⟨bb, 1, none⟩) hB _
    . exact ((Lib.OthersKept.refl _ _ w1).grown hgrow (Lib.ownsRowF_kind hown)).setCell ⟨bb, 1, none⟩ rfl _
theorem string_d {P : Program} {ρ : Go.Shelf.Ren} (L : Lays.n169 P ρ) (X : Builder.Extra P ρ) (B b : Nat) (l : List UInt8) (w : World) (h : Lib.IsBuilderF (ρ.t 72) (ρ.t 5) B b (Lib.byteCells l) w) (h0 : l ≠ []) :
    Calls P (ρ.f 169) #[.pointer (some ⟨b, 0, none⟩)] w fun e w' => e = .returned (.string ⟨l.toArray⟩) /\ Below B w w' /\ w.drawn <= w'.drawn := by
  obtain ⟨p, hp, hAt⟩ : ∃ p, (p = .pointer none \/ p = .pointer (some ⟨b, 0, none⟩)) /\ Lib.BuilderAtF (ρ.t 72) (ρ.t 5) B b p (Lib.byteCells l) w := by
    rcases h with h | h
    . exact ⟨_, .inl rfl, h⟩
    . exact ⟨_, .inr rfl, h⟩
  obtain ⟨hB, v, hbk, hown, hne⟩ := hAt; have hl0 : l.length ≠ 0 := by simpa using h0
  rw [Lib.byteCells_length] at hown
  obtain ⟨g, cap, cur, fz, rfl, hbg, hg, hfz, hnc, hcm, hcs, htake⟩ : ∃ g cap cur fz, v = .slice (some ⟨g, 0, none⟩) l.length cap /\ B <= g /\ w.heap[g]? = some (.cells cur (ρ.t 5) fz) /\ fz.2 <= l.length * 1 /\ l.length <= cap /\ cap <= maxLen /\ cur.size = cap * 1 /\ cur.toList.take (l.length * 1) = Lib.byteCells l := by
    rcases hown.2 with ⟨_, hz⟩ | ⟨g, cap, cur, fz, hv, r⟩
    . exact absurd hz hl0
    . exact ⟨g, cap, cur, fz, hv, r⟩
  have c1 : w.drew.cell? ⟨b, 1, none⟩ = some (.slice (some ⟨g, 0, none⟩) l.length cap) := by
    have : w.drew.heap[b]? = some (.cells #[p, .slice (some ⟨g, 0, none⟩) l.length cap] (ρ.t 72) (0, 0)) := hbk; rw [Lib.cell_of_heap this]; rfl
  have hSD : (Builtin.unsafeSliceData_ #[(ρ.t 37)] (ρ.t 127) #[.slice (some ⟨g, 0, none⟩) l.length cap]).run P w.drew = .ok (.pointer (some ⟨g, 0, none⟩)) w.drew :=
    Lib.run_unsafeSliceData_row _ _ _ _ _ _ (by omega)
  have hUS : (Builtin.unsafeString_ #[(ρ.t 127), (ρ.t 3)] (ρ.t 9) #[.pointer (some ⟨g, 0, none⟩), .int .i64 l.length]).run P w.drew = .ok (.string ⟨l.toArray⟩) (w.drew.freeze ⟨g, 0, none⟩ l.length) := by
    refine Lib.run_unsafeString_row w.drew (ρ.t 127) (ρ.t 3) (ρ.t 9) (ρ.t 5) L.t127 X.cellsByte g cur.size (by have hg' : w.drew.heap[g]? = some (.cells cur (ρ.t 5) fz) := hg; simp [World.shape?, hg']) l h0 (by omega) (by unfold maxLen at hcm; omega) ?_; intro j x hx; have := hown.cells (g := g) rfl j (.int .u8 x.toNat) (by simp [Lib.byteCells, hx]); exact this
  have hdr : w.drawn <= (w.drew.freeze ⟨g, 0, none⟩ l.length).drawn := by rw [freeze_drawn]; exact Nat.le_succ _
  have mixed := L.mixed; have t72 := L.t72; have a72 := L.a72; have z72 := L.z72; have v72 := L.v72; have u72 := run_underlying L.t72; have t70 := L.t70; have a70 := L.a70; have z70 := L.z70; have v70 := L.v70; have u70 := run_underlying L.t70; have t37 := L.t37; have a37 := L.a37; have z37 := L.z37; have v37 := L.v37; have u37 := run_underlying L.t37; have t127 := L.t127; have a127 := L.a127; have z127 := L.z127; have v127 := L.v127; have u127 := run_underlying L.t127; have t3 := L.t3; have a3 := L.a3; have z3 := L.z3; have v3 := L.v3; have u3 := run_underlying L.t3; have t9 := L.t9; have a9 := L.a9; have z9 := L.z9; have v9 := L.v9; have u9 := run_underlying L.t9; have t5 := X.t5; have a5 := X.a5; have z5 := X.z5; have v5 := X.v5; have u5 := run_underlying X.t5
  go_enter L.f169, Body.n169_ntmps ρ
  go_wp2
  go_region_o
  all_goals (go_wp2; go_ret; exact ⟨rfl, Lib.below_freeze (Below.drew (Below.refl B w)) (p := ⟨g, 0, none⟩) hbg _, hdr⟩)
theorem bstr_spec {n0 bb : Nat} {w : World} {l : List UInt8} (h : Bld n0 bb w l) (h0 : l ≠ []) :
    callC Tryz.prog 68 #[.pointer (some ⟨bb, 0, none⟩)] w fun v w' => v = .string (bs l) /\ Below n0 w w' /\ w.drawn <= w'.drawn :=
  callC_of_calls (string_d Tryz.strL Tryz.Builder_Extra_str n0 bb l w h h0) fun e w' ⟨he, h1, h2⟩ => ⟨_, he, rfl, h1, h2⟩
abbrev pv (b : Nat) : Value := .pointer (some ⟨b, 0, none⟩)
structure WEnv (bb k4 k7 k2 : Nat) (w : World) : Prop where
  list : Blk w k4 #[.func (.func 61) #[] #[pv bb, pv k2]] 135
  none : Blk w k7 #[.func (.func 63) #[] #[]] 132
  one : Blk w k2 #[.func (.func 64) #[] #[pv bb, pv k4, pv k7, pv k2]] 131
  ne : k4 ≠ bb /\ k7 ≠ bb /\ k2 ≠ bb
theorem WEnv.step {n0 bb k4 k7 k2 : Nat} {w w' : World} (h : WEnv bb k4 k7 k2 w) (s : BStep n0 bb w w') : WEnv bb k4 k7 k2 w' :=
  ⟨s.blk h.list h.ne.1 (by decide), s.blk h.none h.ne.2.1 (by decide), s.blk h.one h.ne.2.2 (by decide), h.ne⟩
theorem BStep.size {n0 bb : Nat} {w w' : World} (s : BStep n0 bb w w') : w.heap.size <= w'.heap.size := s.below.size
def OneOk (n0 bb k4 k7 k2 : Nat) (t : T) : Prop :=
  ∀ (F : Nat -> Prop) (w : World) (q : Option Addr) (l : List UInt8), TyAt ids F w (.pointer q) t -> (∀ b, F b -> b < n0) -> WEnv bb k4 k7 k2 w -> Bld n0 bb w l -> l.length + (write t).length <= 900000 -> n0 <= w.heap.size ->
    callC Tryz.prog 64 #[.pointer q, pv bb, pv k4, pv k7, pv k2] w fun v w' => v = .tuple #[] /\ Bld n0 bb w' (l ++ write t) /\ BStep n0 bb w w'
def FnI (n0 bb : Nat) (w0 : World) (fv : Value) (A : Nat -> List UInt8) (n : Nat) : Prop :=
  ∀ (w' : World) (i : Nat), BStep n0 bb w0 w' -> i < n -> invC Tryz.prog fv #[.int .i64 i] w' fun v w'' => v = .string (bs (A i)) /\ Upd No w' w'' /\ w'.drawn <= w''.drawn
theorem inv_one {bb k4 k7 k2 : Nat} {q : Option Addr} {w : World} {K : KV} (h : callC Tryz.prog 64 #[.pointer q, pv bb, pv k4, pv k7, pv k2] w K) :
    invC Tryz.prog (.func (.func 64) #[] #[pv bb, pv k4, pv k7, pv k2]) #[.pointer q] w K := of_eq h (by kernel_rfl)
theorem inv_list {bb k2 : Nat} {a b c d : Value} {w : World} {K : KV} (h : callC Tryz.prog 61 #[a, b, c, d, pv bb, pv k2] w K) :
    invC Tryz.prog (.func (.func 61) #[] #[pv bb, pv k2]) #[a, b, c, d] w K := of_eq h (by kernel_rfl)
theorem fnI_none {n0 bb : Nat} {w0 : World} {n : Nat} : FnI n0 bb w0 (.func (.func 63) #[] #[]) (fun _ => []) n := fun w' i _ _ => by
  have h : callC Tryz.prog 63 #[.int .i64 i] w' fun v w'' => v = .string (bs []) /\ Upd No w' w'' /\ w'.drawn <= w''.drawn := tw2_text _ _ _ ⟨rfl, Upd.refl _ _, Nat.le_refl _⟩; exact of_eq h (by kernel_rfl)
def pieces (A B : Nat -> List UInt8) (l : List T) : List (List UInt8) := (List.range l.length).map fun i => A i ++ write (l.getD i .nil) ++ B i
theorem pieces_len (A B : Nat -> List UInt8) (l : List T) : (pieces A B l).length = l.length := by simp [pieces]
theorem pieces_get (A B : Nat -> List UInt8) (l : List T) {i : Nat} (h : i < l.length) : (pieces A B l)[i]'(by rw [pieces_len]; exact h) = A i ++ write l[i] ++ B i := by
  simp [pieces, List.getD_eq_getElem?_getD, h]
theorem tw1_spec {n0 bb k4 k7 k2 : Nat} {l : List T} {sep : List UInt8} {A B : Nat -> List UInt8} {fa fb : Value} {F : Nat -> Prop} {w : World} {p : Option Addr} {n c : Nat} {pre : List UInt8}
    (H : ∀ t ∈ l, OneOk n0 bb k4 k7 k2 t) (hl : TyRow ids F w (.slice p n c) l) (hF : ∀ b, F b -> b < n0) (hE : WEnv bb k4 k7 k2 w) (hb : Bld n0 bb w pre) (ha : FnI n0 bb w fa A l.length) (hbh : FnI n0 bb w fb B l.length)
    (hlen : pre.length + (join sep (pieces A B l)).length <= 900000) (hsep : sep.length <= 10) (hn0 : n0 <= w.heap.size) :
    callC Tryz.prog 61 #[.slice p n c, .string (bs sep), fa, fb, pv bb, pv k2] w fun v w' => v = .tuple #[] /\ Bld n0 bb w' (pre ++ join sep (pieces A B l)) /\ BStep n0 bb w w' := by
  obtain ⟨hn, hc1, hc2, _⟩ := hl.get; subst hn; simp only [maxLen] at hc2; generalize hP : pieces A B l = ps at hlen ⊢; have hpl : ps.length = l.length := by rw [<- hP]; exact pieces_len _ _ _
  have hpg : ∀ i, (h : i < l.length) -> ps[i]'(by omega) = A i ++ write l[i] ++ B i := fun i h => by
    have := pieces_get A B l h; simp only [hP] at this; exact this
  refine tw1_text _ _ _ _ _ _ _ _ _ _ _ _ ⟨fun j w' => ∃ i : Nat, j = i /\ i <= l.length /\ Bld n0 bb w' (pre ++ join sep (ps.take i)) /\ BStep n0 bb w w', fun j _ => (l.length - j).toNat,
    ⟨0, rfl, Nat.zero_le _, by simpa [join] using hb, BStep.refl _ _ _⟩, ?_⟩
  rintro j w3 ⟨i, rfl, hi, hb3, s3⟩ _; refine brC_intro (fun hlt => ?_) fun hge => ⟨rfl, ?_, s3⟩
  rotate_left
  . have hi : i = l.length := by have := of_decide_eq_false hge; omega
    rw [hi, <- hpl, List.take_length] at hb3; exact hb3
  have hlt : i < l.length := by have := of_decide_eq_true hlt; omega
  have hip : i < ps.length := by omega
  have hle := preJ_le sep ps hip; rw [hpg i hlt] at hle; simp only [List.length_append] at hle; have hn3 := s3.size; refine ⟨fun w' => Bld n0 bb w' (pre ++ join sep (ps.take (i + 1))) /\ BStep n0 bb w w', ?_, ⟨by omega, by omega, ?_⟩⟩
  . rintro w6 ⟨hb6, s6⟩ _; rw [wrap_succ (by omega)]; exact ⟨⟨i + 1, rfl, hlt, hb6, s6⟩, by dsimp only; omega⟩
  refine argC (s3.row hl hF) hlt fun a x hc hx => ⟨fun w' => Bld n0 bb w' (pre ++ preJ sep ps i) /\ BStep n0 bb w3 w', ?_, ?_⟩
  . rintro w11 ⟨hb11, s11⟩ _; have S11 := s3.trans s11; have hn11 := S11.size; refine semVC_mono (nextVC_mono fun v w14 ⟨e, u14, d14⟩ => ?_) _ _ (ha w11 i S11 hlt); refine ⟨_, e, ?_⟩; have hn14 := u14.size; have st14 := BStep.upd (bb := bb) u14 (by omega : n0 <= w11.heap.size) d14; refine callC_of (bws_spec (bld_upd hb11 u14) (bs (A i)) (by rw [size_bs, List.length_append]; omega) (by omega)) fun v w17 ⟨e, hb17, s17⟩ => ⟨_, _, e, ?_⟩; have S17 := (S11.trans st14).trans s17; have hn17 := S17.size; refine ⟨_, (hE.step S17).one.cell rfl, inv_one ?_⟩; rw [txt_bs] at hb17; have hx17 := ((s11.trans st14).trans s17).ty hx hF; refine callC_of (H _ (mem_lt hlt) F w17 x _ hx17 hF (hE.step S17) hb17 (by simp only [List.length_append]; omega) (by omega)) fun v w22 ⟨e, hb22, s22⟩ => ⟨e, ?_⟩; have S22 := S17.trans s22; have hn22 := S22.size; refine semVC_mono (nextVC_mono fun v w24 ⟨e, u24, d24⟩ => ?_) _ _ (hbh w22 i S22 hlt); refine ⟨_, e, ?_⟩; have hn24 := u24.size; refine callC_of (bws_spec (bld_upd hb22 u24) (bs (B i)) (by rw [size_bs]; simp only [List.length_append]; omega) (by omega)) fun v w27 ⟨e, hb27, s27⟩ => ⟨_, _, e, ?_, (S22.trans (BStep.upd u24 (by omega) d24)).trans s27⟩; rw [txt_bs] at hb27; rw [<- preJ_succ sep ps hip, hpg i hlt]; simpa only [List.append_assoc] using hb27
  . refine brC_intro (fun h0 => ?_) fun h0 => ⟨?_, BStep.refl _ _ _⟩
    . have h0 : 0 < i := by have := of_decide_eq_true h0; omega
      have hj := join_take_le sep ps i; refine callC_of (bws_spec hb3 (bs sep) (by rw [size_bs, List.length_append]; omega) (by omega)) fun v w31 ⟨e, hb31, s31⟩ => ⟨_, _, e, ?_, s31⟩; rw [txt_bs] at hb31; unfold preJ; rw [if_pos h0]; simpa only [List.append_assoc] using hb31
    . have h0 : ¬ 0 < i := by have := of_decide_eq_false h0; omega
      unfold preJ; rw [if_neg h0]; exact hb3
theorem lds_list {w : World} {a : Addr} {v : Value} (h : w.cell? a = some v) : Lds Tryz.prog 135 w a v := by
  have key : (∃ v', w.cell? a = some v' /\ v' = v) = ldVC Tryz.prog 135 w a (fun x => x = v) := by kernel_rfl
  obtain ⟨v, rfl, hr⟩ := semR_out (ldVC_sound (of_eq ⟨_, h, rfl⟩ key)); exact hr w rfl
theorem pieces_map {α : Type} (A B : Nat -> List UInt8) (l : List T) (xs : List α) (E : α -> List UInt8) (hl : xs.length = l.length) (h : ∀ i, (h1 : i < l.length) -> E (xs[i]'(by omega)) = A i ++ write l[i] ++ B i) : pieces A B l = xs.map E := by
  apply List.ext_getElem
  . rw [pieces_len, List.length_map, hl]
  . intro i h1 h2; rw [pieces_len] at h1; rw [pieces_get A B l h1, List.getElem_map, h i h1]
theorem fnI_name {n0 bb k0 : Nat} {w0 : World} {x : Option Addr} {F : Nat -> Prop} {k : Int} {nm : ByteArray} {ns : List ByteArray} {ta : List T} {r : T} (hk : Blk w0 k0 #[.pointer x] 29) (hne : k0 ≠ bb)
    (h : TyAt ids F w0 (.pointer x) (.mk k nm ns ta r)) (hF : ∀ b, F b -> b < n0) (hs : ∀ s ∈ ns, s.size <= 1000) : FnI n0 bb w0 (.func (.func 65) #[] #[pv k0]) (fun i => txt (ns.getD i .empty) ++ [58, 32]) ns.length := fun w' i s hi => by
  have hB := s.blk hk hne (by decide); obtain ⟨b, np, nc, p, c, rp, rfl, C⟩ := ty_opens (s.ty h hF)
  have hg : callC Tryz.prog 65 #[.int .i64 i, pv k0] w' fun v w'' => v = .string (bs (txt (ns.getD i .empty) ++ [58, 32])) /\ Upd No w' w'' /\ w'.drawn <= w''.drawn := by
    refine tw31_text _ _ _ _ _ ⟨_, hB.cell rfl, ptrC_some ⟨_, _, _, C.c2, ⟨by omega, by omega, ?_⟩⟩⟩; refine nameC' C.names hi fun a hc => ⟨?_, ?_, Upd.refl _ _, Nat.le_refl _⟩
    . have := hs _ (List.getElem_mem hi); omega
    . have e2 : (ByteArray.mk #[58, 32]) = bs [58, 32] := rfl; have e3 : ns.getD i .empty = ns[i] := by simp [List.getD_eq_getElem?_getD, hi]
      rw [e2, e3, bs_append, bs_txt]
  exact of_eq hg (by kernel_rfl)
theorem fnI_mark {n0 bb k0 kb : Nat} {w0 : World} {x : Option Addr} {F : Nat -> Prop} {k : Int} {nm : ByteArray} {ns : List ByteArray} {ta : List T} {r : T} (m : List UInt8) (hk : Blk w0 k0 #[.pointer x] 29) (hne : k0 ≠ bb)
    (hkb : Blk w0 kb #[.string (bs m)] 9) (hnb : kb ≠ bb) (h : TyAt ids F w0 (.pointer x) (.mk k nm ns ta r)) (hF : ∀ b, F b -> b < n0) (hm : ∀ a ∈ ta, a.isNil = false) :
    FnI n0 bb w0 (.func (.func 67) #[] #[pv k0, pv kb]) (fun i => if (ta.getD i .nil).kind = 8 then m else []) ta.length := fun w' i s hi => by
  have hB := s.blk hk hne (by decide); have hB2 := s.blk hkb hnb (by decide); obtain ⟨b, np, nc, p, c, rp, rfl, C⟩ := ty_opens (s.ty h hF)
  have hg : callC Tryz.prog 67 #[.int .i64 i, pv k0, pv kb] w' fun v w'' => v = .string (bs (if (ta.getD i .nil).kind = 8 then m else [])) /\ Upd No w' w'' /\ w'.drawn <= w''.drawn := by
    refine tw321_text _ _ _ _ _ _ _ ⟨_, hB.cell rfl, ptrC_some ⟨_, _, _, C.c3, ⟨by omega, by omega, ?_⟩⟩⟩; refine argC C.args hi fun a q hc hq => ?_; obtain ⟨g, rfl, hkc⟩ := kindC hq (hm _ (mem_lt hi)); have e3 : ta.getD i .nil = ta[i] := by simp [List.getD_eq_getElem?_getD, hi]
    rw [e3]; refine ptrC_some ⟨_, hkc, brC_intro (fun h8 => ⟨_, hB2.cell rfl, ?_, Upd.refl _ _, Nat.le_refl _⟩) fun h8 => ⟨?_, Upd.refl _ _, Nat.le_refl _⟩⟩
    . rw [if_pos (by simpa using h8)]
    . rw [if_neg (by simpa using h8)]; rfl
  exact of_eq hg (by kernel_rfl)
theorem word_run (k : Int) (h1 : 1 <= k) (h5 : k <= 5) (w : World) : (Instr.index 137 (.agg #[.string (ByteArray.mk #[]), .string (ByteArray.mk #[97, 110, 121]), .string (ByteArray.mk #[105, 110, 116]), .string (ByteArray.mk #[98, 111, 111, 108]), .string (ByteArray.mk #[115, 116, 114]), .string (ByteArray.mk #[110, 105, 108])]) (.int .i64 k)).run Tryz.prog w = .ok (.string (bs (word k))) w := by
  have hk : k = 1 \/ k = 2 \/ k = 3 \/ k = 4 \/ k = 5 := by omega
  rcases hk with rfl | rfl | rfl | rfl | rfl <;> (show Sem.run _ _ _ = _; kernel_rfl)
theorem tw3_spec {n0 bb k4 k7 k2 : Nat} : ∀ t : T, may t = true -> size t <= 60 -> OneOk n0 bb k4 k7 k2 t := by
  refine ind (fun h => by cases h) fun k nm ns ta r ihA ihR hm hs F w q l h hF hE hb hlen hn0 => ?_; obtain ⟨b, np, nc, p, c, rp, rfl, C⟩ := ty_opens h; have hbb : bb < w.heap.size := by rcases hb with h | h <;> exact h.lt
  have hsa := fun a (ha : a ∈ ta) => small_args (t := .mk k nm ns ta r) ha hs; have hln : ta.length <= 60 := len_args hm hs; have hw := write_len _ hm; refine tw3_text _ _ _ _ _ _ _ _ _ _ _ (newC_d fun w1 B1 u1 s1 d1 => ⟨_, B1.cell rfl, ?_⟩); have st1 := BStep.upd (n0 := n0) (bb := bb) u1 hn0 d1; have C := C.keep u1; have h1 := h.keep u1; have hE1 := hE.step st1; have hb1 := bld_upd hb u1; have hk0 : w.heap.size ≠ bb := by omega
  refine ptrC_some ⟨k, C.c0, ?_⟩
  cases Go.Ty.shape hm with
  | basic _ h1' h5 =>
    refine brC_ff (by simp; omega) (brC_ff (by simp; omega) (brC_ff (by simp; omega) (brC_ff (by simp; omega) ⟨_, B1.cell rfl, ptrC_some ⟨k, C.c0, .string (bs (word k)), ⟨_, rfl, ?_⟩, fun w' _ => word_run k h1' h5 w'⟩⟩))); rw [write_basic h1' h5] at hlen ⊢; refine callC_of (bws_spec hb1 (bs (word k)) (by rw [size_bs]; omega) (by omega)) fun v w9 ⟨e, hb9, s9⟩ => ⟨_, _, e, rfl, ?_, st1.trans s9⟩; rw [txt_bs] at hb9; exact hb9
  | name _ hn =>
    refine brC_tt rfl ⟨_, B1.cell rfl, ptrC_some ⟨_, C.c1, ?_⟩⟩; rw [write_name] at hlen ⊢; exact callC_of (bws_spec hb1 nm (by rw [size_txt]; omega) (by omega)) fun v w9 ⟨e, hb9, s9⟩ => ⟨_, _, e, rfl, hb9, st1.trans s9⟩
  | record _ _ hl hf hr ha =>
    refine brC_ff rfl (brC_tt rfl ?_); rw [write_rec] at hlen ⊢
    have hpc : pieces (fun i => txt (ns.getD i .empty) ++ [58, 32]) (fun _ => []) ta = (ns.zip ta).map fun x => txt x.1 ++ [58, 32] ++ write x.2 := by
      refine pieces_map _ _ _ _ _ (by simp [hl]) fun i hi => ?_; have hin : i < ns.length := by omega
      simp [List.getD_eq_getElem?_getD, hin]
    rw [<- hpc] at hlen ⊢; simp only [List.length_cons, List.length_append, List.length_nil] at hlen; refine callC_of (bws_spec hb1 (bs [123]) (by rw [size_bs]; simp only [List.length_cons, List.length_nil]; omega) (by omega)) fun v w13 ⟨e, hb13, s13⟩ => ⟨_, _, e, drawC_d fun w16 u16 _ d16 => ?_⟩; have hz13 := (st1.trans s13).size; have S16 := (s13.trans (BStep.upd u16 (by omega) d16)); have hE16 := hE1.step S16; have B16 := S16.blk B1 hk0 (by decide); have h16 := S16.ty h1 hF; obtain ⟨_, _, _, p', c', _, e', C16⟩ := ty_opens h16; cases e'; have hz16 := u16.size
    have hfs : ∀ s ∈ ns, s.size <= 1000 := fun s hs' => by
      have := List.all_eq_true.1 hf s hs'; simp only [fieldL, Bool.and_eq_true, decide_eq_true_eq] at this; rw [size_txt]; omega
    refine ⟨_, hE16.list.cell rfl, _, B16.cell rfl, ptrC_some ⟨_, _, _, C16.c3, _, hE16.none.cell rfl, inv_list ?_⟩⟩; rw [txt_bs] at hb13; have hfn := fnI_name (bb := bb) B16 hk0 h16 hF hfs; rw [hl] at hfn; refine callC_of (tw1_spec (sep := [44, 32]) (fun t ht => ihA t ht (ha t ht) (hsa t ht)) C16.args hF hE16 (bld_upd hb13 u16) hfn fnI_none (by rw [List.length_append]; simp only [List.length_cons, List.length_nil]; omega) (by decide) (by omega)) fun v w25 ⟨e, hb25, s25⟩ => ⟨e, ?_⟩; have hz25 := s25.size; refine callC_of (bws_spec hb25 (bs [125]) (by rw [size_bs]; simp only [List.length_cons, List.length_nil, List.length_append]; omega) (by omega)) fun v w27 ⟨e, hb27, s27⟩ => ⟨_, _, e, rfl, ?_, ((st1.trans S16).trans s25).trans s27⟩; rw [txt_bs] at hb27; simpa only [List.append_assoc, List.singleton_append, List.cons_append, List.nil_append] using hb27
  | fn _ _ ha hr =>
    refine brC_ff rfl (brC_ff rfl (brC_tt rfl ?_)); rw [write_fun] at hlen ⊢; have hpc : pieces (fun _ => []) (fun _ => []) ta = ta.map write := pieces_map _ _ _ _ _ rfl fun i hi => by simp
    rw [<- hpc] at hlen ⊢; simp only [List.length_cons, List.length_append, List.length_nil] at hlen; refine callC_of (bws_spec hb1 (bs [102, 110, 40]) (by rw [size_bs]; simp only [List.length_cons, List.length_nil]; omega) (by omega)) fun v w13 ⟨e, hb13, s13⟩ => ⟨_, _, e, drawC_d fun w16 u16 _ d16 => ?_⟩; have hz13 := (st1.trans s13).size; have S16 := (s13.trans (BStep.upd u16 (by omega) d16)); have hE16 := hE1.step S16; have B16 := S16.blk B1 hk0 (by decide); have h16 := S16.ty h1 hF; obtain ⟨_, _, _, p', c', _, e', C16⟩ := ty_opens h16; cases e'; have hz16 := u16.size; refine ⟨_, hE16.list.cell rfl, _, B16.cell rfl, ptrC_some ⟨_, _, _, C16.c3, _, hE16.none.cell rfl, _, hE16.none.cell rfl, inv_list ?_⟩⟩; rw [txt_bs] at hb13; refine callC_of (tw1_spec (sep := [44, 32]) (fun t ht => ihA t ht (ha t ht) (hsa t ht)) C16.args hF hE16 (bld_upd hb13 u16) fnI_none fnI_none (by rw [List.length_append]; simp only [List.length_cons, List.length_nil]; omega) (by decide) (by omega)) fun v w25 ⟨e, hb25, s25⟩ => ⟨e, ?_⟩; have hz25 := s25.size; refine callC_of (bws_spec hb25 (bs [41, 32, 45, 62, 32]) (by rw [size_bs]; simp only [List.length_cons, List.length_nil, List.length_append]; omega) (by omega)) fun v w46 ⟨e, hb46, s46⟩ => ⟨_, _, e, drawC_d fun w49 u49 _ d49 => ?_⟩; have S46 := s25.trans s46; have hz46 := S46.size; have S49 := S46.trans (BStep.upd u49 (by omega) d49); have B49 := S49.blk B16 hk0 (by decide); have hE49 := hE16.step S49; have h49 := S49.ty h16 hF; obtain ⟨_, _, _, _, _, _, e', C49⟩ := ty_opens h49; cases e'; refine ⟨_, hE49.one.cell rfl, _, B49.cell rfl, ptrC_some ⟨_, C49.c4, inv_one ?_⟩⟩; rw [txt_bs] at hb46; have hz49 := u49.size; refine callC_of (ihR hr (by have := @size_ret 8 .empty [] ta r; omega) F w49 _ _ C49.ret hF hE49 (bld_upd hb46 u49) (by simp only [List.length_append, List.length_cons, List.length_nil]; omega) (by omega)) fun v w55 ⟨e, hb55, s55⟩ => ⟨e, rfl, ?_, ((st1.trans S16).trans S49).trans s55⟩; simpa only [List.append_assoc] using hb55
  | union _ hl hk hr ha =>
    refine brC_ff rfl (brC_ff rfl (brC_ff rfl (brC_tt rfl (drawC_d fun w56 u56 _ d56 => ⟨fun w' => BStep n0 bb w56 w', ?_⟩)))); rw [write_union] at hlen ⊢
    have hpc : pieces (fun i => if (ta.getD i .nil).kind = 8 then [40] else []) (fun i => if (ta.getD i .nil).kind = 8 then [41] else []) ta = ta.map fun a => inPar a.kind (write a) := by
      refine pieces_map _ _ _ _ _ rfl fun i hi => ?_; have e3 : ta.getD i .nil = ta[i] := by simp [List.getD_eq_getElem?_getD, hi]
      rw [e3]; unfold inPar; split <;> simp
    rw [<- hpc] at hlen ⊢; have hz56 := u56.size; have S56 := st1.trans (BStep.upd u56 (by omega) d56); have B56 := B1.upd u56 id; have h56 := h1.keep u56; have C56 := C.keep u56; have hE56 := hE.step S56; have kp : ∀ {w' : World} {a : Nat} {cs : Array Value} {t : TypeId} {i : Nat} {v : Value}, BStep n0 bb w56 w' -> Blk w56 a cs t -> a ≠ bb -> t ≠ 5 -> cs[i]? = some v -> w'.cell? ⟨a, i, none⟩ = some v := fun s hb h1 h2 h3 => (s.blk hb h1 h2).cell h3; have hbF := hF b C56.inF
    have hBb : b ≠ bb := by
      have : n0 <= bb := by rcases hb with h | h <;> exact h.1
      omega
    refine ⟨_, hE56.list.cell rfl, fun w' s' => lds_list (kp s' hE56.list hE.ne.1 (by decide) rfl), _, B56.cell rfl, fun w' s' => lds_typ (kp s' B56 hk0 (by decide) rfl), ptrC_some ⟨_, _, _, C56.c3, fun w' s' => lds_typs (by rw [add_mk]; exact kp s' C56.blk hBb (by decide) rfl), ?_, trivial⟩⟩; refine tw32_text _ _ _ _ _ (newC_d fun w68 B68 u68 s68 d68 => ⟨_, rfl, BStep.upd u68 (by omega) d68, tw32_text _ _ _ _ _ (newC_d fun w71 B71 u71 s71 d71 => ⟨_, rfl, BStep.upd (up u68 u71) (by omega) (Nat.le_trans d68 d71), inv_list ?_, trivial⟩), trivial⟩); have u71' := up u68 u71; have S71 := S56.trans (BStep.upd u71' (by omega) (Nat.le_trans d68 d71)); have hm' : ∀ a ∈ ta, a.isNil = false := fun a h => may_notNil (ha a h); have f1 := fnI_mark (bb := bb) [40] (B56.upd u71' id) hk0 (B68.upd u71 id) (by omega) (h56.keep u71') hF hm'; have f2 := fnI_mark (bb := bb) [41] (B56.upd u71' id) hk0 B71 (by omega) (h56.keep u71') hF hm'; refine callC_of (tw1_spec (sep := [32, 124, 32]) (fun t ht => ihA t ht (ha t ht) (hsa t ht)) (C56.keep u71').args hF (hE.step S71) (bld_upd (bld_upd hb1 u56) u71') f1 f2 (by omega) (by decide) (by omega)) fun v w74 ⟨e, hb74, s74⟩ => ⟨e, (BStep.upd u71' (by omega) (Nat.le_trans d68 d71)).trans s74, rfl, hb74, S71.trans s74⟩
theorem write_ne {t : T} (hm : may t = true) : write t ≠ [] := by
  cases Go.Ty.shape hm with
  | basic _ h1 h5 =>
    rw [write_basic h1 h5]; rename_i k; have hk : k = 1 \/ k = 2 \/ k = 3 \/ k = 4 \/ k = 5 := by omega
    rcases hk with rfl | rfl | rfl | rfl | rfl <;> decide
  | name _ hn =>
    rw [write_name]; intro e; rw [e] at hn; simp [namedL] at hn
  | record _ _ hl hf hr ha => rw [write_rec]; simp
  | fn _ _ ha hr => rw [write_fun]; simp
  | union _ hl hk hr ha =>
    rw [write_union]; rename_i ta
    match ta, hl with
    | x :: y :: l, _ => simp [join]
theorem twrite_d {t : T} (hm : may t = true) (hs : size t <= 60) {F : Nat -> Prop} {w : World} {x0 : Option Addr} (h : TyAt ids F w (.pointer x0) t) :
    callC Tryz.prog 29 #[.pointer x0] w fun v w' => v = .string (bs (write t)) /\ Upd No w w' /\ w.drawn <= w'.drawn := by
  have hw := write_len _ hm; have hne : [] ++ write t ≠ [] := fun e => write_ne hm e; refine twrite_text _ _ _ (newC_d fun w1 B1 u1 s1 d1 => newC_d fun w3 B3 u3 s3 d3 => newC_d fun w5 B5 u5 s5 d5 => stC_d B5 (by simp) fun w6 B6 u6 s6 d6 => newC_d fun w8 B8 u8 s8 d8 => stC_d B8 (by simp) fun w9 B9 u9 s9 d9 => ?_); have B3' := ((B3.upd u5 id).upd u6 (show w1.heap.size ≠ w3.heap.size by omega)).upd u8 id |>.upd u9 (show w1.heap.size ≠ w6.heap.size by omega); refine stC_d B3' (by simp) fun w10 B10 u10 s10 d10 => ?_; have U : Upd No w w10 := ((((((up u1 u3).trans u5 fun _ _ x => x.elim).trans u6 fun x hx (e : x = _) => by omega).trans u8 fun _ _ x => x.elim).trans u9 fun x hx (e : x = _) => by omega)).trans u10 fun x hx (e : x = _) => by omega
  have hE : WEnv w.heap.size w3.heap.size w6.heap.size w1.heap.size w10 := by
    refine ⟨?_, ?_, B10, by omega, by omega, by omega⟩
    . exact ((B6.upd u8 id).upd u9 (show w3.heap.size ≠ w6.heap.size by omega)).upd u10 (show w3.heap.size ≠ w1.heap.size by omega)
    . exact B9.upd u10 (show w6.heap.size ≠ w1.heap.size by omega)
  have hb : Bld w.heap.size w.heap.size w10 [] := bld_new ((((((B1.upd u3 id).upd u5 id).upd u6 (show w.heap.size ≠ w3.heap.size by omega)).upd u8 id).upd u9 (show w.heap.size ≠ w6.heap.size by omega)).upd u10 (show w.heap.size ≠ w1.heap.size by omega)); refine ⟨_, B10.cell rfl, inv_one ?_⟩; have h10 : TyAt ids (fun b => F b /\ b < w.heap.size) w10 (.pointer x0) t := (ty_here h).keep U; refine callC_of (tw3_spec t hm hs _ w10 x0 [] h10 (fun b hb => hb.2) hE hb (by simp only [List.length_nil]; omega) U.size) fun v w13 ⟨e, hb13, s13⟩ => ⟨e, ?_⟩; have hz := s13.size; have hz' := U.size; refine callC_of (bstr_spec hb13 hne) fun v w15 ⟨e, hb15, d15⟩ => ⟨_, e, rfl, ?_, ?_⟩
  rotate_left
  . have := s13.drawn; omega
  have s15 := s13.below.trans hb15; exact U.trans (T := From w.heap.size) ⟨s15.os, s15.tape, s15.output, s15.size, fun k hk hn => s15.block k (Nat.lt_of_not_le hn)⟩ fun x hx (hs : w.heap.size <= x) => by omega
theorem twrite_spec {t : T} (hm : may t = true) (hs : size t <= 60) {F : Nat -> Prop} {w : World} {x0 : Option Addr} (h : TyAt ids F w (.pointer x0) t) :
    callC Tryz.prog 29 #[.pointer x0] w fun v w' => v = .string (bs (write t)) /\ Upd No w w' :=
  callC_of (twrite_d hm hs h) fun v w' ⟨e, u, _⟩ => ⟨e, u⟩
def ddA {α : Type} (e : α -> α -> Bool) : α -> List α -> List α
  | _, [] => []
  | p, y :: l => if e y p then ddA e y l else y :: ddA e y l
def dd {α : Type} (e : α -> α -> Bool) : List α -> List α
  | [] => []
  | x :: l => x :: ddA e x l
theorem ddA_len {α : Type} (e : α -> α -> Bool) : ∀ (p : α) (l : List α), (ddA e p l).length <= l.length
  | _, [] => Nat.le_refl _
  | p, y :: l => by
    unfold ddA; have := ddA_len e y l; split <;> simp only [List.length_cons] <;> omega
theorem dd_len {α : Type} (e : α -> α -> Bool) : ∀ l : List α, (dd e l).length <= l.length
  | [] => Nat.le_refl _
  | x :: l => by
    have := ddA_len e x l; simp only [dd, List.length_cons]; omega
theorem ddA_snoc {α : Type} (e : α -> α -> Bool) (y : α) : ∀ (p : α) (l : List α), ddA e p (l ++ [y]) = ddA e p l ++ (if e y ((p :: l).getLast (by simp)) then [] else [y])
  | p, [] => by
    simp only [List.nil_append, ddA, List.getLast_singleton]
    by_cases h : e y p = true <;> simp [h]
  | p, z :: l => by
    have ih := ddA_snoc e y z l; simp only [List.cons_append, ddA]; rw [ih]; have : (p :: z :: l).getLast (by simp) = (z :: l).getLast (by simp) := List.getLast_cons (by simp); rw [this]; split
    . rfl
    . rfl
theorem dd_succ {α : Type} (e : α -> α -> Bool) (l : List α) {i : Nat} (h : i + 1 < l.length) : dd e (l.take (i + 1 + 1)) = dd e (l.take (i + 1)) ++ (if e l[i + 1] l[i] then [] else [l[i + 1]]) := by
  rw [List.take_succ_eq_append_getElem h]
  cases hl : l.take (i + 1) with
  | nil =>
    have := congrArg List.length hl; rw [List.length_take] at this; simp only [List.length_nil] at this; omega
  | cons x t =>
    have hg : (x :: t).getLast (by simp) = l[i] := by
      have e1 : (x :: t).getLast (by simp) = (l.take (i + 1)).getLast (by rw [hl]; simp) := by congr 1; exact hl.symm
      rw [e1, List.getLast_eq_getElem]; simp only [List.length_take, List.getElem_take]
      congr 1
      omega
    simp only [List.cons_append, dd]; rw [ddA_snoc, hg]
theorem dd_none {α : Type} (e : α -> α -> Bool) (l : List α) : ∀ m, m <= l.length -> (∀ i, (h : i + 1 < l.length) -> i + 1 < m -> e l[i + 1] l[i] = false) -> dd e (l.take m) = l.take m := by
  intro m
  induction m with
  | zero => intro _ _; simp [dd]
  | succ m ih =>
    intro hm hno
    cases m with
    | zero =>
      cases l with
      | nil => rfl
      | cons x l => simp [dd, ddA]
    | succ m =>
      rw [dd_succ e l (by omega), ih (by omega) fun i h hi => hno i h (by omega), hno m (by omega) (by omega), List.take_succ_eq_append_getElem (i := m + 1) (by omega)]; simp
theorem dd_full {α : Type} (e : α -> α -> Bool) (l : List α) : (dd e l).length = l.length ↔ ∀ i, (h : i + 1 < l.length) -> e l[i + 1] l[i] = false := by
  have key : ∀ m, m <= l.length -> (dd e (l.take m)).length = m -> ∀ i, (h : i + 1 < l.length) -> i + 1 < m -> e l[i + 1] l[i] = false := by
    intro m
    induction m with
    | zero => intro _ _ i _ hi; omega
    | succ m ih =>
      intro hm he i h hi
      cases m with
      | zero => omega
      | succ m =>
        rw [dd_succ e l (by omega)] at he; have hle := dd_len e (l.take (m + 1)); rw [List.length_take] at hle; rw [List.length_append] at he
        by_cases hx : e l[m + 1] l[m] = true
        . rw [if_pos hx] at he; simp only [List.length_nil] at he; omega
        . rw [if_neg hx] at he; simp only [List.length_cons, List.length_nil] at he
          by_cases hi' : i = m
          . subst hi'; simpa using hx
          . exact ih (by omega) (by omega) i h (by omega)
  constructor
  . intro h i hi; exact key l.length (Nat.le_refl _) (by rw [List.take_length]; exact h) i hi hi
  . intro h; have := dd_none e l l.length (Nat.le_refl _) fun i hi _ => h i hi; rw [List.take_length] at this; rw [this]
theorem row_set {w : World} {e : TypeId} {p : Option Addr} {n c : Nat} {xs : List Value} (h : RowAt w e 1 (.slice p n c) xs) {j : Nat} (hj : j < xs.length) (v : Value) {K : WP}
    (hk : ∀ w', RowAt w' e 1 (.slice p n c) (xs.set j v) -> Upd (InRow (.slice p n c)) w w' -> w'.heap.size = w.heap.size -> K w') : ptrC p fun a => stC w (a.add (Int.toNat (j : Int) * 1)) v K := by
  obtain ⟨m, hl, ⟨e0, rfl⟩ | ⟨g, o, cap, cur, e0, hg, h1, h2, h3, h4⟩⟩ := h
  . omega
  . cases e0; refine ptrC_some ?_; rw [add_mk, Int.toNat_natCast, Nat.mul_one]; rw [Nat.mul_one] at hl h3 h4; refine stC_mk hg (by omega) fun w' B' u' s' => hk w' ⟨n, by rw [List.length_set, Nat.mul_one]; exact hl, .inr ⟨g, o, c, _, rfl, B', h1, h2, by rw [Array.size_setIfInBounds, Nat.mul_one]; exact h3, ?_⟩⟩ ?_ s'
    . rw [Nat.mul_one, Array.toList_setIfInBounds, <- h4]; apply List.ext_getElem?; intro i; simp only [List.getElem?_take, List.getElem?_drop, List.getElem?_set, List.length_take, List.length_drop, Array.length_toList]
      by_cases hi : i < n
      . by_cases hij : j = i
        . subst hij; simp only [hi, if_true]; have hc : j < min n (cur.size - o) := by omega
          have hd : o + j < cur.size := by omega
          simp [hc, hd]
        . simp only [hi, if_true, hij, if_false]; rw [if_neg (by omega)]
      . simp only [hi, if_false]; split
        . omega
        . rfl
    . exact u'.mono fun x _ (e : x = g) => by simp [InRow, Value.ownBlock, e]
structure ElemZ (t e : TypeId) (bytes : Nat) (z : Value) : Prop where
  ut : Tryz.prog.underlying t = some (.slice e)
  info : ∃ i, Tryz.prog.info? e = some i /\ i.zero = some z /\ i.size = 1 /\ i.bytes = bytes
  one : z.oneCell' = true
  cells : z.cells = #[z]
theorem zStr : ElemZ 53 9 16 (.string ByteArray.empty) := ⟨by kernel_rfl, by
  obtain ⟨i, h1, h2, h3, h4⟩ := info_get (P := Tryz.prog) (e := 9) (s := 1) (b := 16) (z := .string ByteArray.empty) (by kernel_rfl); exact ⟨i, h1, h2, h3, h4⟩, rfl, rfl⟩
theorem zTyp : ElemZ 82 29 8 (.pointer none) := ⟨by kernel_rfl, by
  obtain ⟨i, h1, h2, h3, h4⟩ := info_get (P := Tryz.prog) (e := 29) (s := 1) (b := 8) (z := .pointer none) (by kernel_rfl); exact ⟨i, h1, h2, h3, h4⟩, rfl, rfl⟩
theorem zero_run {t e : TypeId} {bytes : Nat} {z : Value} (E : ElemZ t e bytes z) (w : World) : (zeroValue e).run Tryz.prog w = .ok z w := by
  obtain ⟨io, hio, hz, _, _⟩ := E.info
  have : semR Tryz.prog (zeroValue e) (fun x => x = z) none := by
    unfold zeroValue; rw [semR_bind, semR_info hio]; simp only [hz, semR_pure]
  obtain ⟨a, rfl, hr⟩ := semR_out this; exact hr w trivial
theorem row_clear {t e : TypeId} {bytes : Nat} {z : Value} (E : ElemZ t e bytes z) {w : World} {p : Option Addr} {n c : Nat} {xs : List Value} (h : RowAt w e 1 (.slice p n c) xs) {i : Nat} (hi : i <= n) {K : KV}
    (hk : ∀ w' v, RowAt w' e 1 (.slice p n c) (xs.take i ++ List.replicate (n - i) z) -> Upd (InRow (.slice p n c)) w w' -> w'.heap.size = w.heap.size -> K v w') :
    runC Tryz.prog (Builtin.clear_ #[t] 0 #[.slice (subP p c i 1) (n - i) (c - i)]) w K := by
  obtain ⟨en, _, _⟩ := row_cap h; have hv := zero_run E; rcases Nat.eq_zero_or_pos (n - i) with h0 | h0
  . rw [h0]; refine ⟨.tuple #[], w, ?_, hk w _ ?_ (Upd.refl _ _) rfl⟩
    . unfold Builtin.clear_; cases subP p c i 1 <;> simp [run_underlying E.ut]
    . rw [h0, List.take_of_length_le (by omega)]; simpa using h
  . obtain ⟨m, hl, ⟨e0, rfl⟩ | ⟨g, o, cap, cur, e0, hg, h1, h2, h3, h4⟩⟩ := h
    . cases e0; omega
    . cases e0; rw [Nat.mul_one] at hl h3 h4
      have hsub : subP (some ⟨g, o, none⟩) c i 1 = some ⟨g, o + i, none⟩ := by
        unfold subP; rw [if_neg (by omega), Option.map_some, add_mk, Nat.mul_one]
      have hzz : (Builtin.zeroCells z.cells (n - i)).toList = List.replicate (n - i) z := by
        rw [E.cells]; simp [Builtin.zeroCells]; apply List.ext_getElem
        . simp
        . intro i h1 h2; simp [Nat.mod_one]
      have hst := run_storeCells_at Tryz.prog g (o + i) e (List.replicate (n - i) z) 0 cur w hg (by rw [List.length_replicate]; omega) (fun v hv => by rw [List.eq_of_mem_replicate hv]; exact E.one); simp only [Nat.add_zero] at hst; obtain ⟨k, hk'⟩ : ∃ k, n - i = k + 1 := ⟨n - i - 1, by omega⟩; refine ⟨.tuple #[], _, ?_, hk (w.setRow g (cur.toList.take (o + i) ++ List.replicate (n - i) z ++ cur.toList.drop (o + i + (List.replicate (n - i) z).length)).toArray) _ ?_ ⟨rfl, rfl, rfl, by simp, fun k _ hk => setRow_other w g k _ (fun e => hk (by simp [InRow, Value.ownBlock, e]))⟩ (by simp)⟩
      . rw [hsub]; rw [hk'] at hst hzz ⊢; simp [Builtin.clear_, run_underlying E.ut, hv, hzz, hst]
      . refine ⟨n, by simp only [List.length_append, List.length_take, List.length_replicate]; omega, .inr ⟨g, o, c, _, rfl, setRow_heap w g cur _ e _ hg, h1, h2, ?_, ?_⟩⟩
        . simp only [List.size_toArray, List.length_append, List.length_take, List.length_drop, List.length_replicate, Array.length_toList]; omega
        . rw [Nat.mul_one, List.toList_toArray, <- h4]; have hlen : n + o <= cur.toList.length := by rw [Array.length_toList]; omega
          have e1 : (cur.toList.take (o + i)).length = o + i := by rw [List.length_take]; omega
          have e2 : List.drop o (cur.toList.take (o + i)) = (cur.toList.drop o).take i := by rw [List.drop_take]; congr 1; omega
          rw [List.append_assoc, List.drop_append_of_le_length (by omega), e2, List.take_append, List.take_take, List.length_take, List.length_drop]; rw [show min n i = i by omega, show n - min i (cur.toList.length - o) = n - i by omega]; rw [List.take_left' (by rw [List.length_replicate]), List.take_take, Nat.min_eq_left hi]
end Go.Proofs.YtdbkclnlfibgdaaGreatDoor
namespace Go.Proofs.YtdbkclnlfibgdaaGreatDoor
open Go.SX Go.Ty
structure Tell {α : Type} (R : Value -> α -> Prop) (xs : List Value) (l : List α) : Prop where
  len : xs.length = l.length
  at_ : ∀ (i : Nat) (v : Value) (a : α), xs[i]? = some v -> l[i]? = some a -> R v a
def FnR {α β : Type} (R : Value -> α -> Prop) (S : Nat -> Prop) (w0 : World) (fv : Value) (mkr : β -> Value) (f : α -> α -> β) (l : List α) : Prop :=
  ∀ (v u : Value) (a b : α) (w : World), R v a -> R u b -> a ∈ l -> b ∈ l -> Upd S w0 w -> invC Tryz.prog fv #[v, u] w fun r w' => r = mkr (f a b) /\ Upd No w w'
theorem rowC {α σ : Type} {R : Value -> α -> Prop} {mk : σ -> Value} (hmk : ∀ v a, R v a -> ∃ s, v = mk s) {w : World} {e : TypeId} {p : Option Addr} {n c : Nat} {xs : List Value} {l : List α} (h : RowAt w e 1 (.slice p n c) xs) {m : Nat}
    {i j : Nat} (hj : j < xs.length) (ht : ∀ v, xs[j]? = some v -> ∃ a, l[i]? = some a /\ R v a) {K : Addr -> σ -> Prop} (hk : ∀ x s a, l[i]? = some a -> R (mk s) a -> xs[j]? = some (mk s) -> K x s) (hm : m = j) :
    ptrC p fun x => ∃ s, w.cell? (x.add (m * 1)) = some (mk s) /\ K x s := by
  subst hm; obtain ⟨g, o, rfl, hc⟩ := h.get hj; obtain ⟨a, ha, hr⟩ := ht _ (List.getElem?_eq_getElem hj); obtain ⟨s, hs⟩ := hmk _ _ hr; rw [List.getElem?_eq_getElem hj, hs] at hc; refine ptrC_some ⟨s, by rw [add_mk, Nat.mul_one]; exact hc, hk _ _ a ha (hs ▸ hr) ?_⟩; rw [List.getElem?_eq_getElem hj, hs]
def IssP {σ : Type} (mk : σ -> Value) (x0 : Option Addr) (x0l : Nat) (x1 : Value) (w : World) (K : KV) : Prop :=
  ∃ (x0_1 : Int -> WP), ∃ (x1_1 : Int -> World -> Nat), x0_1 (IntKind.wrap IntKind.i64 ((↑x0l : Int) - 1)) w /\ ∀ n2 w3, x0_1 n2 w3 -> ∀ (_ : Nat -> Value), brC (decide (n2 > 0)) (drawC w3 fun w5 => idxC n2 x0l (ptrC x0 fun a6 => ∃ s7, World.cell? w5 (Addr.add a6 (Int.toNat n2 * 1)) = some (mk s7) /\ idxC (IntKind.wrap IntKind.i64 (n2 - 1)) x0l (ptrC x0 fun a8 => ∃ s9, World.cell? w5 (Addr.add a8 (Int.toNat (IntKind.wrap IntKind.i64 (n2 - 1)) * 1)) = some (mk s9) /\ invC Tryz.prog x1 #[mk s7, mk s9] w5 fun v10 w11 => ∃ n12, v10 = .int .i64 n12 /\ brC (decide (n12 < 0)) (K (.bool false) w11) (x0_1 (IntKind.wrap IntKind.i64 (n2 - 1)) w11 /\ x1_1 (IntKind.wrap IntKind.i64 (n2 - 1)) w11 < x1_1 n2 w3)))) (K (.bool true) w3)
theorem issS_of {x0 : Option Addr} {x0l x0c : Nat} {x1 : Value} {w : World} {K : KV} (h : IssP Value.string x0 x0l x1 w K) : callC Tryz.prog 102 #[.slice x0 x0l x0c, x1] w K := issS_text _ _ _ _ _ _ h
theorem issT_of {x0 : Option Addr} {x0l x0c : Nat} {x1 : Value} {w : World} {K : KV} (h : IssP Value.pointer x0 x0l x1 w K) : callC Tryz.prog 107 #[.slice x0 x0l x0c, x1] w K := issT_text _ _ _ _ _ _ h
theorem iss_rule {α σ : Type} {R : Value -> α -> Prop} {mk : σ -> Value} (hmk : ∀ v a, R v a -> ∃ s, v = mk s) {cmp : α -> α -> Int} {w : World} {e : TypeId} {p : Option Addr} {n c : Nat} {xs : List Value} {l : List α} {fv : Value}
    (h : RowAt w e 1 (.slice p n c) xs) (ht : Tell R xs l) (hf : FnR R No w fv (Value.int .i64) cmp l) {K : KV}
    (hk : ∀ (b : Bool) w', (b = true ↔ ∀ i, (hi : i + 1 < l.length) -> ¬ cmp l[i + 1] l[i] < 0) -> Upd No w w' -> K (.bool b) w') : IssP mk p n fv w K := by
  obtain ⟨en, hnc, hcm⟩ := row_cap h; have el := ht.len; simp only [maxLen] at hcm; refine ⟨fun m w' => ∃ j : Nat, m = (j : Int) - 1 /\ j <= l.length /\ Upd No w w' /\ ∀ i, (hi : i + 1 < l.length) -> j <= i + 1 -> ¬ cmp l[i + 1] l[i] < 0, fun m _ => m.toNat, ⟨n, ?_, by omega, Upd.refl _ _, fun i hi hj => by omega⟩, ?_⟩
  . exact IntWalk.i64_in _ ⟨by omega, by omega⟩
  rintro m w3 ⟨j, rfl, hj, u3, hs⟩ _; refine brC_intro (fun hlt => ?_) fun hge => ?_
  . have hlt := of_decide_eq_true hlt; obtain ⟨i, rfl⟩ : ∃ i, j = i + 1 + 1 := ⟨j - 2, by omega⟩; have e1 : ((i + 1 + 1 : Nat) : Int) - 1 = ((i + 1 : Nat) : Int) := by omega
    rw [e1]; rw [wrap_pred (by omega)]; refine drawC_mk fun w5 u5 _ => ⟨by omega, by omega, ?_⟩; have h5 := h.upd (up u3 u5) fun _ _ x => x; have tell : ∀ k, k < l.length -> ∀ v, xs[k]? = some v -> ∃ a, l[k]? = some a /\ R v a := fun k hk v hv => ⟨_, List.getElem?_eq_getElem hk, ht.at_ k v _ hv (List.getElem?_eq_getElem hk)⟩; refine rowC hmk h5 (i := i + 1) (j := i + 1) (by omega) (tell _ (by omega)) (fun x s a ha hr _ => ⟨by omega, by omega, ?_⟩) (by omega); refine rowC hmk h5 (i := i) (j := i) (by omega) (tell _ (by omega)) (fun x' s' a' ha' hr' _ => ?_) (by omega); rw [List.getElem?_eq_getElem (by omega)] at ha ha'; cases ha; cases ha'; refine semVC_mono (nextVC_mono fun v w10 ⟨e, u10⟩ => ?_) _ _ (hf _ _ _ _ w5 hr hr' (List.getElem_mem _) (List.getElem_mem _) (up u3 u5)); refine ⟨_, e, brC_intro (fun hneg => hk false _ ?_ (up (up u3 u5) u10)) fun hpos => ?_⟩
    . constructor
      . intro x; cases x
      . intro x; exact absurd (of_decide_eq_true hneg) (x i (by omega))
    . refine ⟨⟨i + 1, by omega, by omega, up (up u3 u5) u10, fun i' hi hj' => ?_⟩, by dsimp only; omega⟩
      by_cases e : i' = i
      . subst e; exact of_decide_eq_false hpos
      . exact hs i' hi (by omega)
  . have hge := of_decide_eq_false hge; exact hk true _ ⟨fun _ i hi => hs i hi (by omega), fun _ => rfl⟩ u3
def CompP {σ : Type} (mk : σ -> Value) (t : TypeId) (x0 : Option Addr) (x0l x0c : Nat) (x1 : Value) (w : World) (K : KV) : Prop :=
  brC (decide ((↑x0l : Int) < 2)) (K (.slice x0 x0l x0c) w) (∃ (x0_1 : Int -> WP), ∃ (x1_1 : Int -> World -> Nat), x0_1 1 w /\ ∀ (n2 : Int) (w3 : World), x0_1 n2 w3 -> ∀ (_ : Nat -> Value), brC (decide (n2 < (↑x0l : Int))) (drawC w3 fun (w5 : World) => idxC n2 x0l (ptrC x0 fun (a6 : Addr) => ∃ s7, World.cell? w5 (Addr.add a6 (Int.toNat n2 * 1)) = some (mk s7) /\ idxC (IntKind.wrap IntKind.i64 (n2 - 1)) x0l (ptrC x0 fun (a8 : Addr) => ∃ s9, World.cell? w5 (Addr.add a8 (Int.toNat (IntKind.wrap IntKind.i64 (n2 - 1)) * 1)) = some (mk s9) /\ invC Tryz.prog x1 #[mk s7, mk s9] w5 fun (v10 : Value) (w11 : World) => ∃ (b12 : Bool), v10 = .bool b12 /\ brC b12 (slcC n2 (↑x0l : Int) x0l (∃ (x13 : Int -> Int -> WP), ∃ (x14 : Int -> Int -> World -> Nat), x13 n2 1 w11 /\ ∀ (n15 n16 : Int) (w17 : World), x13 n15 n16 w17 -> ∀ (_ : Nat -> Value), brC (decide (n16 < (↑(Int.toNat (↑x0l : Int) - Int.toNat n2) : Int))) (∃ (x19 : Int -> WP), (∀ (n20 : Int) (w21 : World), x19 n20 w21 -> ∀ (_ : Nat -> Value), x13 n20 (IntKind.wrap IntKind.i64 (n16 + 1)) w21 /\ x14 n20 (IntKind.wrap IntKind.i64 (n16 + 1)) w21 < x14 n15 n16 w17) /\ drawC w17 fun (w23 : World) => idxC n16 (Int.toNat (↑x0l : Int) - Int.toNat n2) (ptrC (subP x0 x0c (Int.toNat n2) 1) fun (a24 : Addr) => ∃ s25, World.cell? w23 (Addr.add a24 (Int.toNat n16 * 1)) = some (mk s25) /\ idxC (IntKind.wrap IntKind.i64 (n16 - 1)) (Int.toNat (↑x0l : Int) - Int.toNat n2) (ptrC (subP x0 x0c (Int.toNat n2) 1) fun (a26 : Addr) => ∃ s27, World.cell? w23 (Addr.add a26 (Int.toNat (IntKind.wrap IntKind.i64 (n16 - 1)) * 1)) = some (mk s27) /\ invC Tryz.prog x1 #[mk s25, mk s27] w23 fun (v28 : Value) (w29 : World) => ∃ (b30 : Bool), v28 = .bool b30 /\ brC (!b30) (idxC n16 (Int.toNat (↑x0l : Int) - Int.toNat n2) (ptrC (subP x0 x0c (Int.toNat n2) 1) fun (a31 : Addr) => ∃ s32, World.cell? w29 (Addr.add a31 (Int.toNat n16 * 1)) = some (mk s32) /\ idxC n15 x0l (ptrC x0 fun (a33 : Addr) => stC w29 (Addr.add a33 (Int.toNat n15 * 1)) (mk s32) fun (w34 : World) => x19 (IntKind.wrap IntKind.i64 (n15 + 1)) w34))) (x19 n15 w29)))) (slcC n15 (↑x0l : Int) x0l (runC Tryz.prog (Builtin.clear_ #[t] 0 #[.slice (subP x0 x0c (Int.toNat n15) 1) (Int.toNat (↑x0l : Int) - Int.toNat n15) (x0c - Int.toNat n15)]) w17 fun (_ : Value) (w36 : World) => slcC 0 n15 x0c (K (.slice (subP x0 x0c 0 1) (Int.toNat n15 - 0) (x0c - 0)) w36))))) (x0_1 (IntKind.wrap IntKind.i64 (n2 + 1)) w11 /\ x1_1 (IntKind.wrap IntKind.i64 (n2 + 1)) w11 < x1_1 n2 w3)))) (K (.slice x0 x0l x0c) w3))
theorem compS_of {x0 : Option Addr} {x0l x0c : Nat} {x1 : Value} {w : World} {K : KV} (h : CompP Value.string 53 x0 x0l x0c x1 w K) : callC Tryz.prog 104 #[.slice x0 x0l x0c, x1] w K := compS_text _ _ _ _ _ _ h
theorem compT_of {x0 : Option Addr} {x0l x0c : Nat} {x1 : Value} {w : World} {K : KV} (h : CompP Value.pointer 82 x0 x0l x0c x1 w K) : callC Tryz.prog 109 #[.slice x0 x0l x0c, x1] w K := compT_text _ _ _ _ _ _ h
end Go.Proofs.YtdbkclnlfibgdaaGreatDoor
