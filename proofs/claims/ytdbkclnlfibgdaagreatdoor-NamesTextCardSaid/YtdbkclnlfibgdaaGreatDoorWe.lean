/- Joined by program of: N1, N2, N3, N4, N5, N6, N7, N8, N9, Na, Nb, Nc, Nd, Nf, Ng, Nh, Nj, Nk. -/
import Derived.Test.YtdbkclnlfibgdaaGreatDoorWd
import Derived.Test.YtdbkclnlfibgdaaGreatDoorVi
import Derived.Test.YtdbkclnlfibgdaaGreatDoorVb
import Derived.Test.YtdbkclnlfibgdaaGreatDoorWc
import Derived.Test.YtdbkclnlfibgdaaGreatDoorEb
set_option maxRecDepth 100000
set_option maxHeartbeats 4000000
namespace Go.Proofs.YtdbkclnlfibgdaaGreatDoor
open Go.SX Go.Ty Go.MapKept Go.RowKit Go.Tx
abbrev At (w : World) (v : Value) (t : T) : Prop := TyAt ids (From 0) w v t
theorem at_of {F : Nat -> Prop} {w : World} {v : Value} {t : T} (h : TyAt ids F w v t) : At w v t := h.mono fun b _ _ => Nat.zero_le b
theorem at_nil {w : World} : At w (.pointer none) .nil := rfl
theorem at_ptr {F : Nat -> Prop} {w : World} {v : Value} {t : T} (h : TyAt ids F w v t) : ∃ q, v = .pointer q := by
  cases t with
  | nil => exact ⟨none, h⟩
  | mk k nm ns ta r => unfold TyAt at h; obtain ⟨b, _, _, _, _, rfl, _⟩ := h; exact ⟨_, rfl⟩
theorem at_leaf {w : World} {n0 k : Nat} {i : Int} {s : ByteArray} (B : Blk w k #[.int .i64 i, .string s, .slice none 0 0, .slice none 0 0, .pointer none] 84) (hk : n0 <= k) : TyAt ids (From n0) w (.pointer (some ⟨k, 0, none⟩)) (.mk i s [] [] .nil) := by
  unfold TyAt; exact ⟨k, _, _, _, [], rfl, hk, B, RowAt.nil _ _ _, fun b hb => (no_in b hb).elim, RowAt.nil _ _ _, fun b hb => (no_in b hb).elim, trivial, rfl⟩
theorem at_le {a b : Nat} {w : World} {v : Value} {t : T} (h : TyAt ids (From b) w v t) (hab : a <= b) : TyAt ids (From a) w v t := h.mono fun x _ (hx : b <= x) => (show a <= x by omega)
abbrev Ex := ByteArray × T
def ExAt (w : World) (p : Option Addr) (l : List Ex) : Prop := ∀ i, (h : i < l.length) -> ∃ a q, p = some a /\ w.cell? (Addr.add a (i * 2)) = some (.string l[i].1) /\ w.cell? (Addr.add (Addr.add a (i * 2)) 1) = some (.pointer q) /\ At w (.pointer q) l[i].2
theorem ExAt.keep {w w' : World} {p : Option Addr} {l : List Ex} (h : ExAt w p l) (u : Upd No w w') : ExAt w' p l := fun i hi => by
  obtain ⟨a, q, e, h1, h2, h3⟩ := h i hi; exact ⟨a, q, e, cell_keep h1 u, cell_keep h2 u, h3.keep u⟩
section
variable {w : World} {K : KV}
theorem anything_c (hk : ∀ q w', TyAt ids (From w.heap.size) w' (.pointer q) (tk 1) -> Upd No w w' -> K (.pointer q) w') : callC Tryz.prog 25 #[] w K :=
  anything_text _ _ (newC_mk fun w1 B1 u1 _ => hk _ w1 (at_leaf B1 (Nat.le_refl _)) u1)
def dotB : ByteArray := ByteArray.mk #[46]
theorem dotB_size : dotB.size = 1 := rfl
theorem dotted_c {x y : ByteArray} (h : x.size + y.size <= 1000000000) (hk : ∀ q w', TyAt ids (From w.heap.size) w' (.pointer q) (.mk 6 (x ++ dotB ++ y) [] [] .nil) -> Upd No w w' -> K (.pointer q) w') : callC Tryz.prog 33 #[.string x, .string y] w K :=
  named_text _ _ _ _ ⟨by omega, by show (((x ++ dotB).size + y.size : Nat) : Int) <= _; rw [ByteArray.size_append, dotB_size]; omega, newC_mk fun w1 B1 u1 _ => hk _ w1 (at_leaf B1 (Nat.le_refl _)) u1⟩
def FnE (w : World) (fv : Value) (g : Ex -> Bool) (l : List Ex) : Prop := ∀ (x : Ex) (q : Option Addr) (w1 : World) (K : KV), x ∈ l -> At w1 (.pointer q) x.2 -> Upd No w w1 -> (∀ w2, Upd No w1 w2 -> K (.bool (g x)) w2) -> invC Tryz.prog fv #[.agg #[.string x.1, .pointer q]] w1 K
theorem ifE_c {p : Option Addr} {n c : Nat} {l : List Ex} (h : ExAt w p l) (hn : n = l.length) (hm : n <= 1000000) {f : Fn} {fa fc : Array Value} {g : Ex -> Bool} (hf : FnE w (.func f fa fc) g l)
    (h1 : ∀ (i : Nat) (hi : i < l.length) w', g l[i] = true -> (∀ j (hj : j < i), g l[j] = false) -> Upd No w w' -> K (.int .i64 i) w') (h0 : ∀ w', (∀ x ∈ l, g x = false) -> Upd No w w' -> K (.int .i64 (-1)) w') :
    callC Tryz.prog 75 #[.slice p n c, .func f fa fc] w K := by
  subst hn; refine ifE_text _ _ _ _ _ _ _ _ ⟨fun m w' => ∃ i : Nat, m = i /\ i <= l.length /\ (∀ j (hj : j < l.length), j < i -> g l[j] = false) /\ Upd No w w', fun m _ => l.length - m.toNat, ⟨0, rfl, Nat.zero_le _, fun j _ hj => absurd hj (Nat.not_lt_zero j), Upd.refl _ _⟩, ?_⟩; rintro m w3 ⟨i, rfl, hil, hpre, u3⟩ _; refine brC_intro (fun hlt => ?_) fun hge => ?_
  . have hi : i < l.length := by have := of_decide_eq_true hlt; omega
    obtain ⟨a, q, rfl, c1, c2, c3⟩ := h i hi; refine ⟨by omega, by omega, ptrC_some ?_⟩; rw [Int.toNat_natCast]; refine ⟨_, cell_keep c1 u3, q, cell_keep c2 u3, hf l[i] q w3 _ (List.getElem_mem hi) (c3.keep u3) u3 fun w9 u9 => ⟨_, rfl, brC_intro (fun hg => h1 i hi w9 hg (fun j hj => hpre j (by omega) hj) (up u3 u9)) fun hg => ?_⟩⟩; rw [wrap_succ (by omega)]; refine ⟨⟨i + 1, rfl, hi, fun j hj hji => ?_, up u3 u9⟩, by simp only [Int.toNat_natCast]; omega⟩; rcases Nat.lt_succ_iff_lt_or_eq.1 hji with h | rfl
    . exact hpre j hj h
    . exact hg
  . have hi : i = l.length := by have := of_decide_eq_false hge; omega
    subst hi; exact h0 w3 (fun x hx => by obtain ⟨j, hj, rfl⟩ := List.getElem_of_mem hx; exact hpre j hj hj) u3
theorem firstE_c {p : Option Addr} {n c : Nat} {l : List Ex} (h : ExAt w p l) (hn : n = l.length) (hm : n <= 1000000) {f : Fn} {fa fc : Array Value} {g : Ex -> Bool} (hf : FnE w (.func f fa fc) g l)
    (h1 : ∀ (x : Ex) q w', l.find? g = some x -> At w' (.pointer q) x.2 -> Upd No w w' -> K (.tuple #[.agg #[.string x.1, .pointer q], .bool true]) w') (h0 : ∀ w', l.find? g = none -> Upd No w w' -> K (.tuple #[.agg #[.string .empty, .pointer none], .bool false]) w') :
    callC Tryz.prog 35 #[.slice p n c, .func f fa fc] w K := by
  refine firstE_text _ _ _ _ _ _ _ _ (newC_mk fun w1 B1 u1 _ => ?_); refine ifE_c (h.keep u1) hn hm (g := g) (fun x q w2 K' hx ha u hk => hf x q w2 K' hx ha (up u1 u) hk) (fun i hi w3 hg hpre u3 => ?_) fun w3 hall u3 => ?_
  . obtain ⟨a, q, rfl, c1, c2, c3⟩ := h i hi; refine ⟨_, rfl, brC_tt (decide_eq_true (by omega)) ⟨by omega, by omega, ptrC_some ?_⟩⟩; rw [Int.toNat_natCast]; have b3 := B1.upd u3 id; refine ⟨_, cell_keep c1 (up u1 u3), q, cell_keep c2 (up u1 u3), stC_mk b3 (by simp) fun w8 B8 u8 _ => stC_mk B8 (by simp) fun w9 B9 u9 _ => ⟨_, B9.cell rfl, _, B9.cell rfl, ?_⟩⟩; have U : Upd No w w9 := ((up u1 u3).trans u8 fun x hx (e : x = _) => by omega).trans u9 fun x hx (e : x = _) => by omega
    exact h1 l[i] q w9 (List.find?_eq_some_iff_getElem.2 ⟨hg, i, hi, rfl, fun j hj => by simpa using hpre j hj⟩) (c3.keep U) U
  . refine ⟨_, rfl, brC_ff (decide_eq_false (by omega)) ?_⟩; have b3 := B1.upd u3 id; refine ⟨_, b3.cell rfl, _, b3.cell rfl, stC_mk b3 (by simp) fun w8 B8 u8 _ => stC_mk B8 (by simp) fun w9 B9 u9 _ => ⟨_, B9.cell rfl, _, B9.cell rfl, ?_⟩⟩; exact h0 w9 (List.find?_eq_none.2 fun x hx => by simpa using hall x hx) (((up u1 u3).trans u8 fun x hx (e : x = _) => by omega).trans u9 fun x hx (e : x = _) => by omega)
theorem inv_export {s : ByteArray} {q : Option Addr} {b : Nat} {w : World} {K : KV} (h : callC Tryz.prog 74 #[.agg #[.string s, .pointer q], .pointer (some ⟨b, 0, none⟩)] w K) :
    invC Tryz.prog (.func (.func 74) #[] #[.pointer (some ⟨b, 0, none⟩)]) #[.agg #[.string s, .pointer q]] w K := of_eq h (by kernel_rfl)
def isN (name : ByteArray) (x : Ex) : Bool := x.1.toList == name.toList
def expF (l : List Ex) (name : ByteArray) : Option T := (l.find? (isN name)).map (·.2)
theorem export_c {p : Option Addr} {n c : Nat} {l : List Ex} (h : ExAt w p l) (hn : n = l.length) (hm : n <= 1000000) {name : ByteArray}
    (hk : ∀ q w', At w' (.pointer q) ((expF l name).getD .nil) -> Upd No w w' -> K (.tuple #[.pointer q, .bool (expF l name).isSome]) w') :
    callC Tryz.prog 34 #[.slice p n c, .string name] w K := by
  refine export_text _ _ _ _ _ _ (newC_mk fun w1 B1 u1 _ => ?_); have hf : FnE w1 (.func (.func 74) #[] #[.pointer (some ⟨w.heap.size, 0, none⟩)]) (isN name) l := fun x q w2 K' hx ha u hk => inv_export (export1_text _ _ _ _ _ _ (newC_mk fun w3 B3 u3 _ => ⟨_, B3.cell rfl, _, ((B1.upd u id).upd u3 id).cell rfl, hk w3 u3⟩)); refine firstE_c (h.keep u1) hn hm hf (fun x q w3 hx ha u3 => ⟨_, _, _, rfl, newC_mk fun w8 B8 u8 _ => ?_⟩) fun w3 hx u3 => ⟨_, _, _, rfl, newC_mk fun w8 B8 u8 _ => ?_⟩
  . refine stC_mk B8 (by simp) fun w9 B9 u9 _ => stC_mk B9 (by simp) fun w10 B10 u10 _ => ⟨_, B10.cell rfl, ?_⟩; have U : Upd No w3 w10 := (u8.trans u9 fun x hx (e : x = _) => by omega).trans u10 fun x hx (e : x = _) => by omega
    have := hk q w10 (by rw [expF, hx]; exact ha.keep U) (up (up u1 u3) U); rw [expF, hx] at this; exact this
  . refine stC_mk B8 (by simp) fun w9 B9 u9 _ => stC_mk B9 (by simp) fun w10 B10 u10 _ => ⟨_, B10.cell rfl, ?_⟩; have U : Upd No w3 w10 := (u8.trans u9 fun x hx (e : x = _) => by omega).trans u10 fun x hx (e : x = _) => by omega
    have := hk none w10 (by rw [expF, hx]; exact at_nil) (up (up u1 u3) U); rw [expF, hx] at this; exact this
end
structure Al where
  path : ByteArray
  broken : Bool
  types : List Ex
  values : List Ex
  dark : Bool
structure Sc where
  path : ByteArray
  als : List (ByteArray × Al)
  owns : List Ex
abbrev alZ : Al := ⟨.empty, false, [], [], false⟩
def AlAt (w : World) (v : Value) (a : Al) : Prop := ∃ p c p' c', v = .agg #[.string a.path, .bool a.broken, .slice p' a.values.length c', .slice p a.types.length c, .bool a.dark] /\ ExAt w p a.types /\ ExAt w p' a.values
theorem AlAt.keep {w w' : World} {v : Value} {a : Al} (h : AlAt w v a) (u : Upd No w w') : AlAt w' v a := by
  obtain ⟨p, c, p', c', e, h1, h2⟩ := h; exact ⟨p, c, p', c', e, h1.keep u, h2.keep u⟩
theorem al_zero {w : World} : AlAt w (.agg #[.string .empty, .bool false, .slice none 0 0, .slice none 0 0, .bool false]) alZ := ⟨none, 0, none, 0, rfl, fun i hi => absurd hi (Nat.not_lt_zero i), fun i hi => absurd hi (Nat.not_lt_zero i)⟩
def keysV {α : Type} (l : List (ByteArray × α)) : List Value := l.map fun x => .string x.1
def alF (S : Sc) (n : ByteArray) : Option Al := (S.als.find? fun x => x.1 = n).map (·.2)
def ownF (S : Sc) (n : ByteArray) : Option T := (S.owns.find? fun x => x.1 = n).map (·.2)
structure ScIn (w : World) (sc m1 m2 : Nat) (ov : Value) (f1 f2 : Value -> Value) (S : Sc) : Prop where
  blk : Blk w sc #[.string S.path, .map (some m1), ov, .map (some m2)] 88
  als : MapF .string w m1 (keysV S.als) f1
  al : ∀ x ∈ S.als, AlAt w (f1 (.string x.1)) x.2
  ord : RowAt w 9 1 ov (keysV S.als)
  owns : MapF .string w m2 (keysV S.owns) f2
  own : ∀ x ∈ S.owns, At w (f2 (.string x.1)) x.2
def ScAt (w : World) (sc : Nat) (S : Sc) : Prop := ∃ m1 m2 ov f1 f2, ScIn w sc m1 m2 ov f1 f2 S
theorem ScIn.keep {w w' : World} {sc m1 m2 : Nat} {ov : Value} {f1 f2 : Value -> Value} {S : Sc} (h : ScIn w sc m1 m2 ov f1 f2 S) (u : Upd No w w') : ScIn w' sc m1 m2 ov f1 f2 S :=
  ⟨h.blk.upd u id, h.als.upd u id, fun x hx => (h.al x hx).keep u, h.ord.upd u fun _ _ h => h, h.owns.upd u id, fun x hx => (h.own x hx).keep u⟩
theorem ScAt.keep {w w' : World} {sc : Nat} {S : Sc} (h : ScAt w sc S) (u : Upd No w w') : ScAt w' sc S := by
  obtain ⟨m1, m2, ov, f1, f2, h⟩ := h; exact ⟨m1, m2, ov, f1, f2, h.keep u⟩
structure AlOk (a : Al) : Prop where
  path : a.path.size <= 1000000
  types : a.types.length <= 1000000
  values : a.values.length <= 1000000
  names : ∀ x ∈ a.types, x.1.size <= 1000000
structure ScOk (S : Sc) : Prop where
  path : S.path.size <= 1000000
  als : ∀ x ∈ S.als, AlOk x.2
  owns : ∀ x ∈ S.owns, x.1.size <= 1000000
  len : S.als.length <= 1000000
theorem mem_keysV {α : Type} {l : List (ByteArray × α)} {n : ByteArray} : Value.string n ∈ keysV l ↔ ∃ x ∈ l, x.1 = n := by
  unfold keysV; rw [List.mem_map]; constructor
  . rintro ⟨x, hx, e⟩; exact ⟨x, hx, by injection e⟩
  . rintro ⟨x, hx, e⟩; exact ⟨x, hx, by rw [e]⟩
theorem find_key {α : Type} {l : List (ByteArray × α)} {n : ByteArray} : (Value.string n ∈ keysV l /\ ∃ a, (l.find? fun x => x.1 = n) = some (n, a) /\ (n, a) ∈ l) \/ (Value.string n ∉ keysV l /\ (l.find? fun x => x.1 = n) = none) := by
  cases h : l.find? fun x => x.1 = n with
  | none =>
    refine .inr ⟨fun hm => ?_, rfl⟩; obtain ⟨x, hx, e⟩ := mem_keysV.1 hm; exact absurd e (by simpa using List.find?_eq_none.1 h x hx)
  | some x =>
    have hp := List.find?_some h; have hm := List.mem_of_find?_eq_some h; obtain ⟨n', a⟩ := x; obtain rfl : n' = n := by simpa using hp
    exact .inl ⟨mem_keysV.2 ⟨_, hm, rfl⟩, a, rfl, hm⟩
theorem mapAl : Tryz.prog.underlying 85 = some (.map 9 91) := by kernel_rfl
theorem mapOwn : Tryz.prog.underlying 86 = some (.map 9 29) := by kernel_rfl
theorem undStr : Tryz.prog.underlying 9 = some .string := by kernel_rfl
theorem zeroAl (w : World) : (zeroValue 91).run Tryz.prog w = .ok (.agg #[.string .empty, .bool false, .slice none 0 0, .slice none 0 0, .bool false]) w := by kernel_rfl
theorem zeroOwn (w : World) : (zeroValue 29).run Tryz.prog w = .ok (.pointer none) w := by kernel_rfl
theorem isKeyS (n : ByteArray) : IsKey .string (.string n) := by trivial
section
variable {w : World} {sc m1 m2 : Nat} {ov : Value} {f1 f2 : Value -> Value} {S : Sc}
theorem ScIn.look (h : ScIn w sc m1 m2 ov f1 f2 S) (n : ByteArray) : ∃ v, (∀ c : Bool, (Instr.lookup 85 (.map (some m1)) (.string n) c).run Tryz.prog w = .ok (if c then .tuple #[v, .bool (alF S n).isSome] else v) w) /\ AlAt w v ((alF S n).getD alZ) := by
  unfold alF; rcases find_key (l := S.als) (n := n) with ⟨hin, a, e, hm⟩ | ⟨hout, e⟩
  . rw [e]; exact ⟨_, fun c => run_lookup_in mapAl undStr (isKeyS n) h.als hin c, h.al _ hm⟩
  . rw [e]; exact ⟨_, fun c => run_lookup_out mapAl undStr (isKeyS n) h.als hout (zeroAl w) c, al_zero⟩
theorem ScIn.lookOwn (h : ScIn w sc m1 m2 ov f1 f2 S) (n : ByteArray) : ∃ q, (Instr.lookup 86 (.map (some m2)) (.string n) true).run Tryz.prog w = .ok (.tuple #[.pointer q, .bool (ownF S n).isSome]) w := by
  unfold ownF; rcases find_key (l := S.owns) (n := n) with ⟨hin, a, e, hm⟩ | ⟨hout, e⟩
  . obtain ⟨q, hq⟩ := at_ptr (h.own _ hm); refine ⟨q, ?_⟩; have := run_lookup_in mapOwn undStr (isKeyS n) h.owns hin true; rw [this, e, hq]; rfl
  . refine ⟨none, ?_⟩; have := run_lookup_out mapOwn undStr (isKeyS n) h.owns hout (zeroOwn w) true; rw [this, e]; rfl
end
def nameF (S : Sc) (of_ n : ByteArray) : Option T :=
  if of_ = .empty then (if (ownF S n).isSome then some (.mk 6 (S.path ++ dotB ++ n) [] [] .nil) else none)
  else match alF S of_ with
    | none => none
    | some a => if a.dark then some (tk 1) else if (expF a.types n).isSome then some (.mk 6 (a.path ++ dotB ++ n) [] [] .nil) else none
theorem expF_mem {l : List Ex} {n : ByteArray} (h : (expF l n).isSome = true) : ∃ x ∈ l, x.1.toList = n.toList := by
  unfold expF at h
  cases e : l.find? (isN n) with
  | none => rw [e] at h; cases h
  | some x => exact ⟨x, List.mem_of_find?_eq_some e, by simpa [isN] using List.find?_some e⟩
theorem size_of_toList {x y : ByteArray} (h : x.toList = y.toList) : x.size = y.size := by
  have h2 : (x.toList == y.toList) = true := by rw [h]; exact beq_self_eq_true _
  rw [beq_bytes] at h2; rw [of_decide_eq_true h2]
theorem AlOk_of {S : Sc} (h : ScOk S) (n : ByteArray) : AlOk ((alF S n).getD alZ) := by
  unfold alF
  cases e : S.als.find? fun x => x.1 = n with
  | none => exact ⟨by decide, by decide, by decide, fun x hx => by cases hx⟩
  | some x => exact h.als x (List.mem_of_find?_eq_some e)
theorem al_put {w : World} {k : Nat} {a b c d f : Value} {e : TypeId} (B : Blk w k #[a, b, c, d, f] e) (v0 v1 v2 v3 v4 : Value) {K : WP} (hk : ∀ w', Blk w' k #[v0, v1, v2, v3, v4] e -> Upd (· = k) w w' -> w'.heap.size = w.heap.size -> K w') :
    stC w ⟨k, 0, none⟩ v0 fun w => stC w ⟨k, 1, none⟩ v1 fun w => stC w ⟨k, 2, none⟩ v2 fun w => stC w ⟨k, 3, none⟩ v3 fun w => stC w ⟨k, 4, none⟩ v4 K :=
  stC_mk B (by simp) fun w1 B1 u1 s1 => stC_mk B1 (by simp) fun w2 B2 u2 s2 => stC_mk B2 (by simp) fun w3 B3 u3 s3 => stC_mk B3 (by simp) fun w4 B4 u4 s4 => stC_mk B4 (by simp) fun w5 B5 u5 s5 => hk w5 B5 ((((u1.trans u2 fun _ _ x => x).trans u3 fun _ _ x => x).trans u4 fun _ _ x => x).trans u5 fun _ _ x => x) (by omega)
theorem Named_c {w : World} {sc : Nat} {S : Sc} (hS : ScAt w sc S) (ok : ScOk S) {x y : ByteArray} {K : KV}
    (hk : ∀ q w', TyAt ids (From w.heap.size) w' (.pointer q) ((nameF S x y).getD .nil) -> Upd No w w' -> K (.tuple #[.pointer q, .bool (nameF S x y).isSome]) w') :
    callC Tryz.prog 19 #[.pointer (some ⟨sc, 0, none⟩), .string x, .string y] w K := by
  obtain ⟨m1, m2, ov, f1, f2, h⟩ := hS; unfold nameF at hk; refine Named_text _ _ _ _ _ (brC_ff rfl (brC_intro (fun hx => ?_) fun hx => ?_))
  . have hx : x = ByteArray.empty := by
      have h2 : (x.toList == ByteArray.toList .empty) = true := hx; rw [beq_bytes] at h2; exact of_decide_eq_true h2
    rw [if_pos hx] at hk; obtain ⟨q, hl⟩ := h.lookOwn y; refine ptrC_some ⟨_, by rw [add_mk]; exact h.blk.cell rfl, _, ⟨_, _, rfl, brC_intro (fun hn => ?_) fun hn => ptrC_some ⟨_, h.blk.cell rfl, ?_⟩⟩, fun w' e => by cases e; exact hl⟩
    . have hn : (ownF S y).isSome = false := by simpa using hn
      rw [hn] at hk; exact hk none w rfl (Upd.refl _ _)
    . have hn : (ownF S y).isSome = true := by simpa using hn
      rw [hn] at hk
      have hy : y.size <= 1000000 := by
        rcases find_key (l := S.owns) (n := y) with ⟨_, a, e, hm⟩ | ⟨_, e⟩
        . exact ok.owns _ hm
        . unfold ownF at hn; rw [e] at hn; cases hn
      have := ok.path; exact dotted_c (by omega) fun q w' ha u => ⟨q, rfl, hk q w' ha u⟩
  . have hx : x ≠ ByteArray.empty := by
      have h2 : (x.toList == ByteArray.toList .empty) = false := hx; rw [beq_bytes] at h2; exact of_decide_eq_false h2
    rw [if_neg hx] at hk; obtain ⟨v, hl, p, c, p', c', rfl, hT, hV⟩ := h.look x; have okA := AlOk_of ok x
    have hal : ∀ {b : Bool}, (alF S x).isSome = b -> (alF S x) = (if b then some ((alF S x).getD alZ) else none) := by
      rintro b rfl; cases alF S x <;> rfl
    generalize hb : (alF S x).isSome = b22 at hl; rw [hal hb] at hk; generalize (alF S x).getD alZ = A at *; refine ptrC_some ⟨_, by rw [add_mk]; exact h.blk.cell rfl, _, ⟨_, _, _, _, _, _, _, _, _, _, rfl, newC_mk fun w24 B24 u24 s24 => ?_⟩, fun w' e => by cases e; exact hl true⟩; refine al_put B24 _ _ _ _ _ fun w29 B29 u29 s29 => ?_; have U29 : Upd No w w29 := u24.trans u29 fun x hx (e : x = _) => by omega
    refine ⟨fun w' => w' = w29 /\ (b22 && A.dark) = false, ?_, fun b w' => w' = w29 /\ b = (b22 && A.dark), ?_, ?_⟩
    . rintro w31 ⟨rfl, hd⟩ _; refine ⟨fun w' => Upd No w31 w' /\ (b22 && (expF A.types y).isSome) = true, ?_, _, _, _, B29.cell rfl, export_c (hT.keep U29) rfl okA.types fun q w44 ha u44 => ⟨_, _, rfl, fun b w' => w' = w44 /\ b = !(b22 && (expF A.types y).isSome), ?_, ?_⟩⟩
      . rintro w34 ⟨u34, hb⟩ _; refine ⟨_, (B29.upd u34 id).cell rfl, ?_⟩; obtain ⟨rfl, he⟩ := Bool.and_eq_true_iff.1 hb; have hd : A.dark = false := by simpa using hd
        simp only [↓reduceIte, hd, he, Bool.false_eq_true] at hk
        have hy : y.size <= 1000000 := by
          obtain ⟨z, hz, e⟩ := expF_mem he; rw [<- size_of_toList e]; exact okA.names z hz
        have := okA.path; exact dotted_c (by omega) fun q w' ha u => ⟨q, rfl, hk q w' (at_le ha (by have := (up U29 u34).size; omega)) (up U29 (up u34 u))⟩
      . rintro b w49 ⟨rfl, rfl⟩ _; refine brC_intro (fun hn => ?_) fun hn => ⟨u44, by simpa using hn⟩
        have : (if b22 = true then some A else none : Option Al) = none \/ (b22 = true /\ (expF A.types y).isSome = false) := by
          cases b22
          . exact .inl rfl
          . exact .inr ⟨rfl, by simpa using hn⟩
        rcases this with e | ⟨rfl, he⟩
        . rw [e] at hk; exact hk none w49 rfl (up U29 u44)
        . have hd : A.dark = false := by simpa using hd
          simp only [↓reduceIte, hd, he, Bool.false_eq_true] at hk; exact hk none w49 rfl (up U29 u44)
      . exact brC_intro (fun hn => ⟨rfl, by cases b22 <;> simp_all⟩) fun hn => ⟨rfl, by cases b22 <;> simp_all⟩
    . rintro b w32 ⟨rfl, rfl⟩ _; refine brC_intro (fun hd => ?_) fun hd => ⟨rfl, hd⟩; obtain ⟨rfl, hd2⟩ := Bool.and_eq_true_iff.1 hd; simp only [↓reduceIte] at hk; simp only [if_pos hd2] at hk; exact anything_c fun q w' ha u => ⟨q, rfl, hk q w' (at_le ha U29.size) (up U29 u)⟩
    . exact brC_intro (fun hn => ⟨_, B29.cell rfl, rfl, by rw [hn]; rfl⟩) fun hn => ⟨rfl, by rw [hn]; rfl⟩
def valueF (S : Sc) (of_ n : ByteArray) : T × Bool × Bool :=
  match alF S of_ with
  | none => (.nil, false, false)
  | some a => if a.dark then (tk 1, true, true) else ((expF a.values n).getD .nil, true, (expF a.values n).isSome)
theorem Value_c {w : World} {sc : Nat} {S : Sc} (hS : ScAt w sc S) (ok : ScOk S) {x y : ByteArray} {K : KV}
    (hk : ∀ q w', At w' (.pointer q) (valueF S x y).1 -> Upd No w w' -> K (.tuple #[.pointer q, .bool (valueF S x y).2.1, .bool (valueF S x y).2.2]) w') :
    callC Tryz.prog 20 #[.pointer (some ⟨sc, 0, none⟩), .string x, .string y] w K := by
  obtain ⟨m1, m2, ov, f1, f2, h⟩ := hS; unfold valueF at hk; refine Value_text _ _ _ _ _ (brC_ff rfl ?_); obtain ⟨v, hl, p, c, p', c', rfl, hT, hV⟩ := h.look x; have okA := AlOk_of ok x
  have hz : (alF S x).isSome = false -> (alF S x).getD alZ = alZ := by
    intro e
    cases h : alF S x with
    | none => rfl
    | some => rw [h] at e; cases e
  have hal : ∀ {b : Bool}, (alF S x).isSome = b -> (alF S x) = (if b then some ((alF S x).getD alZ) else none) := by
    rintro b rfl; cases alF S x <;> rfl
  generalize hb : (alF S x).isSome = b22 at hl hz; rw [hal hb] at hk; generalize (alF S x).getD alZ = A at *; refine ptrC_some ⟨_, by rw [add_mk]; exact h.blk.cell rfl, _, ⟨_, _, _, _, _, _, _, _, _, _, rfl, newC_mk fun w24 B24 u24 s24 => ?_⟩, fun w' e => by cases e; exact hl true⟩; refine al_put B24 _ _ _ _ _ fun w29 B29 u29 s29 => ?_; have U29 : Upd No w w29 := u24.trans u29 fun x hx (e : x = _) => by omega
  refine ⟨fun w' => w' = w29 /\ (b22 && A.dark) = false, ?_, fun b w' => w' = w29 /\ b = (b22 && A.dark), ?_, ?_⟩
  . rintro w31 ⟨rfl, hd⟩ _; refine ⟨_, _, _, B29.cell rfl, export_c (hV.keep U29) rfl okA.values fun q w44 ha u44 => ⟨_, _, rfl, ?_⟩⟩
    cases b22 with
    | false =>
      obtain rfl := hz rfl; have e : expF ([] : List Ex) y = none := rfl; simp only [e, Option.getD_none, Option.isSome_none] at ha hk ⊢; exact brC_ff rfl (hk q w44 ha (up U29 u44))
    | true =>
      have hd : A.dark = false := by simpa using hd
      simp only [↓reduceIte, hd, Bool.false_eq_true] at hk; have := hk q w44 ha (up U29 u44); refine brC_intro (fun hn => ?_) fun hn => ?_
      . rw [hn] at this; exact this
      . rw [hn] at this; exact this
  . rintro b w32 ⟨rfl, rfl⟩ _; refine brC_intro (fun hd => ?_) fun hd => ⟨rfl, hd⟩; obtain ⟨rfl, hd2⟩ := Bool.and_eq_true_iff.1 hd; simp only [↓reduceIte] at hk; simp only [if_pos hd2] at hk; exact anything_c fun q w' ha u => ⟨q, rfl, hk q w' (at_of ha) (up U29 u)⟩
  . exact brC_intro (fun hn => ⟨_, B29.cell rfl, rfl, by rw [hn]; rfl⟩) fun hn => ⟨rfl, by rw [hn]; rfl⟩
def Mt (w : World) (b : Nat) : Prop := ∃ cs t, Blk w b cs t /\ (t = 77 \/ t = 35)
abbrev UpK (w w' : World) : Prop := Upd (Mt w) w w'
theorem mt_back {w w' : World} (u : UpK w w') {b : Nat} (hb : b < w.heap.size) (h : Mt w' b) : Mt w b := by
  apply Classical.byContradiction; intro hn; obtain ⟨cs, t, hB, ht⟩ := h; have := u.block b hb hn; exact hn ⟨cs, t, by unfold Blk at hB ⊢; rw [<- this]; exact hB, ht⟩
theorem UpK.then {w w' w'' : World} (u : UpK w w') (v : UpK w' w'') : UpK w w'' := u.trans v fun _ hx h => mt_back u hx h
theorem upK {w w' : World} (u : Upd No w w') : UpK w w' := u.no
theorem row_blkOf {w : World} {e : TypeId} {size : Nat} {v : Value} {xs : List Value} (h : RowAt w e size v xs) {b : Nat} (hb : InRow v b) : ∃ cs, Blk w b cs e := by
  obtain ⟨n, _, ⟨rfl, _⟩ | ⟨g, o, cap, cur, rfl, hg, _⟩⟩ := h
  . cases hb
  . have : g = b := by simpa [InRow, Value.ownBlock] using hb
    subst this; exact ⟨_, hg⟩
theorem tyAt_kind {I : Ids} {F S : Nat -> Prop} {w w' : World} (u : Upd S w w') (hn : ∀ b cs e, Blk w b cs e -> e = I.str \/ e = I.ptr \/ e = I.ty -> ¬ S b) : ∀ (t : T) (v : Value), TyAt I F w v t -> TyAt I F w' v t := by
  refine ind (fun v h => h) fun k nm ns ta r ha hr v h => ?_; unfold TyAt at h ⊢; obtain ⟨b, nv, av, rv, vs, rfl, hb, hB, hN, fN, hA, fA, hT, hR⟩ := h; refine ⟨b, nv, av, rv, vs, rfl, hb, hB.upd u (hn b _ _ hB (.inr (.inr rfl))), hN.upd u fun x hx => ?_, fN, hA.upd u fun x hx => ?_, fA, ?_, hr rv hR⟩
  . obtain ⟨cs, h⟩ := row_blkOf hN hx; exact hn x _ _ h (.inl rfl)
  . obtain ⟨cs, h⟩ := row_blkOf hA hx; exact hn x _ _ h (.inr (.inl rfl))
  rw [tysAt_iff] at hT ⊢; exact ⟨hT.1, fun i v t a b => ha t (List.mem_of_getElem? b) v (hT.2 i v t a b)⟩
theorem notMt {w : World} {b : Nat} {cs : Array Value} {e : TypeId} (h : Blk w b cs e) (he : e ≠ 77 /\ e ≠ 35) : ¬ Mt w b := fun ⟨_, t, hB, ht⟩ => by
  obtain ⟨_, rfl⟩ := h.inj hB; exact ht.elim he.1 he.2
theorem ty_k {F : Nat -> Prop} {w w' : World} {v : Value} {t : T} (h : TyAt ids F w v t) (u : UpK w w') : TyAt ids F w' v t :=
  tyAt_kind u (fun b cs e hB he => notMt hB (by rcases he with rfl | rfl | rfl <;> decide)) t v h
theorem tys_k {F : Nat -> Prop} {w w' : World} {vs : List Value} {l : List T} (h : TysAt ids F w vs l) (u : UpK w w') : TysAt ids F w' vs l := by
  rw [tysAt_iff] at h ⊢; exact ⟨h.1, fun i v t a b => ty_k (h.2 i v t a b) u⟩
theorem row_k {w w' : World} {e : TypeId} {size : Nat} {v : Value} {xs : List Value} (h : RowAt w e size v xs) (u : UpK w w') (he : e ≠ 77 /\ e ≠ 35) : RowAt w' e size v xs :=
  h.upd u fun b hb => by obtain ⟨cs, hB⟩ := row_blkOf h hb; exact notMt hB he
abbrev Dg := Int × Int
def dgCells (path : ByteArray) : List Dg -> List Value
  | [] => []
  | d :: l => .string path :: .int .i64 d.1 :: .int .i64 d.2 :: dgCells path l
theorem dgCells_len (path : ByteArray) (l : List Dg) : (dgCells path l).length = l.length * 3 := by
  induction l with
  | nil => rfl
  | cons d l ih => simp only [dgCells, List.length_cons, ih]; omega
theorem dgCells_app (path : ByteArray) (l m : List Dg) : dgCells path (l ++ m) = dgCells path l ++ dgCells path m := by
  induction l with
  | nil => rfl
  | cons d l ih => simp [dgCells, ih]
theorem dgCells_one (path : ByteArray) (l : List Dg) : ∀ u ∈ dgCells path l, u.oneCell' = true := by
  induction l with
  | nil => intro u hu; cases hu
  | cons d l ih =>
    intro u hu; simp only [dgCells, List.mem_cons] at hu; rcases hu with rfl | rfl | rfl | hu
    . rfl
    . rfl
    . rfl
    . exact ih u hu
theorem dg_grow {path : ByteArray} {w : World} {v : Value} {told ds : List Dg} (h : RowAt w 35 3 v (dgCells path told)) (hl : told.length + ds.length <= 1000000000) (p : Option Addr) (m c : Nat) (hm : m = ds.length)
    (hnews : ∀ j u, (dgCells path ds)[j]? = some u -> ∃ a : Addr, p = some a /\ w.cell? (a.add j) = some u) {K : KV}
    (hk : ∀ v' w', RowAt w' 35 3 v' (dgCells path (told ++ ds)) -> Upd (InRow v) w w' -> (∀ b, InRow v' b -> InRow v b \/ w.heap.size <= b) -> K v' w') :
    runC Tryz.prog (Builtin.append_ #[24, 24] 24 #[v, .slice p m c]) w K := by
  obtain ⟨i, h1, h2, h3, h4⟩ := info_get (P := Tryz.prog) (e := 35) (s := 3) (b := 32) (z := .agg #[.string .empty, .int .i64 0, .int .i64 0]) (by kernel_rfl); subst hm; refine append_slice (P := Tryz.prog) (by kernel_rfl) h1 h2 h3 h4 rfl h (dgCells_len _ _) p ds.length c (dgCells path ds) (by decide) (dgCells_len _ _) hnews (dgCells_one _ _) (by simp only [maxLen]; omega) (by omega) fun v' w' r u hb => hk v' w' ?_ u hb; rw [dgCells_app]; exact r
structure Rz (w0 : World) (r sc : Nat) (S : Sc) (told : List Dg) (w : World) : Prop where
  up : Upd No w0 w
  r0 : w0.heap.size <= r
  st : ∃ tv, Blk w r #[.pointer (some ⟨sc, 0, none⟩), tv] 77 /\ RowAt w 35 3 tv (dgCells S.path told) /\ ∀ b, InRow tv b -> w0.heap.size <= b
theorem Rz.keep {w0 w w' : World} {r sc : Nat} {S : Sc} {told : List Dg} (h : Rz w0 r sc S told w) (u : Upd No w w') : Rz w0 r sc S told w' := by
  obtain ⟨tv, h1, h2, h3⟩ := h.st; exact ⟨Go.Proofs.YtdbkclnlfibgdaaGreatDoor.up h.up u, h.r0, tv, h1.upd u id, h2.upd u fun _ _ h => h, h3⟩
theorem lds24 {w : World} {a : Addr} {p : Option Addr} {n c : Nat} (h : w.cell? a = some (.slice p n c)) : Lds Tryz.prog 24 w a (.slice p n c) := by
  have key : (∃ p' n' c', w.cell? a = some (.slice p' n' c') /\ .slice p' n' c' = Value.slice p n c) = ldVC Tryz.prog 24 w a (fun v => v = .slice p n c) := by kernel_rfl
  obtain ⟨v, rfl, hr⟩ := semR_out (ldVC_sound (of_eq ⟨_, _, _, h, rfl⟩ key)); exact hr w rfl
theorem lds23 {w : World} {a : Addr} {p : Option Addr} (h : w.cell? a = some (.pointer p)) : Lds Tryz.prog 23 w a (.pointer p) := by
  have key : (∃ p', w.cell? a = some (.pointer p') /\ .pointer p' = Value.pointer p) = ldVC Tryz.prog 23 w a (fun v => v = .pointer p) := by kernel_rfl
  obtain ⟨v, rfl, hr⟩ := semR_out (ldVC_sound (of_eq ⟨_, h, rfl⟩ key)); exact hr w rfl
section
variable {w0 w : World} {r sc : Nat} {S : Sc} {told : List Dg} {K : KV}
theorem ScAt.cellP {w : World} {sc : Nat} {S : Sc} (h : ScAt w sc S) : w.cell? ⟨sc, 0, none⟩ = some (.string S.path) := by
  obtain ⟨m1, m2, ov, f1, f2, h⟩ := h; exact h.blk.cell rfl
theorem tell_c (hS : ScAt w0 sc S) (Z : Rz w0 r sc S told w) (hl : told.length <= 999999999) {a c : Int} (hk : ∀ q w', Rz w0 r sc S (told ++ [(a, c)]) w' -> UpK w w' -> TyAt ids (From w.heap.size) w' (.pointer q) (tk 1) -> K (.pointer q) w') :
    callC Tryz.prog 93 #[.pointer (some ⟨r, 0, none⟩), .int .i64 a, .int .i64 c] w K := by
  obtain ⟨tv, B, row, own⟩ := Z.st; obtain ⟨p, n, cp, rfl, _, _, _⟩ := row.shape; have hp := cell_keep hS.cellP Z.up; have r0 := Z.r0; have z0 := Z.up.size; have hrl := B.lt; refine tell_text _ _ _ _ _ ⟨fun w' => Rz w0 r sc S (told ++ [(a, c)]) w' /\ UpK w w', ?_, drawC_mk fun w6 u6 s6 => ?_⟩
  . rintro w1 ⟨Z1, u1⟩ _; exact anything_c fun q w' ha u => ⟨q, rfl, hk q w' (Z1.keep u) (u1.then (upK u)) (at_le ha u1.size)⟩
  have B6 := B.upd u6 id; have hp6 := cell_keep hp u6; refine ⟨fun w' => Blk w' r #[.pointer (some ⟨sc, 0, none⟩), .slice p n cp] 77 /\ w'.cell? ⟨sc, 0, none⟩ = some (.string S.path), ptrC_some ⟨_, _, _, by rw [add_mk]; exact B6.cell rfl, fun w12 h => by rw [add_mk]; exact lds24 (h.1.cell rfl), ptrC_some ⟨_, B6.cell rfl, fun w15 h => lds23 (h.1.cell rfl), ptrC_some ⟨_, hp6, fun w18 h => lds_str h.2, ?_, trivial⟩⟩⟩⟩; refine newC_mk fun w20 B20 u20 s20 => ⟨⟨B6.upd u20 id, cell_keep hp6 u20⟩, ?_, trivial⟩; have row20 := (row.upd u6 fun _ _ h => h).upd u20 fun _ _ h => h; refine dg_grow (ds := [(a, c)]) row20 (by simp; omega) _ 1 1 rfl (fun j u hj => ?_) fun v' w22 row22 u22 hin22 => ?_
  . match j, hj with
    | 0, hj => cases hj; exact ⟨_, rfl, B20.cell rfl⟩
    | 1, hj => cases hj; exact ⟨_, rfl, B20.cell rfl⟩
    | 2, hj => cases hj; exact ⟨_, rfl, B20.cell rfl⟩
    | j + 3, hj => simp [dgCells] at hj
  have B20r := (B6.upd u20 id); have nr : ¬ InRow (.slice p n cp) r := fun h => absurd (row_type row20 B20r h) (by decide); have B22 := B20r.upd u22 nr
  have hp22 : w22.cell? ⟨sc, 0, none⟩ = some (.string S.path) := by
    have hsc := World.block_lt_of_cell? _ _ hS.cellP; have e := u22.block sc (by have : sc < w0.heap.size := hsc; have := u6.size; have := u20.size; omega) (fun h => by have := own _ h; have : sc < w0.heap.size := hsc; omega); have h20 := cell_keep hp6 u20; unfold World.cell? at h20 ⊢; rw [e]; exact h20
  obtain ⟨p2, n2, c2, rfl, _, _, _⟩ := row22.shape; refine ⟨_, _, _, rfl, ⟨B22, hp22⟩, ptrC_some ⟨?_, trivial⟩⟩; rw [add_mk]; refine stC_mk B22 (by simp) fun w27 B27 u27 s27 => ⟨⟨?_, r0, _, B27, row22.upd u27 fun b hb e => ?_, fun b hb => ?_⟩, ?_⟩
  . exact (((up Z.up u6).trans u20 fun _ _ h => h).trans u22 fun b hb h => by have := own b h; omega).trans u27 fun b hb (e : b = r) => by omega
  . subst e; exact absurd (row_type row22 B22 hb) (by decide)
  . rcases hin22 b hb with h | h
    . exact own b h
    . have := u6.size; have := u20.size; omega
  . have k1 : UpK w w20 := upK (up u6 u20); have k2 : UpK w20 w22 := u22.mono fun b _ hb => by obtain ⟨cs, hB⟩ := row_blkOf row20 hb; exact ⟨cs, _, hB, .inr rfl⟩
    have k3 : UpK w22 w27 := u27.mono fun b _ (e : b = r) => by subst e; exact ⟨_, _, B22, .inl rfl⟩
    exact (k1.then k2).then k3
end
mutual
def resF (S : Sc) : Wt -> T × List Dg
  | .nil => (tk 1, [])
  | .mk k a al nm ns xs r =>
    if 1 <= k /\ k <= 4 then (tk (k + 1), [])
    else if k = 6 then (match nameF S al nm with | some t => (t, []) | none => (tk 1, [(a, 5)]))
    else if k = 7 then
      (if (recF ns (resFs S xs).1).2 = 2 then (tk 1, (resFs S xs).2 ++ [(a, 4)]) else if (recF ns (resFs S xs).1).2 = 3 then (tk 1, (resFs S xs).2 ++ [(a, 12)]) else ((recF ns (resFs S xs).1).1, (resFs S xs).2))
    else if k = 8 then
      (if (funF (resFs S xs).1 (resF S r).1).2 = 0 then ((funF (resFs S xs).1 (resF S r).1).1, (resFs S xs).2 ++ (resF S r).2) else (tk 1, (resFs S xs).2 ++ (resF S r).2 ++ [(a, 12)]))
    else if k = 9 then
      (if (unionF (resFs S xs).1).2 = 0 then ((unionF (resFs S xs).1).1, (resFs S xs).2) else (tk 1, (resFs S xs).2 ++ [(a, 12)]))
    else (tk 1, [])
def resFs (S : Sc) : List Wt -> List T × List Dg
  | [] => ([], [])
  | a :: l => ((resF S a).1 :: (resFs S l).1, (resF S a).2 ++ (resFs S l).2)
end
theorem resFs_len (S : Sc) (l : List Wt) : (resFs S l).1.length = l.length := by
  induction l with
  | nil => rfl
  | cons a l ih => simp [resFs, ih]
theorem resFs_mem {S : Sc} {l : List Wt} {t : T} (h : t ∈ (resFs S l).1) : ∃ a ∈ l, t = (resF S a).1 := by
  induction l with
  | nil => cases h
  | cons a l ih =>
    unfold resFs at h; rcases List.mem_cons.1 h with rfl | h
    . exact ⟨a, by simp, rfl⟩
    . obtain ⟨b, hb, e⟩ := ih h; exact ⟨b, by simp [hb], e⟩
theorem resFs_told {S : Sc} {l : List Wt} (h : ∀ a ∈ l, (resF S a).2.length <= xsz a) : (resFs S l).2.length <= xszs l := by
  induction l with
  | nil => exact Nat.zero_le _
  | cons a l ih =>
    unfold resFs xszs; have := h a (by simp); have := ih fun b hb => h b (by simp [hb]); simp only [List.length_append]; omega
theorem res_told (S : Sc) : ∀ t : Wt, (resF S t).2.length <= xsz t := by
  refine Go.Tx.ind (Nat.zero_le _) fun k a al nm ns xs r ha hr => ?_; have h1 := resFs_told (S := S) ha; unfold resF xsz; split
  . exact Nat.zero_le _
  split
  . split
    . simp
    . simp; omega
  split
  . split
    . simp; omega
    . split
      . simp; omega
      . simp; omega
  split
  . split
    . simp; omega
    . simp; omega
  split
  . split
    . simp; omega
    . simp; omega
  . simp
theorem dotted_named {x y : ByteArray} : (txt (x ++ dotB ++ y)).contains 46 = true := by
  have : txt (x ++ dotB ++ y) = txt x ++ [46] ++ txt y := by
    cases x; cases y; simp [txt, dotB]
  rw [this]; simp
theorem dm_named {x y : ByteArray} : Dm (.mk 6 (x ++ dotB ++ y) [] [] .nil) := dm_of_kind (fun _ => dotted_named) (fun a h => by cases h) dm_nil
theorem dm_tk (k : Int) : Dm (tk k) := dm_of_kind (by decide) (fun a h => by cases h) dm_nil
theorem nameF_dm {S : Sc} {x y : ByteArray} {t : T} (h : nameF S x y = some t) : Dm t := by
  unfold nameF at h; split at h
  . split at h
    . cases h; exact dm_named
    . cases h
  . split at h
    . cases h
    . split at h
      . cases h; exact dm_tk 1
      . split at h
        . cases h; exact dm_named
        . cases h
theorem recF_e (ns : List ByteArray) (l : List T) : (recF ns l).2 = 0 \/ (recF ns l).2 = 2 \/ (recF ns l).2 = 3 := by
  unfold recF fits; split
  . split
    . exact .inr (.inr rfl)
    . exact .inl rfl
  . exact .inr (.inl rfl)
theorem res_dm (S : Sc) : ∀ t : Wt, Dm (resF S t).1 := by
  refine Go.Tx.ind (dm_tk 1) fun k a al nm ns xs r ha hr => ?_
  have hA : ∀ t ∈ (resFs S xs).1, Dm t := fun t ht => by
    obtain ⟨b, hb, rfl⟩ := resFs_mem ht; exact ha b hb
  have e0 : namedL (txt .empty) = true -> (txt .empty).contains 46 = true := by decide
  unfold resF; split
  . exact dm_tk _
  split
  . split
    . rename_i h; exact nameF_dm h
    . exact dm_tk _
  split
  . split
    . exact dm_tk _
    . rename_i h2; split
      . exact dm_tk _
      . rename_i h3; have h0 : (recF ns (resFs S xs).1).2 = 0 := by rcases recF_e ns (resFs S xs).1 with h | h | h <;> first | exact h | exact absurd h h2 | exact absurd h h3
        exact dm_made (t := .mk 7 .empty ns (resFs S xs).1 .nil) (dm_of_kind e0 hA dm_nil) hA dm_nil h0
  split
  . split
    . rename_i h0; exact dm_made (t := .mk 8 .empty [] (resFs S xs).1 (resF S r).1) (dm_of_kind e0 hA hr) hA hr h0
    . exact dm_tk _
  split
  . split
    . rename_i h0; exact dm_made (t := .mk 9 .empty [] (resFs S xs).1 .nil) (dm_of_kind e0 hA dm_nil) hA dm_nil h0
    . exact dm_tk _
  . exact dm_tk _
theorem res_tells (S : Sc) (xs : List Wt) (h : allOk (resFs S xs).1 = true) : Tells (resFs S xs).1 :=
  tells_good fun a ha => (goods_of (fun a ha => by obtain ⟨b, hb, rfl⟩ := resFs_mem ha; exact res_dm S b) (allOk_iff.1 h) a ha).1
theorem xsz_all {k a : Int} {al nm : ByteArray} {ns : List ByteArray} {xs : List Wt} {r : Wt} : xsz (.mk k a al nm ns xs r) = 1 + xszs xs + xsz r := rfl
theorem len_xszs (l : List Wt) : l.length <= xszs l := by
  induction l with
  | nil => exact Nat.zero_le _
  | cons a l ih => simp only [xszs, List.length_cons]; omega
section
variable {w0 : World} {r sc : Nat} {S : Sc}
def ResOk (w0 : World) (r sc : Nat) (S : Sc) (t : Wt) : Prop := ∀ (w : World) (told : List Dg) (x : Option Addr) (K : KV), XAt idx (From 0) w0 (.pointer x) t -> Rz w0 r sc S told w -> told.length + xsz t <= 900000000 -> xsz t <= 1000000 ->
  (∀ q w', Rz w0 r sc S (told ++ (resF S t).2) w' -> UpK w w' -> TyAt ids (From w.heap.size) w' (.pointer q) (resF S t).1 -> K (.pointer q) w') -> callC Tryz.prog 26 #[.pointer (some ⟨r, 0, none⟩), .pointer x] w K
theorem x_ptr {I : Ids} {F : Nat -> Prop} {w : World} {v : Value} {t : Wt} (h : XAt I F w v t) : ∃ q, v = .pointer q := by
  cases t with
  | nil => exact ⟨none, h⟩
  | mk => unfold XAt at h; obtain ⟨b, _, _, _, _, rfl, _⟩ := h; exact ⟨_, rfl⟩
theorem all_c {xs : List Wt} (hx : ∀ t ∈ xs, ResOk w0 r sc S t) {w : World} {told : List Dg} {p : Option Addr} {n c : Nat} {K : KV} (hR : XRow idx (From 0) w0 (.slice p n c) xs) (Z : Rz w0 r sc S told w) (hl : told.length + xszs xs <= 900000000) (hl2 : xszs xs <= 1000000)
    (hk : ∀ p' n' c' w', Rz w0 r sc S (told ++ (resFs S xs).2) w' -> UpK w w' -> TyRow ids (From w.heap.size) w' (.slice p' n' c') (resFs S xs).1 -> K (.slice p' n' c') w') :
    callC Tryz.prog 95 #[.pointer (some ⟨r, 0, none⟩), .slice p n c] w K := by
  obtain ⟨hn, hnc, hcm, hget⟩ := hR.get; subst hn; have hlx := len_xszs xs
  refine all_text _ _ _ _ _ _ ⟨fun p' n' c' m w' => ∃ i vs, m = ((i : Nat) : Int) /\ i <= xs.length /\ Own w.heap.size w' 29 p' n' c' vs /\ TysAt ids (fun b => w.heap.size <= b /\ ¬ InRow (.slice p' n' c') b) w' vs (resFs S (xs.take i)).1 /\ Rz w0 r sc S (told ++ (resFs S (xs.take i)).2) w' /\ UpK w w',
    fun _ _ _ m _ => xs.length - m.toNat, ⟨0, [], rfl, Nat.zero_le _, ownNil _ _ _, trivial, by simpa [resFs] using Z, Upd.refl _ _⟩, ?_⟩
  rintro p' n' c' m w6 ⟨i, vs, rfl, hi, own, hT, Z6, u6⟩ _; refine brC_intro (fun hlt => ?_) fun hge => ?_
  . have hi : i < xs.length := by have := of_decide_eq_true hlt; omega
    obtain ⟨g, o, v, rfl, hc, hX⟩ := hget i xs[i] (List.getElem?_eq_getElem hi); obtain ⟨x, rfl⟩ := x_ptr hX; refine ⟨by omega, by omega, ptrC_some ?_⟩; rw [Int.toNat_natCast, add_mk, Nat.mul_one]; refine ⟨x, cell_keep hc Z6.up, ?_⟩
    have hsum : (resFs S (xs.take i)).2.length + xsz xs[i] <= xszs xs := by
      have h1 : ∀ (l : List Wt) (i : Nat) (hi : i < l.length), (resFs S (l.take i)).2.length + xsz l[i] <= xszs l := by
        intro l
        induction l with
        | nil => intro i hi; exact absurd hi (Nat.not_lt_zero i)
        | cons a l ih =>
          intro i hi
          cases i with
          | zero => simp [resFs, xszs]; omega
          | succ i =>
            have := ih i (by simpa using hi); have := res_told S a; simp [resFs, xszs]; omega
      exact h1 xs i hi
    refine hx xs[i] (List.getElem_mem hi) w6 _ x _ hX Z6 (by simp only [List.length_append]; omega) (by omega) fun q w11 Z11 u11 ht11 => ⟨q, rfl, newC_mk fun w14 B14 u14 s14 => ?_⟩; have z6 := u6.size; have z11 := u11.size; have own14 : Own w.heap.size w14 29 p' n' c' vs := Own.keep (w := w11) ⟨row_k own.row u11 (by decide), own.own, own.len, own.cap⟩ u14; have hvl := hT.length; rw [resFs_len] at hvl; refine grow_row elemTyp (n0 := w.heap.size) own14 (by have := u14.size; omega) (row_one B14) (by intro u hu; simp at hu; subst hu; rfl) (by omega) (by simp only [List.length_cons, List.length_nil]; simp at hvl; omega) fun p2 n2 c2 w16 own16 _ hin16 u16 => ?_; have tk1 : (xs.take (i + 1)) = xs.take i ++ [xs[i]] := by rw [List.take_add_one, List.getElem?_eq_getElem hi]; rfl
    have happ : ∀ l m : List Wt, (resFs S (l ++ m)).1 = (resFs S l).1 ++ (resFs S m).1 /\ (resFs S (l ++ m)).2 = (resFs S l).2 ++ (resFs S m).2 := by
      intro l m
      induction l with
      | nil => simp [resFs]
      | cons a l ih => simp [resFs, ih.1, ih.2]
    rw [wrap_succ (by simp only [maxLen] at hcm; omega)]; refine ⟨⟨i + 1, vs ++ [.pointer q], rfl, hi, own16, ?tys, ?rz, ?uk⟩, ?mu⟩
    case tys =>
      rw [tk1, (happ _ _).1]
      have nIn : ∀ b, b < w14.heap.size -> ¬ InRow (.slice p' n' c') b -> ¬ InRow (.slice p2 n2 c2) b := fun b hb hn h => by
        rcases hin16 b h with h | h
        . exact hn h
        . omega
      refine TysAt.append ?_ ⟨?_, trivial⟩
      . have h14 := (tys_k hT u11).keep u14; exact ((h14.mono (G := fun b => (w.heap.size <= b /\ ¬ InRow (.slice p' n' c') b) /\ b < w14.heap.size) fun b hlt hb => ⟨hb, hlt⟩).upd u16 fun b hb h => hb.1.2 h).mono fun b _ hb => ⟨hb.1.1, nIn b hb.2 hb.1.2⟩
      . have h14 := ht11.keep u14; exact ((h14.mono (G := fun b => w6.heap.size <= b /\ b < w14.heap.size) fun b hlt hb => ⟨hb, hlt⟩).upd u16 fun b hb h => by have := own.row.lt h; omega).mono fun b _ hb => ⟨by omega, nIn b hb.2 fun h => by have := own.row.lt h; omega⟩
    case rz =>
      rw [tk1, (happ _ _).2, <- List.append_assoc]; have Z14 := Z11.keep u14; obtain ⟨tv, hB, hrow, hown⟩ := Z14.st; have e1 : (resFs S [xs[i]]).2 = (resF S xs[i]).2 := by simp [resFs]
      rw [e1]; have hne : ∀ b, InRow (.slice p' n' c') b -> ∃ cs, Blk w14 b cs 29 := fun b h => row_blkOf own14.row h; refine ⟨Z14.up.trans u16 fun b hb h => by have := own.own b h; have := Z.up.size; omega, Z14.r0, tv, hB.upd u16 fun h => ?_, hrow.upd u16 fun b hb h => ?_, hown⟩
      . obtain ⟨cs, h⟩ := hne _ h; exact absurd (h.inj hB).2 (by decide)
      . obtain ⟨cs, h⟩ := hne _ h; exact absurd (row_type hrow h hb) (by decide)
    case uk =>
      refine ((u6.then u11).then (upK u14)).trans u16 fun b hb h => ?_; have := own.own b h; omega
    case mu =>
      simp only [Int.toNat_natCast]; have : ((i : Int) + 1).toNat = i + 1 := by omega
      omega
  . have hi : i = xs.length := by have := of_decide_eq_false hge; omega
    subst hi; rw [List.take_length] at hT Z6; exact hk _ _ _ w6 Z6 u6 ⟨vs, own.row, own.own, hT.mono fun b _ hb => hb.1⟩
end
theorem lds54 {w : World} {a : Addr} {p : Option Addr} {n c : Nat} (h : w.cell? a = some (.slice p n c)) : Lds Tryz.prog 54 w a (.slice p n c) := by
  have key : (∃ p' n' c', w.cell? a = some (.slice p' n' c') /\ .slice p' n' c' = Value.slice p n c) = ldVC Tryz.prog 54 w a (fun v => v = .slice p n c) := by kernel_rfl
  obtain ⟨v, rfl, hr⟩ := semR_out (ldVC_sound (of_eq ⟨_, _, _, h, rfl⟩ key)); exact hr w rfl
theorem tyRow_k {F : Nat -> Prop} {w w' : World} {v : Value} {l : List T} (h : TyRow ids F w v l) (u : UpK w w') : TyRow ids F w' v l := by
  obtain ⟨vs, h1, h2, h3⟩ := h; exact ⟨vs, row_k h1 u (by decide), h2, tys_k h3 u⟩
theorem x_open {F : Nat -> Prop} {w : World} {x : Option Addr} {k a : Int} {al nm : ByteArray} {ns : List ByteArray} {xs : List Wt} {r : Wt} (h : XAt idx F w (.pointer x) (.mk k a al nm ns xs r)) :
    ∃ b p n c p' n' c' q, x = some ⟨b, 0, none⟩ /\ Blk w b #[.int .i64 k, .int .i64 a, .string al, .string nm, .slice p n c, .slice p' n' c', .pointer q] 63 /\ StrsAt w p ns /\ n = ns.length /\ XRow idx F w (.slice p' n' c') xs /\ XAt idx F w (.pointer q) r := by
  unfold XAt at h; obtain ⟨b, nv, av, rv, vs, e, hb, hB, hN, fN, hA, fA, hT, hR⟩ := h; cases e; obtain ⟨p, n, c, rfl, hn, _, _⟩ := hN.shape; obtain ⟨p', n', c', rfl, _, _, _⟩ := hA.shape; obtain ⟨q, rfl⟩ := x_ptr hR; exact ⟨b, p, n, c, p', n', c', q, rfl, hB, strs_row hN, by simpa using hn.symm, ⟨vs, hA, fA, hT⟩, hR⟩
section
variable {w0 : World} {r sc : Nat} {S : Sc} {k a : Int} {al nm : ByteArray} {ns : List ByteArray} {xs : List Wt} {rt : Wt} {w : World} {told : List Dg} {x : Option Addr} {K : KV}
theorem rname_c (hS : ScAt w0 sc S) (ok : ScOk S) (hX : XAt idx (From 0) w0 (.pointer x) (.mk k a al nm ns xs rt)) (Z : Rz w0 r sc S told w) (hl : told.length <= 900000000)
    (hk : ∀ q w', Rz w0 r sc S (told ++ (match nameF S al nm with | some t => (t, []) | none => (tk 1, [(a, 5)]) : T × List Dg).2) w' -> UpK w w' -> TyAt ids (From w.heap.size) w' (.pointer q) (match nameF S al nm with | some t => (t, []) | none => (tk 1, [(a, 5)]) : T × List Dg).1 -> K (.pointer q) w') :
    callC Tryz.prog 44 #[.pointer (some ⟨r, 0, none⟩), .pointer x] w K := by
  obtain ⟨b, p, n, c, p', n', c', q, rfl, hB, hN, hn, hA, hR⟩ := x_open hX; obtain ⟨tv, B, row, own⟩ := Z.st; refine rname_text _ _ _ _ (drawC_mk fun w6 u6 s6 => ?_); have Z6 := Z.keep u6; have hB6 := hB.upd Z6.up id; refine ⟨fun _ => False, ptrC_some ⟨_, (B.upd u6 id).cell rfl, fun _ h => h.elim, ptrC_some ⟨_, by rw [add_mk]; exact hB6.cell rfl, fun _ h => h.elim, ptrC_some ⟨_, by rw [add_mk]; exact hB6.cell rfl, fun _ h => h.elim, ?_, trivial⟩⟩⟩⟩; refine Named_c (hS.keep Z6.up) ok fun q w12 ht u12 => ⟨_, _, rfl, ?_⟩; have Z12 := Z6.keep u12
  cases he : nameF S al nm with
  | some t =>
    rw [he] at ht hk; refine brC_tt rfl (hk q w12 (by simpa using Z12) (upK (up u6 u12)) (at_le ht (by have := u6.size; omega)))
  | none =>
    rw [he] at ht hk; refine brC_ff rfl (ptrC_some ⟨_, by rw [add_mk]; exact (hB6.upd u12 id).cell rfl, tell_c hS Z12 (by omega) fun q w18 Z18 u18 ht18 => ⟨q, rfl, hk q w18 Z18 ((upK (up u6 u12)).then u18) (at_le ht18 (by have := (up u6 u12).size; omega))⟩⟩)
theorem record_c (hS : ScAt w0 sc S) (hx : ∀ t ∈ xs, ResOk w0 r sc S t) (hX : XAt idx (From 0) w0 (.pointer x) (.mk 7 a al nm ns xs rt)) (Z : Rz w0 r sc S told w) (hl : told.length + xszs xs <= 900000000) (hl2 : xszs xs <= 1000000)
    (hk : ∀ q w', Rz w0 r sc S (told ++ (resF S (.mk 7 a al nm ns xs rt)).2) w' -> UpK w w' -> TyAt ids (From w.heap.size) w' (.pointer q) (resF S (.mk 7 a al nm ns xs rt)).1 -> K (.pointer q) w') :
    callC Tryz.prog 45 #[.pointer (some ⟨r, 0, none⟩), .pointer x] w K := by
  obtain ⟨b, p, n, c, p', n', c', q, rfl, hB, hN, hn, hA, hR⟩ := x_open hX; have e7 : ¬ (1 <= (7 : Int) /\ (7 : Int) <= 4) := by decide
  have e6 : ¬ (7 : Int) = 6 := by decide
  unfold resF at hk; rw [if_neg e7, if_neg e6, if_pos rfl] at hk; have hlx := len_xszs xs; have htl := resFs_told (S := S) (l := xs) fun t _ => res_told S t; refine record_text _ _ _ _ ⟨fun p n w' => TyAt ids (From w.heap.size) w' (.pointer p) (recF ns (resFs S xs).1).1 /\ n = (recF ns (resFs S xs).1).2 /\ Rz w0 r sc S (told ++ (resFs S xs).2) w' /\ UpK w w', ?_, drawC_mk fun w6 u6 s6 => ?_⟩
  . rintro p1 n2 w3 ⟨ht, rfl, Z3, u3⟩ _; have hB3 := hB.upd Z3.up id; have z3 := u3.size; refine brC_intro (fun h2 => ?_) fun h2 => brC_intro (fun h3 => ?_) fun h3 => ?_
    . have h2 : (recF ns (resFs S xs).1).2 = 2 := by simpa using h2
      rw [if_pos h2] at hk; exact ptrC_some ⟨_, by rw [add_mk]; exact hB3.cell rfl, tell_c hS Z3 (by simp only [List.length_append]; omega) fun q w18 Z18 u18 ht18 => ⟨q, rfl, hk q w18 (by rw [<- List.append_assoc]; exact Z18) (u3.then u18) (at_le ht18 z3)⟩⟩
    . have h2 : ¬ (recF ns (resFs S xs).1).2 = 2 := by simpa using h2
      have h3 : (recF ns (resFs S xs).1).2 = 3 := by simpa using h3
      rw [if_neg h2, if_pos h3] at hk; exact ptrC_some ⟨_, by rw [add_mk]; exact hB3.cell rfl, tell_c hS Z3 (by simp only [List.length_append]; omega) fun q w18 Z18 u18 ht18 => ⟨q, rfl, hk q w18 (by rw [<- List.append_assoc]; exact Z18) (u3.then u18) (at_le ht18 z3)⟩⟩
    . have h2 : ¬ (recF ns (resFs S xs).1).2 = 2 := by simpa using h2
      have h3 : ¬ (recF ns (resFs S xs).1).2 = 3 := by simpa using h3
      rw [if_neg h2, if_neg h3] at hk; exact hk p1 w3 Z3 u3 ht
  have Z6 := Z.keep u6; have cB : ∀ w', Upd No w0 w' -> Blk w' b _ _ := fun w' u => hB.upd u id; refine ⟨fun w' => Upd No w0 w', ptrC_some ⟨_, _, _, by rw [add_mk]; exact (cB _ Z6.up).cell rfl, fun w' u => by rw [add_mk]; exact lds_strs ((cB _ u).cell rfl), ptrC_some ⟨_, _, _, by rw [add_mk]; exact (cB _ Z6.up).cell rfl, fun w' u => by rw [add_mk]; exact lds54 ((cB _ u).cell rfl), ?_, trivial⟩⟩⟩; refine all_c hx hA Z6 hl hl2 fun p1 n1 c1 w28 Z28 u28 hT28 => ⟨_, _, _, rfl, Z28.up, ?_, trivial⟩; have z28 := u28.size; have z6 := u6.size; refine c_rec (n0 := w6.heap.size) (strs_keep hN Z28.up) hn hT28 (by rw [resFs_len]; omega) z28 fun q w33 ht u33 => ⟨_, _, rfl, (Z28.keep u33).up, at_le ht z6, rfl, Z28.keep u33, ((upK u6).then u28).then (upK u33)⟩
theorem function_c (hS : ScAt w0 sc S) (hx : ∀ t ∈ xs, ResOk w0 r sc S t) (hrt : ResOk w0 r sc S rt) (hX : XAt idx (From 0) w0 (.pointer x) (.mk 8 a al nm ns xs rt)) (Z : Rz w0 r sc S told w) (hl : told.length + xszs xs + xsz rt <= 900000000) (hl2 : xszs xs + xsz rt <= 1000000)
    (hk : ∀ q w', Rz w0 r sc S (told ++ (resF S (.mk 8 a al nm ns xs rt)).2) w' -> UpK w w' -> TyAt ids (From w.heap.size) w' (.pointer q) (resF S (.mk 8 a al nm ns xs rt)).1 -> K (.pointer q) w') :
    callC Tryz.prog 46 #[.pointer (some ⟨r, 0, none⟩), .pointer x] w K := by
  obtain ⟨b, p, n, c, p', n', c', q, rfl, hB, hN, hn, hA, hR⟩ := x_open hX; unfold resF at hk; rw [if_neg (by decide), if_neg (by decide), if_neg (by decide), if_pos rfl] at hk; have hlx := len_xszs xs; have htl := resFs_told (S := S) (l := xs) fun t _ => res_told S t; have htr := res_told S rt; have cB : ∀ w', Upd No w0 w' -> Blk w' b _ _ := fun w' u => hB.upd u id; refine function_text _ _ _ _ (ptrC_some ⟨_, _, _, by rw [add_mk]; exact (cB _ Z.up).cell rfl, all_c hx hA Z (by omega) (by omega) fun p1 n1 c1 w5 Z5 u5 hT5 => ⟨_, _, _, rfl, ?_⟩⟩); have z5 := u5.size; refine ptrC_some ⟨_, by rw [add_mk]; exact (cB _ Z5.up).cell rfl, hrt w5 _ _ _ hR Z5 (by simp only [List.length_append]; omega) (by omega) fun q w12 Z12 u12 ht12 => ⟨q, rfl, ?_⟩⟩; have z12 := u12.size; refine c_fun (n0 := w.heap.size) (tyRow_k hT5 u12) (by rw [resFs_len]; omega) (at_le ht12 z5) (by omega) fun q2 w15 ht15 u15 => ⟨_, _, rfl, ?_⟩; have Z15 := Z12.keep u15; have U15 := (u5.then u12).then (upK u15); have z15 := U15.size; refine brC_intro (fun h0 => ?_) fun h0 => ?_
  . have h0 : (funF (resFs S xs).1 (resF S rt).1).2 = 0 := by simpa using h0
    rw [if_pos h0] at hk; exact hk q2 w15 (by rw [<- List.append_assoc]; exact Z15) U15 ht15
  . have h0 : ¬ (funF (resFs S xs).1 (resF S rt).1).2 = 0 := by simpa using h0
    rw [if_neg h0] at hk; exact ptrC_some ⟨_, by rw [add_mk]; exact (cB _ Z15.up).cell rfl, tell_c hS Z15 (by simp only [List.length_append]; omega) fun q w18 Z18 u18 ht18 => ⟨q, rfl, hk q w18 (by rw [<- List.append_assoc, <- List.append_assoc]; exact Z18) (U15.then u18) (at_le ht18 z15)⟩⟩
theorem union_c (hS : ScAt w0 sc S) (hx : ∀ t ∈ xs, ResOk w0 r sc S t) (hX : XAt idx (From 0) w0 (.pointer x) (.mk 9 a al nm ns xs rt)) (Z : Rz w0 r sc S told w) (hl : told.length + xszs xs <= 900000000) (hl2 : xszs xs <= 1000000)
    (hk : ∀ q w', Rz w0 r sc S (told ++ (resF S (.mk 9 a al nm ns xs rt)).2) w' -> UpK w w' -> TyAt ids (From w.heap.size) w' (.pointer q) (resF S (.mk 9 a al nm ns xs rt)).1 -> K (.pointer q) w') :
    callC Tryz.prog 47 #[.pointer (some ⟨r, 0, none⟩), .pointer x] w K := by
  obtain ⟨b, p, n, c, p', n', c', q, rfl, hB, hN, hn, hA, hR⟩ := x_open hX; unfold resF at hk; rw [if_neg (by decide), if_neg (by decide), if_neg (by decide), if_neg (by decide), if_pos rfl] at hk; have hlx := len_xszs xs; have htl := resFs_told (S := S) (l := xs) fun t _ => res_told S t; have cB : ∀ w', Upd No w0 w' -> Blk w' b _ _ := fun w' u => hB.upd u id; refine union_text _ _ _ _ (ptrC_some ⟨_, _, _, by rw [add_mk]; exact (cB _ Z.up).cell rfl, all_c hx hA Z (by omega) (by omega) fun p1 n1 c1 w5 Z5 u5 hT5 => ⟨_, _, _, rfl, ?_⟩⟩); have z5 := u5.size; refine c_union (n0 := w.heap.size) hT5 (by rw [resFs_len]; omega) (res_tells S xs) (by omega) fun q2 w15 ht15 u15 => ⟨_, _, rfl, ?_⟩; have Z15 := Z5.keep u15; have U15 := u5.then (upK u15); have z15 := U15.size; refine brC_intro (fun h0 => ?_) fun h0 => ?_
  . have h0 : (unionF (resFs S xs).1).2 = 0 := by simpa using h0
    rw [if_pos h0] at hk; exact hk q2 w15 Z15 U15 ht15
  . have h0 : ¬ (unionF (resFs S xs).1).2 = 0 := by simpa using h0
    rw [if_neg h0] at hk; exact ptrC_some ⟨_, by rw [add_mk]; exact (cB _ Z15.up).cell rfl, tell_c hS Z15 (by simp only [List.length_append]; omega) fun q w18 Z18 u18 ht18 => ⟨q, rfl, hk q w18 (by rw [<- List.append_assoc]; exact Z18) (U15.then u18) (at_le ht18 z15)⟩⟩
end
theorem mapK : Tryz.prog.underlying 118 = some (.map 3 3) := by kernel_rfl
theorem mapG : Tryz.prog.underlying 120 = some (.map 3 78) := by kernel_rfl
theorem undInt : Tryz.prog.underlying 3 = some (.int .i64) := by kernel_rfl
def kindV : Value -> Value
  | .int _ n => .int .i64 (n + 1)
  | v => v
def doV (r : Value) : Value -> Value
  | .int _ n => if n = 6 then .func (.func 44) #[r] #[] else if n = 7 then .func (.func 45) #[r] #[] else if n = 8 then .func (.func 46) #[r] #[] else .func (.func 47) #[r] #[]
  | v => v
abbrev iv (n : Int) : Value := .int .i64 n
theorem inv_name {r x : Value} {w : World} {K : KV} (h : callC Tryz.prog 44 #[r, x] w K) : invC Tryz.prog (.func (.func 44) #[r] #[]) #[x] w K := of_eq h (by kernel_rfl)
theorem inv_record {r x : Value} {w : World} {K : KV} (h : callC Tryz.prog 45 #[r, x] w K) : invC Tryz.prog (.func (.func 45) #[r] #[]) #[x] w K := of_eq h (by kernel_rfl)
theorem inv_function {r x : Value} {w : World} {K : KV} (h : callC Tryz.prog 46 #[r, x] w K) : invC Tryz.prog (.func (.func 46) #[r] #[]) #[x] w K := of_eq h (by kernel_rfl)
theorem inv_union {r x : Value} {w : World} {K : KV} (h : callC Tryz.prog 47 #[r, x] w K) : invC Tryz.prog (.func (.func 47) #[r] #[]) #[x] w K := of_eq h (by kernel_rfl)
theorem zeroInt (w : World) : (zeroValue 3).run Tryz.prog w = .ok (.int .i64 0) w := by kernel_rfl
theorem zeroFn (w : World) : (zeroValue 78).run Tryz.prog w = .ok .nilFunc w := by kernel_rfl
theorem four (t : TypeId) (et : TypeId) (ht : Tryz.prog.underlying t = some (.map 3 et)) (f : Value -> Value) {w : World} {b : Nat} (h : MapF (.int .i64) w b [] f) (a1 a2 a3 a4 : Int) (h12 : a1 ≠ a2) (h13 : a1 ≠ a3) (h14 : a1 ≠ a4) (h23 : a2 ≠ a3) (h24 : a2 ≠ a4) (h34 : a3 ≠ a4) {K : WP}
    (hk : ∀ w', MapF (.int .i64) w' b [iv a1, iv a2, iv a3, iv a4] f -> Upd (· = b) w w' -> K w') :
    runC Tryz.prog (Instr.mapUpdate t (.map (some b)) (iv a1) (f (iv a1))) w fun (_ : PUnit) w => runC Tryz.prog (Instr.mapUpdate t (.map (some b)) (iv a2) (f (iv a2))) w fun (_ : PUnit) w =>
      runC Tryz.prog (Instr.mapUpdate t (.map (some b)) (iv a3) (f (iv a3))) w fun (_ : PUnit) w => runC Tryz.prog (Instr.mapUpdate t (.map (some b)) (iv a4) (f (iv a4))) w fun (_ : PUnit) w => K w := by
  refine update_out ht undInt (k := iv a1) rfl h (by simp) _ rfl (fun _ _ _ => rfl) fun w1 h1 u1 _ => ?_; refine update_out ht undInt (k := iv a2) rfl h1 (by simp; exact h12.symm) _ rfl (fun _ _ _ => rfl) fun w2 h2 u2 _ => ?_; refine update_out ht undInt (k := iv a3) rfl h2 (by simp; exact ⟨h13.symm, h23.symm⟩) _ rfl (fun _ _ _ => rfl) fun w3 h3 u3 _ => ?_; refine update_out ht undInt (k := iv a4) rfl h3 (by simp; exact ⟨h14.symm, h24.symm, h34.symm⟩) _ rfl (fun _ _ _ => rfl) fun w4 h4 u4 _ => ?_; exact hk w4 h4 (((u1.trans u2 fun _ _ e => e).trans u3 fun _ _ e => e).trans u4 fun _ _ e => e)
theorem one_ok {w0 : World} {r sc : Nat} {S : Sc} (hS : ScAt w0 sc S) (ok : ScOk S) : ∀ t : Wt, ResOk w0 r sc S t := by
  refine Go.Tx.ind (fun w told x K hX Z hl hl2 hk => ?_) fun k a al nm ns xs rt ha hr w told x K hX Z hl hl2 hk => ?_
  . cases hX; exact one_text _ _ _ _ (brC_tt rfl (anything_c fun q w' ht u => ⟨q, rfl, hk q w' (by simpa [resF] using Z.keep u) (upK u) ht⟩))
  have hX' := hX; obtain ⟨b, p, n, c, p', n', c', q, rfl, hB, hN, hn, hA, hR⟩ := x_open hX; rw [xsz_all] at hl hl2; refine one_text _ _ _ _ (brC_ff rfl (newM_mk (d := .int .i64) (f := kindV) fun w4 M4 u4 s4 => ?_)); refine four 118 3 mapK kindV M4 1 2 3 4 (by decide) (by decide) (by decide) (by decide) (by decide) (by decide) fun w12 M12 u12 => ?_; have U12 : Upd No w w12 := u4.trans u12 fun x hx (e : x = _) => by omega
  have Z12 := Z.keep U12; have hB12 := hB.upd Z12.up id; have hmem : ∀ a1 a2 a3 a4 : Int, iv k ∈ [iv a1, iv a2, iv a3, iv a4] ↔ (k = a1 \/ k = a2 \/ k = a3 \/ k = a4) := fun a1 a2 a3 a4 => by simp
  refine ptrC_some ⟨_, hB12.cell rfl, ?_⟩
  by_cases h14 : 1 <= k /\ k <= 4
  . unfold resF at hk; rw [if_pos h14] at hk; refine ⟨_, ⟨_, _, rfl, brC_tt rfl (newC_mk fun w19 B19 u19 s19 => ?_)⟩, fun w' e => by cases e; exact run_lookup_in mapK undInt (k := iv k) rfl M12 ((hmem _ _ _ _).2 (by omega)) true⟩; have U19 := up U12 u19; exact hk _ w19 (by simpa using Z.keep U19) (upK U19) (at_leaf B19 U12.size)
  refine ⟨_, ⟨_, _, rfl, brC_ff rfl (newM_mk (d := .int .i64) (f := doV (.pointer (some ⟨r, 0, none⟩))) fun w21 M21 u21 s21 => ?_)⟩, fun w' e => by cases e; exact run_lookup_out mapK undInt (k := iv k) rfl M12 (fun h => h14 (by have := (hmem _ _ _ _).1 h; omega)) (zeroInt _) true⟩; refine four 120 78 mapG (doV (.pointer (some ⟨r, 0, none⟩))) M21 6 7 8 9 (by decide) (by decide) (by decide) (by decide) (by decide) (by decide) fun w29 M29 u29 => ?_; have U29 : Upd No w w29 := (up U12 u21).trans u29 fun x hx (e : x = _) => by have := U12.size; omega
  have Z29 := Z.keep U29; have z29 := U29.size; refine ptrC_some ⟨_, (hB.upd Z29.up id).cell rfl, ?_⟩
  by_cases h69 : 6 <= k /\ k <= 9
  . refine ⟨_, ⟨_, _, rfl, brC_tt rfl ?_⟩, fun w' e => by cases e; exact run_lookup_in mapG undInt (k := iv k) rfl M29 ((hmem _ _ _ _).2 (by omega)) true⟩; have hk' : ∀ q w', Rz w0 r sc S (told ++ (resF S (.mk k a al nm ns xs rt)).2) w' -> UpK w29 w' -> TyAt ids (From w29.heap.size) w' (.pointer q) (resF S (.mk k a al nm ns xs rt)).1 -> ∃ p37, Value.pointer q = .pointer p37 /\ K (.pointer p37) w' := fun q w' Z' u' ht => ⟨q, rfl, hk q w' Z' ((upK U29).then u') (at_le ht z29)⟩; have h4 : k = 6 \/ k = 7 \/ k = 8 \/ k = 9 := by omega
    rcases h4 with rfl | rfl | rfl | rfl
    . refine inv_name (rname_c hS ok hX' Z29 (by omega) ?_); unfold resF at hk'; rw [if_neg h14, if_pos rfl] at hk'; exact hk'
    . exact inv_record (record_c hS ha hX' Z29 (by omega) (by omega) hk')
    . exact inv_function (function_c hS ha hr hX' Z29 (by omega) (by omega) hk')
    . exact inv_union (union_c hS ha hX' Z29 (by omega) (by omega) hk')
  . unfold resF at hk; rw [if_neg h14, if_neg (by omega), if_neg (by omega), if_neg (by omega), if_neg (by omega)] at hk; refine ⟨_, ⟨_, _, rfl, brC_ff rfl (anything_c fun q w' ht u => ⟨q, rfl, hk q w' (by simpa using Z29.keep u) (upK (up U29 u)) (at_le ht z29)⟩)⟩, fun w' e => by cases e; exact run_lookup_out mapG undInt (k := iv k) rfl M29 (fun h => h69 (by have := (hmem _ _ _ _).1 h; omega)) (zeroFn _) true⟩
theorem Resolve_c {w : World} {sc : Nat} {S : Sc} (hS : ScAt w sc S) (ok : ScOk S) {t : Wt} {x : Option Addr} (hX : XAt idx (From 0) w (.pointer x) t) (hl : xsz t <= 1000000) {K : KV}
    (hk : ∀ q v w', TyAt ids (From w.heap.size) w' (.pointer q) (resF S t).1 -> RowAt w' 35 3 v (dgCells S.path (resF S t).2) -> (∀ b, InRow v b -> w.heap.size <= b) -> Upd No w w' -> K (.tuple #[.pointer q, v]) w') :
    callC Tryz.prog 10 #[.pointer (some ⟨sc, 0, none⟩), .pointer x] w K := by
  refine Resolve_text _ _ _ _ (brC_ff rfl (newC_mk fun w4 B4 u4 s4 => ?_)); have Z4 : Rz w w.heap.size sc S [] w4 := ⟨u4, Nat.le_refl _, _, B4, RowAt.nil _ _ _, fun b hb => (no_in b hb).elim⟩; refine one_ok hS ok t w4 [] x _ hX Z4 (by simp only [List.length_nil]; omega) hl fun q w6 Z6 u6 ht => ⟨q, rfl, drawC_mk fun w8 u8 s8 => ?_⟩; obtain ⟨tv, B, row, own⟩ := Z6.st; obtain ⟨p, n, c, rfl, _, _, _⟩ := row.shape; exact ⟨p, n, c, (B.upd u8 id).cell rfl, hk q _ w8 (at_le (ht.keep u8) u4.size) (row.upd u8 fun _ _ h => h) own (up Z6.up u8)⟩
structure Im where
  path : ByteArray
  there : Bool
  sum : Al
def ImAt (w : World) (p : Option Addr) (l : List Im) : Prop := ∀ i, (h : i < l.length) -> ∃ a q d q' d', p = some a /\ w.cell? (Addr.add a (i * 6)) = some (.string l[i].path) /\ w.cell? (Addr.add (Addr.add a (i * 6)) 1) = some (.bool l[i].there) /\
  w.cell? (Addr.add (Addr.add a (i * 6)) 2) = some (.string l[i].sum.path) /\ w.cell? (Addr.add (Addr.add a (i * 6)) 3) = some (.bool l[i].sum.broken) /\
  w.cell? (Addr.add (Addr.add a (i * 6)) 4) = some (.slice q' l[i].sum.values.length d') /\ w.cell? (Addr.add (Addr.add a (i * 6)) 5) = some (.slice q l[i].sum.types.length d) /\ ExAt w q l[i].sum.types /\ ExAt w q' l[i].sum.values
theorem ImAt.keep {w w' : World} {p : Option Addr} {l : List Im} (h : ImAt w p l) (u : Upd No w w') : ImAt w' p l := fun i hi => by
  obtain ⟨a, q, d, q', d', e, h1, h2, h3, h4, h5, h6, h7, h8⟩ := h i hi; exact ⟨a, q, d, q', d', e, cell_keep h1 u, cell_keep h2 u, cell_keep h3 u, cell_keep h4 u, cell_keep h5 u, cell_keep h6 u, h7.keep u, h8.keep u⟩
def SmV (w : World) (v : Value) (a : Al) : Prop := ∃ p c p' c', v = .agg #[.string a.path, .bool a.broken, .slice p' a.values.length c', .slice p a.types.length c] /\ ExAt w p a.types /\ ExAt w p' a.values
section
variable {w : World} {K : KV}
theorem inv_imported {s t : ByteArray} {a b : Bool} {q q' : Option Addr} {n c n' c' k : Nat} {w : World} {K : KV} (h : callC Tryz.prog 73 #[.agg #[.string s, .bool a, .string t, .bool b, .slice q n c, .slice q' n' c'], .pointer (some ⟨k, 0, none⟩)] w K) :
    invC Tryz.prog (.func (.func 73) #[] #[.pointer (some ⟨k, 0, none⟩)]) #[.agg #[.string s, .bool a, .string t, .bool b, .slice q n c, .slice q' n' c']] w K := of_eq h (by kernel_rfl)
def isP (p : ByteArray) (m : Im) : Bool := decide (m.path = p)
theorem ifI_c {p : Option Addr} {n c : Nat} {l : List Im} (h : ImAt w p l) (hn : n = l.length) (hm : n <= 1000000) {k : Nat} {s : ByteArray} (hB : Blk w k #[.string s] 9)
    (h1 : ∀ (i : Nat) (hi : i < l.length) w', isP s l[i] = true -> (∀ j (hj : j < i), isP s l[j] = false) -> Upd No w w' -> K (.int .i64 i) w') (h0 : ∀ w', (∀ x ∈ l, isP s x = false) -> Upd No w w' -> K (.int .i64 (-1)) w') :
    callC Tryz.prog 118 #[.slice p n c, .func (.func 73) #[] #[.pointer (some ⟨k, 0, none⟩)]] w K := by
  subst hn; refine ifI_text _ _ _ _ _ _ _ _ ⟨fun m w' => ∃ i : Nat, m = i /\ i <= l.length /\ (∀ j (hj : j < l.length), j < i -> isP s l[j] = false) /\ Upd No w w', fun m _ => l.length - m.toNat, ⟨0, rfl, Nat.zero_le _, fun j _ hj => absurd hj (Nat.not_lt_zero j), Upd.refl _ _⟩, ?_⟩; rintro m w3 ⟨i, rfl, hil, hpre, u3⟩ _; refine brC_intro (fun hlt => ?_) fun hge => ?_
  . have hi : i < l.length := by have := of_decide_eq_true hlt; omega
    obtain ⟨a, q, d, q', d', rfl, c1, c2, c3, c4, c5, c6, c7, c8⟩ := h i hi; refine ⟨by omega, by omega, ptrC_some ?_⟩; rw [Int.toNat_natCast]; refine ⟨_, cell_keep c1 u3, _, cell_keep c2 u3, _, cell_keep c3 u3, _, cell_keep c4 u3, _, _, _, cell_keep c5 u3, _, _, _, cell_keep c6 u3, inv_imported (imported1_text _ _ _ _ _ _ _ _ _ _ _ _ _ _ (newC_mk fun w9 B9 u9 _ => ⟨_, B9.cell rfl, _, ((hB.upd u3 id).upd u9 id).cell rfl, _, rfl, ?_⟩))⟩; rw [beq_bytes]; refine brC_intro (fun hg => h1 i hi w9 hg (fun j hj => hpre j (by omega) hj) (up u3 u9)) fun hg => ?_; rw [wrap_succ (by omega)]; refine ⟨⟨i + 1, rfl, hi, fun j hj hji => ?_, up u3 u9⟩, by simp only [Int.toNat_natCast]; omega⟩; rcases Nat.lt_succ_iff_lt_or_eq.1 hji with h | rfl
    . exact hpre j hj h
    . exact hg
  . have hi : i = l.length := by have := of_decide_eq_false hge; omega
    subst hi; exact h0 w3 (fun x hx => by obtain ⟨j, hj, rfl⟩ := List.getElem_of_mem hx; exact hpre j hj hj) u3
theorem im_put {w : World} {k : Nat} {a b c d f g : Value} {e : TypeId} (B : Blk w k #[a, b, c, d, f, g] e) (v0 v1 v2 v3 v4 v5 : Value) {K : WP} (hk : ∀ w', Blk w' k #[v0, v1, v2, v3, v4, v5] e -> Upd (· = k) w w' -> w'.heap.size = w.heap.size -> K w') :
    stC w ⟨k, 0, none⟩ v0 fun w => stC w ⟨k, 1, none⟩ v1 fun w => stC w ⟨k, 2, none⟩ v2 fun w => stC w ⟨k, 3, none⟩ v3 fun w => stC w ⟨k, 4, none⟩ v4 fun w => stC w ⟨k, 5, none⟩ v5 K :=
  stC_mk B (by simp) fun w1 B1 u1 s1 => stC_mk B1 (by simp) fun w2 B2 u2 s2 => stC_mk B2 (by simp) fun w3 B3 u3 s3 => stC_mk B3 (by simp) fun w4 B4 u4 s4 => stC_mk B4 (by simp) fun w5 B5 u5 s5 => stC_mk B5 (by simp) fun w6 B6 u6 s6 =>
    hk w6 B6 (((((u1.trans u2 fun _ _ x => x).trans u3 fun _ _ x => x).trans u4 fun _ _ x => x).trans u5 fun _ _ x => x).trans u6 fun _ _ x => x) (by omega)
theorem sm_put {w : World} {k : Nat} {a b c d : Value} {e : TypeId} (B : Blk w k #[a, b, c, d] e) (v0 v1 v2 v3 : Value) {K : WP} (hk : ∀ w', Blk w' k #[v0, v1, v2, v3] e -> Upd (· = k) w w' -> w'.heap.size = w.heap.size -> K w') :
    stC w ⟨k, 0, none⟩ v0 fun w => stC w ⟨k, 1, none⟩ v1 fun w => stC w ⟨k, 2, none⟩ v2 fun w => stC w ⟨k, 3, none⟩ v3 K :=
  stC_mk B (by simp) fun w1 B1 u1 s1 => stC_mk B1 (by simp) fun w2 B2 u2 s2 => stC_mk B2 (by simp) fun w3 B3 u3 s3 => stC_mk B3 (by simp) fun w4 B4 u4 s4 =>
    hk w4 B4 (((u1.trans u2 fun _ _ x => x).trans u3 fun _ _ x => x).trans u4 fun _ _ x => x) (by omega)
abbrev imZ : Im := ⟨.empty, false, alZ⟩
def ImV (w : World) (v : Value) (m : Im) : Prop := ∃ p c p' c', v = .agg #[.string m.path, .bool m.there, .string m.sum.path, .bool m.sum.broken, .slice p' m.sum.values.length c', .slice p m.sum.types.length c] /\ ExAt w p m.sum.types /\ ExAt w p' m.sum.values
theorem firstI_c {wb : World} {p : Option Addr} {n c : Nat} {l : List Im} (h : ImAt wb p l) (ub : Upd No wb w) (hn : n = l.length) (hm : n <= 1000000) {k : Nat} {s : ByteArray} (hB : Blk w k #[.string s] 9)
    (hk : ∀ v w', ImV wb v ((l.find? (isP s)).getD imZ) -> Upd No w w' -> K (.tuple #[v, .bool (l.find? (isP s)).isSome]) w') :
    callC Tryz.prog 72 #[.slice p n c, .func (.func 73) #[] #[.pointer (some ⟨k, 0, none⟩)]] w K := by
  refine firstI_text _ _ _ _ _ _ _ _ (newC_mk fun w1 B1 u1 _ => ?_); refine ifI_c (h.keep (up ub u1)) hn hm (hB.upd u1 id) (fun i hi w3 hg hpre u3 => ?_) fun w3 hall u3 => ?_
  . obtain ⟨a, q, d, q', d', rfl, c1, c2, c3, c4, c5, c6, c7, c8⟩ := h i hi; refine ⟨_, rfl, brC_tt (decide_eq_true (by omega)) ⟨by omega, by omega, ptrC_some ?_⟩⟩; rw [Int.toNat_natCast]; have b3 := B1.upd u3 id; have U3 := up ub (up u1 u3); refine ⟨_, cell_keep c1 U3, _, cell_keep c2 U3, _, cell_keep c3 U3, _, cell_keep c4 U3, _, _, _, cell_keep c5 U3, _, _, _, cell_keep c6 U3, im_put b3 _ _ _ _ _ _ fun w9 B9 u9 _ => ⟨_, B9.cell rfl, _, B9.cell rfl, _, B9.cell rfl, _, B9.cell rfl, _, _, _, B9.cell rfl, _, _, _, B9.cell rfl, ?_⟩⟩; have U : Upd No w w9 := (up u1 u3).trans u9 fun x hx (e : x = _) => by omega
    have hf : l.find? (isP s) = some l[i] := List.find?_eq_some_iff_getElem.2 ⟨hg, i, hi, rfl, fun j hj => by simpa using hpre j hj⟩; rw [hf] at hk; exact hk _ w9 ⟨q, d, q', d', rfl, c7, c8⟩ U
  . refine ⟨_, rfl, brC_ff (decide_eq_false (by omega)) ?_⟩; have b3 := B1.upd u3 id; refine ⟨_, b3.cell rfl, _, b3.cell rfl, _, b3.cell rfl, _, b3.cell rfl, _, _, _, b3.cell rfl, _, _, _, b3.cell rfl, im_put b3 _ _ _ _ _ _ fun w9 B9 u9 _ => ⟨_, B9.cell rfl, _, B9.cell rfl, _, B9.cell rfl, _, B9.cell rfl, _, _, _, B9.cell rfl, _, _, _, B9.cell rfl, ?_⟩⟩; have U : Upd No w w9 := (up u1 u3).trans u9 fun x hx (e : x = _) => by omega
    have hf : l.find? (isP s) = none := List.find?_eq_none.2 fun x hx => by simpa using hall x hx
    rw [hf] at hk; exact hk _ w9 ⟨none, 0, none, 0, rfl, fun i hi => absurd hi (Nat.not_lt_zero i), fun i hi => absurd hi (Nat.not_lt_zero i)⟩ U
def CleanOk (s : ByteArray) (r : Option ByteArray) : Prop := ∀ (w : World) (K : KV), (∀ w' e, (e = 0 ↔ r.isSome = true) -> Upd No w w' -> K (.tuple #[.string (r.getD .empty), .int .i64 e]) w') -> callC Tryz.prog 71 #[.string s] w K
def importedF (r : Option ByteArray) (l : List Im) : Im := match r with
  | none => imZ
  | some p => (l.find? (isP p)).getD imZ
theorem lds46 {w : World} {k : Nat} {a c : Value} {s : ByteArray} {b : Bool} {p q : Option Addr} {n d m e : Nat} (B : Blk w k #[a, c, .string s, .bool b, .slice p n d, .slice q m e] 48) : Lds Tryz.prog 46 w ⟨k, 2, none⟩ (.agg #[.string s, .bool b, .slice p n d, .slice q m e]) := by
  have key : (∃ s', w.cell? ⟨k, 2, none⟩ = some (.string s') /\ ∃ b', w.cell? (Addr.add ⟨k, 2, none⟩ 1) = some (.bool b') /\ ∃ p' n' d', w.cell? (Addr.add ⟨k, 2, none⟩ 2) = some (.slice p' n' d') /\ ∃ q' m' e', w.cell? (Addr.add ⟨k, 2, none⟩ 3) = some (.slice q' m' e') /\
      .agg #[.string s', .bool b', .slice p' n' d', .slice q' m' e'] = Value.agg #[.string s, .bool b, .slice p n d, .slice q m e]) = ldVC Tryz.prog 46 w ⟨k, 2, none⟩ (fun v => v = .agg #[.string s, .bool b, .slice p n d, .slice q m e]) := by kernel_rfl
  obtain ⟨v, rfl, hr⟩ := semR_out (ldVC_sound (of_eq ⟨_, B.cell rfl, _, by rw [add_mk]; exact B.cell rfl, _, _, _, by rw [add_mk]; exact B.cell rfl, _, _, _, by rw [add_mk]; exact B.cell rfl, rfl⟩ key)); exact hr w rfl
theorem lds4 {w : World} {a : Addr} {b : Bool} (h : w.cell? a = some (.bool b)) : Lds Tryz.prog 4 w a (.bool b) := by
  have key : (∃ b', w.cell? a = some (.bool b') /\ .bool b' = Value.bool b) = ldVC Tryz.prog 4 w a (fun v => v = .bool b) := by kernel_rfl
  obtain ⟨v, rfl, hr⟩ := semR_out (ldVC_sound (of_eq ⟨_, h, rfl⟩ key)); exact hr w rfl
theorem imported_c {wb : World} {p : Option Addr} {n c : Nat} {l : List Im} (h : ImAt wb p l) (ub : Upd No wb w) (hn : n = l.length) (hm : n <= 1000000) {s : ByteArray} {r : Option ByteArray} (hC : CleanOk s r)
    (hk : ∀ v w', SmV wb v (importedF r l).sum -> Upd No w w' -> K (.tuple #[v, .bool (importedF r l).there]) w') :
    callC Tryz.prog 32 #[.string s, .slice p n c] w K := by
  refine imported_text _ _ _ _ _ _ (newC_mk fun w1 B1 u1 s1 => hC w1 _ fun w3 e he u3 => ⟨_, _, rfl, newC_mk fun w7 B7 u7 s7 => stC_mk B7 (by simp) fun w8 B8 u8 s8 => ?_⟩); have z1 := u1.size; have z3 := u3.size; have U8 : Upd No w w8 := (up (up u1 u3) u7).trans u8 fun x hx (e : x = _) => by omega
  have b1 := ((B1.upd u3 id).upd u7 id).upd u8 (by omega)
  cases r with
  | none =>
    refine brC_tt ?_ (sm_put b1 _ _ _ _ fun w12 B12 u12 s12 => ⟨_, B12.cell rfl, _, B12.cell rfl, _, _, _, B12.cell rfl, _, _, _, B12.cell rfl, ?_⟩)
    . have : e ≠ 0 := fun h0 => by have := he.1 h0; cases this
      simpa using this
    exact hk _ w12 ⟨none, 0, none, 0, rfl, fun i hi => absurd hi (Nat.not_lt_zero i), fun i hi => absurd hi (Nat.not_lt_zero i)⟩ (U8.trans u12 fun x hx (e : x = _) => by omega)
  | some q =>
    obtain rfl : e = 0 := he.2 rfl; refine brC_ff rfl (firstI_c h (up ub U8) hn hm B8 fun v w22 hv u22 => ?_); obtain ⟨p1, c1, p2, c2, rfl, hT, hV⟩ := hv; refine ⟨_, _, _, _, _, _, _, _, _, _, _, rfl, newC_mk fun w35 B35 u35 s35 => im_put B35 _ _ _ _ _ _ fun w41 B41 u41 s41 => drawC_mk fun w42 u42 s42 => ?_⟩; have z8 := U8.size; have z22 := u22.size; have B42 := B41.upd u42 id; have b42 := (((b1.upd u22 id).upd u35 id).upd u41 (by have := b1.lt; omega)).upd u42 id; have U42 : Upd No w w42 := up ((up (up U8 u22) u35).trans u41 fun x hx (e : x = _) => by omega) u42; refine ⟨fun w' => ∀ cs e, Blk w42 w22.heap.size cs e -> Blk w' w22.heap.size cs e, _, B42.cell rfl, _, B42.cell rfl, _, _, _, B42.cell rfl, _, _, _, B42.cell rfl, fun w' h => lds46 (h _ _ B42), _, B42.cell rfl, fun w' h => lds4 ((h _ _ B42).cell rfl), ?_, trivial⟩; refine sm_put b42 _ _ _ _ fun w58 B58 u58 s58 => ⟨fun cs e h => h.upd u58 (by have := b1.lt; omega), _, B58.cell rfl, _, B58.cell rfl, _, _, _, B58.cell rfl, _, _, _, B58.cell rfl, ?_⟩; have U58 : Upd No w w58 := U42.trans u58 fun x hx (e : x = _) => by omega
    exact hk _ w58 ⟨p1, c1, p2, c2, rfl, hT, hV⟩ U58
end
structure Nst where
  als : List (ByteArray × Al)
  ord : List ByteArray
  owns : List ByteArray
  told : List Dg
  types : List Dc
def newAl (m : Im) : Al := ⟨m.sum.path, m.sum.broken, m.sum.types, m.sum.values, !m.there || m.sum.broken⟩
def stepN (cl : ByteArray -> Option ByteArray) (ims : List Im) (st : Nst) (d : Option Dc) : Nst := match d with
  | none => st
  | some d =>
    if d.kind = 1 then
      (if memB d.name (st.als.map (·.1)) then { st with told := st.told ++ [((d.at_ : Int), 4)] }
       else { st with als := st.als ++ [(d.name, newAl (importedF (cl d.text) ims))], ord := st.ord ++ [d.name], told := if (importedF (cl d.text) ims).there then st.told else st.told ++ [((d.at_ : Int), 3)] })
    else if d.kind = 2 then
      (if memB d.name st.owns then { st with told := st.told ++ [((d.at_ : Int), 4)] } else { st with owns := st.owns ++ [d.name], types := st.types ++ [d] })
    else st
def strsV (l : List ByteArray) : List Value := l.map Value.string
theorem mem_strsV {l : List ByteArray} {n : ByteArray} : Value.string n ∈ strsV l ↔ n ∈ l := by
  unfold strsV; rw [List.mem_map]; exact ⟨fun ⟨x, hx, e⟩ => by injection e with e; exact e ▸ hx, fun h => ⟨n, h, rfl⟩⟩
theorem keysV_fst {α : Type} (l : List (ByteArray × α)) : keysV l = strsV (l.map (·.1)) := by simp [keysV, strsV]
def DoAt (w : World) (v : Value) : Option Dc -> Prop
  | none => v = .pointer none
  | some d => DcAt (From 0) w v d
structure NI (w0 : World) (path : ByteArray) (st : Nst) (w : World) : Prop where
  up : Upd No w0 w
  k0 : Blk w w0.heap.size #[.string path] 9
  sc : ∃ ov f1, Blk w (w0.heap.size + 3) #[.string path, .map (some (w0.heap.size + 1)), ov, .map (some (w0.heap.size + 2))] 88 /\ MapF .string w (w0.heap.size + 1) (keysV st.als) f1 /\ (∀ x ∈ st.als, AlAt w0 (f1 (.string x.1)) x.2) /\
    RowAt w 9 1 ov (strsV st.ord) /\ ∀ b, InRow ov b -> w0.heap.size + 5 <= b
  owns : MapF .string w (w0.heap.size + 2) (strsV st.owns) (fun _ => .pointer none)
  told : ∃ tv, Blk w (w0.heap.size + 4) #[tv] 24 /\ RowAt w 35 3 tv (dgCells path st.told) /\ ∀ b, InRow tv b -> w0.heap.size + 5 <= b
theorem NI.keep {w0 w w' : World} {path : ByteArray} {st : Nst} (h : NI w0 path st w) (u : Upd No w w') : NI w0 path st w' := by
  obtain ⟨ov, f1, h1, h2, h3, h4, h5⟩ := h.sc; obtain ⟨tv, t1, t2, t3⟩ := h.told; exact ⟨Go.Proofs.YtdbkclnlfibgdaaGreatDoor.up h.up u, h.k0.upd u id, ⟨ov, f1, h1.upd u id, h2.upd u id, h3, h4.upd u fun _ _ h => h, h5⟩, h.owns.upd u id, tv, t1.upd u id, t2.upd u fun _ _ h => h, t3⟩
theorem NI.size {w0 w : World} {path : ByteArray} {st : Nst} (h : NI w0 path st w) : w0.heap.size + 5 <= w.heap.size := by
  obtain ⟨tv, t1, _⟩ := h.told; have := t1.lt; omega
structure NT (w0 : World) (l : List Dc) (p : Option Addr) (n c : Nat) (w : World) : Prop where
  ex : ∃ vs, Own (w0.heap.size + 5) w 51 p n c vs /\ vs.length = l.length /\ ∀ (i : Nat) (v : Value) (d : Dc), vs[i]? = some v -> l[i]? = some d -> DcAt (From 0) w0 v d
theorem NT.keep {w0 w w' : World} {l : List Dc} {p : Option Addr} {n c : Nat} (h : NT w0 l p n c w) (u : Upd No w w') : NT w0 l p n c w' := by
  obtain ⟨vs, h1, h2⟩ := h.ex; exact ⟨vs, h1.keep u, h2⟩
theorem elemDecl : Elem 57 51 8 := elemDc
theorem map_no_row {w : World} {e : TypeId} {size : Nat} {v : Value} {xs : List Value} {d : TypeDesc} {b : Nat} {ks : List Value} {f : Value -> Value} (h : RowAt w e size v xs) (m : MapF d w b ks f) : ¬ InRow v b := fun hb => by
  obtain ⟨cs, hB⟩ := row_blkOf h hb; obtain ⟨es, clock, hm, _⟩ := m; rw [show w.heap[b]? = some (.cells cs e (0, 0)) from hB] at hm; cases hm
theorem row_ne {w : World} {e e' : TypeId} {size : Nat} {v : Value} {xs : List Value} {b : Nat} {cs : Array Value} (h : RowAt w e size v xs) (B : Blk w b cs e') (hne : e ≠ e') : ¬ InRow v b := fun hb => hne (row_type h B hb)
section
variable {w0 w : World} {path : ByteArray} {st : Nst} {K : KV}
theorem new1_c (h : NI w0 path st w) (hl : st.told.length <= 999999999) {a c : Int} (hk : ∀ w', NI w0 path { st with told := st.told ++ [(a, c)] } w' -> (∀ l p n cc, NT w0 l p n cc w -> NT w0 l p n cc w') -> (∀ x, w0.heap.size + 5 <= x -> ∀ cs t, Blk w x cs t -> t ≠ 35 -> Blk w' x cs t) -> K (.tuple #[]) w') :
    callC Tryz.prog 31 #[.int .i64 a, .int .i64 c, .pointer (some ⟨w0.heap.size + 4, 0, none⟩), .pointer (some ⟨w0.heap.size, 0, none⟩)] w K := by
  obtain ⟨ov, f1, s1, s2, s3, s4, s5⟩ := h.sc; obtain ⟨tv, t1, t2, t3⟩ := h.told; obtain ⟨p, n, cp, rfl, _, _, _⟩ := t2.shape; have hz := h.size; refine New1_text _ _ _ _ _ _ _ _ ⟨_, _, _, t1.cell rfl, _, h.k0.cell rfl, newC_mk fun w5 B5 u5 z5 => ?_⟩; have r5 := t2.upd u5 fun _ _ h => h; refine dg_grow (ds := [(a, c)]) r5 (by simp; omega) _ 1 1 rfl (fun j u hj => ?_) fun v' w7 row7 u7 hin7 => ?_
  . match j, hj with
    | 0, hj => cases hj; exact ⟨_, rfl, B5.cell rfl⟩
    | 1, hj => cases hj; exact ⟨_, rfl, B5.cell rfl⟩
    | 2, hj => cases hj; exact ⟨_, rfl, B5.cell rfl⟩
    | j + 3, hj => simp [dgCells] at hj
  have t7 : Blk w7 (w0.heap.size + 4) #[.slice p n cp] 24 := (t1.upd u5 id).upd u7 fun h => by have := t3 _ h; omega
  obtain ⟨p2, n2, c2, rfl, _, _, _⟩ := row7.shape; refine ⟨_, _, _, rfl, stC_mk t7 (by simp) fun w11 B11 u11 s11 => hk w11 ⟨?_, ?_, ⟨ov, f1, ?_, ?_, s3, ?_, s5⟩, ?_, _, B11, row7.upd u11 fun b hb e => ?_, fun b hb => ?_⟩ (fun l p n cc hT => ?_) fun x hx cs t hB hne => ?_⟩
  . exact ((up h.up u5).trans u7 fun b hb hx => by have := t3 b hx; omega).trans u11 fun b hb (e : b = _) => by omega
  . exact ((h.k0.upd u5 id).upd u7 fun h => by have := t3 _ h; omega).upd u11 (by omega)
  . exact ((s1.upd u5 id).upd u7 fun h => by have := t3 _ h; omega).upd u11 (by omega)
  . exact ((s2.upd u5 id).upd u7 fun h => by have := t3 _ h; omega).upd u11 (by omega)
  . refine ((s4.upd u5 fun _ _ h => h).upd u7 fun b hb hx => ?_).upd u11 fun b hb e => by have := s5 b hb; omega
    obtain ⟨cs, hB⟩ := row_blkOf (s4.upd u5 fun _ _ h => h) hb; exact row_ne r5 hB (by decide) hx
  . exact ((h.owns.upd u5 id).upd u7 fun h => by have := t3 _ h; omega).upd u11 (by omega)
  . subst e; exact absurd (row_type row7 t7 hb) (by decide)
  . rcases hin7 b hb with h | h
    . exact t3 b h
    . have := u5.size; omega
  . obtain ⟨vs, hO, hd⟩ := hT.ex; have o5 := hO.row.upd u5 fun _ _ h => h; refine ⟨vs, ⟨(o5.upd u7 fun b hb hx => ?_).upd u11 fun b hb e => by have := hO.own b hb; omega, hO.own, hO.len, hO.cap⟩, hd⟩; obtain ⟨cs, hB⟩ := row_blkOf o5 hb; exact row_ne r5 hB (by decide) hx
  . exact ((hB.upd u5 id).upd u7 fun hx => row_ne r5 (hB.upd u5 id) (Ne.symm hne) hx).upd u11 (by omega)
theorem lds85 {w : World} {a : Addr} {m : Option Nat} (h : w.cell? a = some (.map m)) : Lds Tryz.prog 85 w a (.map m) := by
  have key : (∃ m', w.cell? a = some (.map m') /\ .map m' = Value.map m) = ldVC Tryz.prog 85 w a (fun v => v = .map m) := by kernel_rfl
  obtain ⟨v, rfl, hr⟩ := semR_out (ldVC_sound (of_eq ⟨_, h, rfl⟩ key)); exact hr w rfl
theorem mem_als {l : List (ByteArray × Al)} {n : ByteArray} : Value.string n ∈ keysV l ↔ n ∈ l.map (·.1) := by rw [keysV_fst]; exact mem_strsV
end
section
variable {w0 w : World} {path : ByteArray} {st : Nst}
theorem look_al {als : List (ByteArray × Al)} {m : Nat} {f1 : Value -> Value} {w0 w : World} (hM : MapF .string w m (keysV als) f1) (hA : ∀ x ∈ als, AlAt w0 (f1 (.string x.1)) x.2) (n : ByteArray) :
    ∃ v, AlAt w0 v ((als.find? fun x => x.1 = n).map (·.2) |>.getD alZ) /\ ∀ w', MapF .string w' m (keysV als) f1 -> (Instr.lookup 85 (.map (some m)) (.string n) true).run Tryz.prog w' = .ok (.tuple #[v, .bool (memB n (als.map (·.1)))]) w' := by
  rcases find_key (l := als) (n := n) with ⟨hin, a, e, hm⟩ | ⟨hout, e⟩
  . refine ⟨f1 (.string n), by rw [e]; exact hA _ hm, fun w' M => ?_⟩; rw [run_lookup_in mapAl undStr (isKeyS n) M hin true, memB_iff.2 (mem_als.1 hin)]; rfl
  . refine ⟨_, by rw [e]; exact al_zero, fun w' M => ?_⟩; rw [run_lookup_out mapAl undStr (isKeyS n) M hout (zeroAl w') true, memB_not fun h => hout (mem_als.2 h)]; rfl
def setF (n : ByteArray) (v : Value) (f : Value -> Value) : Value -> Value
  | .string s => if s = n then v else f (.string s)
  | x => f x
theorem setF_same (n : ByteArray) (v : Value) (f : Value -> Value) : setF n v f (.string n) = v := by simp [setF]
theorem setF_ne {n s : ByteArray} (v : Value) (f : Value -> Value) (h : s ≠ n) : setF n v f (.string s) = f (.string s) := by simp [setF, h]
theorem add_al (h : NI w0 path st w) {n : ByteArray} {a : Al} {v : Value} (hv : AlAt w0 v a) (hn : n ∉ st.als.map (·.1)) {K : PUnit -> WP}
    (hk : ∀ w', NI w0 path { st with als := st.als ++ [(n, a)] } w' -> (∀ l p n cc, NT w0 l p n cc w -> NT w0 l p n cc w') -> K () w') :
    runC Tryz.prog (Instr.mapUpdate 85 (.map (some (w0.heap.size + 1))) (.string n) v) w K := by
  obtain ⟨ov, f1, s1, s2, s3, s4, s5⟩ := h.sc; obtain ⟨tv, t1, t2, t3⟩ := h.told
  refine update_out mapAl undStr (isKeyS n) s2 (fun e => hn (mem_als.1 e)) v (f' := setF n v f1) (setF_same _ _ _) (fun x hx hne => ?_) fun w' M u z => hk w' ⟨h.up.trans u fun x hx (e : x = _) => by omega, h.k0.upd u (by omega), ⟨ov, setF n v f1, s1.upd u (by omega), ?_, fun x hx => ?_, s4.upd u fun b hb e => by have := s5 b hb; omega, s5⟩,
    h.owns.upd u (by omega), tv, t1.upd u (by omega), t2.upd u fun b hb e => by have := t3 b hb; omega, t3⟩ fun l p n cc hT => ?_
  . obtain ⟨y, hy, rfl⟩ := List.mem_map.1 hx; exact setF_ne _ _ fun e => hne (by rw [e])
  . simpa [keysV] using M
  . rcases List.mem_append.1 hx with hx | hx
    . have : x.1 ≠ n := fun e => hn (List.mem_map.2 ⟨x, hx, e⟩); rw [setF_ne _ _ this]; exact s3 x hx
    . obtain rfl : x = (n, a) := by simpa using hx
      rw [setF_same]; exact hv
  . obtain ⟨vs, hO, hd⟩ := hT.ex; exact ⟨vs, ⟨hO.row.upd u fun b hb e => by have := hO.own b hb; omega, hO.own, hO.len, hO.cap⟩, hd⟩
theorem add_own (h : NI w0 path st w) {n : ByteArray} (hn : n ∉ st.owns) {K : PUnit -> WP}
    (hk : ∀ w', NI w0 path { st with owns := st.owns ++ [n] } w' -> (∀ l p n cc, NT w0 l p n cc w -> NT w0 l p n cc w') -> K () w') :
    runC Tryz.prog (Instr.mapUpdate 86 (.map (some (w0.heap.size + 2))) (.string n) (.pointer none)) w K := by
  obtain ⟨ov, f1, s1, s2, s3, s4, s5⟩ := h.sc; obtain ⟨tv, t1, t2, t3⟩ := h.told
  refine update_out mapOwn undStr (isKeyS n) h.owns (fun e => hn (mem_strsV.1 e)) _ (f' := fun _ => .pointer none) rfl (fun _ _ _ => rfl) fun w' M u z => hk w' ⟨h.up.trans u fun x hx (e : x = _) => by omega, h.k0.upd u (by omega), ⟨ov, f1, s1.upd u (by omega), s2.upd u (by omega), s3, s4.upd u fun b hb e => by have := s5 b hb; omega, s5⟩,
    ?_, tv, t1.upd u (by omega), t2.upd u fun b hb e => by have := t3 b hb; omega, t3⟩ fun l p n cc hT => ?_
  . simpa [strsV] using M
  . obtain ⟨vs, hO, hd⟩ := hT.ex; exact ⟨vs, ⟨hO.row.upd u fun b hb e => by have := hO.own b hb; omega, hO.own, hO.len, hO.cap⟩, hd⟩
theorem add_ord (h : NI w0 path st w) (hl : st.ord.length <= 1000000) {b : Nat} {cs : Array Value} {e : TypeId} {n : ByteArray} (hB : Blk w0 b cs e) (hn : cs[2]? = some (.string n)) {K : WP}
    (hk : ∀ w', NI w0 path { st with ord := st.ord ++ [n] } w' -> (∀ l p n cc, NT w0 l p n cc w -> NT w0 l p n cc w') -> K w') :
    ∃ (x58 : WP), ∃ (p59 : Option Addr), ∃ (k60 : Nat), ∃ (k61 : Nat), World.cell? w (Addr.mk (w0.heap.size + 3) 2 none) = some (.slice p59 k60 k61) /\ (∀ (w62 : World), x58 w62 -> Lds Tryz.prog 53 w62 (Addr.mk (w0.heap.size + 3) 2 none) (.slice p59 k60 k61)) /\
      ptrC (some ⟨b, 0, none⟩) fun (a63 : Addr) ↦ ∃ (s64 : ByteArray), World.cell? w (Addr.add a63 2) = some (.string s64) /\ (∀ (w65 : World), x58 w65 -> Lds Tryz.prog 9 w65 (Addr.add a63 2) (.string s64)) /\
        (newC w (Obj.cells #[.string s64] 9) fun (k66 : Nat) (w67 : World) ↦ x58 w67 /\ (runC Tryz.prog (Builtin.append_ #[53, 53] 53 #[.slice p59 k60 k61, .slice (some (Addr.mk k66 0 none)) 1 1]) w67 fun (v68 : Value) (w69 : World) ↦ ∃ (p70 : Option Addr), ∃ (k71 : Nat), ∃ (k72 : Nat), v68 = .slice p70 k71 k72 /\ x58 w69 /\
          (stC w69 (Addr.mk (w0.heap.size + 3) 2 none) (.slice p70 k71 k72) fun (w73 : World) ↦ K w73) /\ True) /\ True) /\ True := by
  obtain ⟨ov, f1, s1, s2, s3, s4, s5⟩ := h.sc; obtain ⟨tv, t1, t2, t3⟩ := h.told; obtain ⟨p, m, c, rfl, _, _, _⟩ := s4.shape; have hbl := hB.lt; have hb0 := hB.upd h.up id; have hz := h.size; refine ⟨fun w' => (∀ cs e, Blk w (w0.heap.size + 3) cs e -> Blk w' (w0.heap.size + 3) cs e) /\ w'.cell? ⟨b, 2, none⟩ = some (.string n), p, m, c, s1.cell rfl, fun w' hx => lds_strs ((hx.1 _ _ s1).cell rfl), ptrC_some ⟨n, by rw [add_mk]; exact hb0.cell hn, fun w' hx => by rw [add_mk]; exact lds_str hx.2, ?_, trivial⟩⟩; refine newC_mk fun w67 B67 u67 z67 => ⟨⟨fun cs e h => h.upd u67 id, (hb0.upd u67 id).cell hn⟩, ?_, trivial⟩; have r67 := s4.upd u67 fun _ _ h => h; have hrc := row_cap r67; refine grow_row elemStr (n0 := w0.heap.size + 5) ⟨r67, s5, hrc.1, hrc.2⟩ (by have := u67.size; omega) (row_one B67) (by intro u hu; simp at hu; subst hu; rfl) (by omega) (by simp [strsV]; omega) fun p' n' c' w69 o69 _ hin69 u69 => ?_; have nin : ∀ x, x < w0.heap.size + 5 -> ¬ InRow (.slice p m c) x := fun x hx h => by have := s5 x h; omega
  have sc69 := (s1.upd u67 id).upd u69 (nin _ (by omega)); refine ⟨⟨fun cs e h => (h.upd u67 id).upd u69 (nin _ (by omega)), ((hb0.upd u67 id).upd u69 (nin _ (by omega))).cell hn⟩, stC_mk sc69 (by simp) fun w73 B73 u73 z73 => hk w73 ⟨?_, ?_, ⟨_, f1, B73, ?_, s3, ?_, fun x hx => ?_⟩, ?_, tv, ?_, ?_, t3⟩ fun l p n cc hT => ?_, trivial⟩
  . exact ((up h.up u67).trans u69 fun x hx hr => absurd hr (nin x (by omega))).trans u73 fun x hx (e : x = _) => by omega
  . exact ((h.k0.upd u67 id).upd u69 (nin _ (by omega))).upd u73 (by omega)
  . exact ((s2.upd u67 id).upd u69 (nin _ (by omega))).upd u73 (by omega)
  . have := o69.row.upd u73 fun x hx e => by
      have : w0.heap.size + 5 <= x := o69.own x hx; omega
    simpa [strsV] using this
  . exact o69.own x hx
  . exact ((h.owns.upd u67 id).upd u69 (nin _ (by omega))).upd u73 (by omega)
  . exact ((t1.upd u67 id).upd u69 (nin _ (by omega))).upd u73 (by omega)
  . refine ((t2.upd u67 fun _ _ h => h).upd u69 fun x hx hr => ?_).upd u73 fun x hx e => by have := t3 x hx; omega
    obtain ⟨cs, hB⟩ := row_blkOf r67 hr; exact row_ne (t2.upd u67 fun _ _ h => h) hB (by decide) hx
  . obtain ⟨vs, hO, hd⟩ := hT.ex; refine ⟨vs, ⟨((hO.row.upd u67 fun _ _ h => h).upd u69 fun x hx hr => ?_).upd u73 fun x hx e => by have := hO.own x hx; omega, hO.own, hO.len, hO.cap⟩, hd⟩; obtain ⟨cs, hB⟩ := row_blkOf r67 hr; exact row_ne (hO.row.upd u67 fun _ _ h => h) hB (by decide) hx
theorem add_type (h : NI w0 path st w) {l : List Dc} {p : Option Addr} {n c : Nat} (hT : NT w0 l p n c w) (hl : l.length <= 1000000) {d : Dc} {q : Option Addr} (hd : DcAt (From 0) w0 (.pointer q) d) {K : KV}
    (hk : ∀ p' n' c' w', NI w0 path st w' -> NT w0 (l ++ [d]) p' n' c' w' -> K (.slice p' n' c') w') :
    newC w (Obj.cells #[.pointer q] 51) fun (k146 : Nat) (w147 : World) ↦ runC Tryz.prog (Builtin.append_ #[57, 57] 57 #[.slice p n c, .slice (some (Addr.mk k146 0 none)) 1 1]) w147 K := by
  obtain ⟨vs, hO, hlen, hds⟩ := hT.ex; obtain ⟨ov, f1, s1, s2, s3, s4, s5⟩ := h.sc; obtain ⟨tv, t1, t2, t3⟩ := h.told; have hz := h.size; refine newC_mk fun w1 B1 u1 z1 => ?_; have o1 := hO.keep u1; have key := grow_row elemDecl (n0 := w0.heap.size + 5) (K := fun p' n' c' w' => K (.slice p' n' c') w') o1 (by have := u1.size; omega) (row_one B1) (by intro u hu; simp at hu; subst hu; rfl) (by omega) (by simp; omega) fun p' n' c' w2 o2 _ hin2 u2 => ?_
  . obtain ⟨v, w', h1, p', n', c', rfl, h2⟩ := key; exact ⟨_, _, h1, h2⟩
  have nin : ∀ x, x < w0.heap.size + 5 -> ¬ InRow (.slice p n c) x := fun x hx h => by have := hO.own x h; omega
  have ne : ∀ {x : Nat} {e : TypeId} {size : Nat} {v : Value} {xs : List Value}, RowAt w1 e size v xs -> e ≠ 51 -> InRow v x -> ¬ InRow (.slice p n c) x := fun hr hne hx hr2 => by
    obtain ⟨cs, hB⟩ := row_blkOf o1.row hr2; exact row_ne hr hB hne hx
  refine hk p' n' c' w2 ⟨(up h.up u1).trans u2 fun x hx hr => absurd hr (nin x (by omega)), (h.k0.upd u1 id).upd u2 (nin _ (by omega)), ⟨ov, f1, (s1.upd u1 id).upd u2 (nin _ (by omega)), (s2.upd u1 id).upd u2 (nin _ (by omega)), s3, (s4.upd u1 fun _ _ h => h).upd u2 fun x hx => ne (s4.upd u1 fun _ _ h => h) (by decide) hx, s5⟩,
    (h.owns.upd u1 id).upd u2 (nin _ (by omega)), tv, (t1.upd u1 id).upd u2 (nin _ (by omega)), (t2.upd u1 fun _ _ h => h).upd u2 fun x hx => ne (t2.upd u1 fun _ _ h => h) (by decide) hx, t3⟩ ⟨_, o2, by simp [hlen], fun i v d' h1 h2 => ?_⟩
  rcases Nat.lt_or_ge i vs.length with hi | hi
  . rw [List.getElem?_append_left hi] at h1; rw [List.getElem?_append_left (by omega)] at h2; exact hds i v d' h1 h2
  . rw [List.getElem?_append_right hi] at h1; rw [List.getElem?_append_right (by omega), <- hlen] at h2
    have : i - vs.length = 0 := by
      have := (List.getElem?_eq_some_iff.1 h1).1; simp at this; omega
    rw [this] at h1 h2; cases h1; cases h2; exact hd
end
abbrev st0 : Nst := ⟨[], [], [], [], []⟩
def foldN (cl : ByteArray -> Option ByteArray) (ims : List Im) (ds : List (Option Dc)) : Nst := ds.foldl (stepN cl ims) st0
theorem foldN_succ {cl : ByteArray -> Option ByteArray} {ims : List Im} {ds : List (Option Dc)} {i : Nat} (hi : i < ds.length) : foldN cl ims (ds.take (i + 1)) = stepN cl ims (foldN cl ims (ds.take i)) ds[i] := by
  unfold foldN; rw [List.take_succ_eq_append_getElem hi, List.foldl_append]; rfl
theorem foldN_ind {cl : ByteArray -> Option ByteArray} {ims : List Im} {p : Nat -> Nst -> Prop} (h0 : p 0 st0) {ds : List (Option Dc)} (hs : ∀ i st d, ds[i]? = some d -> p i st -> p (i + 1) (stepN cl ims st d)) : ∀ i, i <= ds.length -> p i (foldN cl ims (ds.take i)) := by
  intro i
  induction i with
  | zero => intro _; exact h0
  | succ i ih =>
    intro hi; rw [foldN_succ hi]; exact hs i _ _ (List.getElem?_eq_getElem hi) (ih (by omega))
structure StOk (i : Nat) (st : Nst) : Prop where
  told : st.told.length <= i
  ord : st.ord = st.als.map (·.1)
  alsN : st.als.length <= i
  types : st.types.length <= i
  als : ∀ x ∈ st.als, AlOk x.2
  owns : ∀ n ∈ st.owns, n.size <= 1000000
  tys : ∀ d ∈ st.types, xsz d.t <= 1000000 /\ d.name ∈ st.owns
theorem alZ_ok : AlOk alZ := ⟨by decide, by decide, by decide, fun x hx => by cases hx⟩
theorem imported_ok {r : Option ByteArray} {l : List Im} (h : ∀ m ∈ l, AlOk m.sum) : AlOk (importedF r l).sum := by
  unfold importedF
  cases r with
  | none => exact alZ_ok
  | some p =>
    show AlOk (((l.find? (isP p)).getD imZ).sum)
    cases e : l.find? (isP p) with
    | none => exact alZ_ok
    | some m => exact h m (List.mem_of_find?_eq_some e)
structure DsOk (ds : List (Option Dc)) : Prop where
  len : ds.length <= 100
  each : ∀ d, some d ∈ ds -> xsz d.t <= 1000000 /\ d.name.size <= 1000000
theorem foldN_ok {cl : ByteArray -> Option ByteArray} {ims : List Im} {ds : List (Option Dc)} (hd : DsOk ds) (hm : ∀ m ∈ ims, AlOk m.sum) : ∀ i, i <= ds.length -> StOk i (foldN cl ims (ds.take i)) := by
  refine foldN_ind ⟨Nat.le_refl _, rfl, Nat.le_refl _, Nat.le_refl _, fun x hx => (by cases hx), fun x hx => (by cases hx), fun x hx => (by cases hx)⟩ fun i st d he h => ?_; unfold stepN
  cases d with
  | none =>
    have g1 := h.told; have g2 := h.alsN; have g3 := h.types; dsimp only; exact ⟨by omega, h.ord, by omega, by omega, h.als, h.owns, h.tys⟩
  | some d =>
    have hdd := hd.each d (List.mem_of_getElem? he); have g1 := h.told; have g2 := h.alsN; have g3 := h.types; dsimp only; split
    . split
      . exact ⟨by simp; omega, h.ord, by dsimp only; omega, by dsimp only; omega, h.als, h.owns, h.tys⟩
      . refine ⟨?_, by simp [h.ord], by simp; omega, by dsimp only; omega, fun x hx => ?_, h.owns, h.tys⟩
        . dsimp only; split
          . omega
          . simp; omega
        . rcases List.mem_append.1 hx with hx | hx
          . exact h.als x hx
          . obtain rfl : x = _ := by simpa using hx
            have := imported_ok (r := cl d.text) hm; exact ⟨this.path, this.types, this.values, this.names⟩
    . split
      . split
        . exact ⟨by simp; omega, h.ord, by dsimp only; omega, by dsimp only; omega, h.als, h.owns, h.tys⟩
        . refine ⟨by dsimp only; omega, h.ord, by dsimp only; omega, by simp; omega, h.als, fun n hn => ?_, fun x hx => ?_⟩
          . rcases List.mem_append.1 hn with hn | hn
            . exact h.owns n hn
            . obtain rfl : n = d.name := by simpa using hn
              exact hdd.2
          . rcases List.mem_append.1 hx with hx | hx
            . exact ⟨(h.tys x hx).1, by simp [(h.tys x hx).2]⟩
            . obtain rfl : x = d := by simpa using hx
              exact ⟨hdd.1, by simp⟩
      . exact ⟨by omega, h.ord, by omega, by omega, h.als, h.owns, h.tys⟩
def setOwn (owns : List Ex) (n : ByteArray) (t : T) : List Ex := owns.map fun x => if x.1 = n then (n, t) else x
def step2 (s : Sc × List Dg) (d : Dc) : Sc × List Dg := ({ s.1 with owns := setOwn s.1.owns d.name (resF s.1 d.t).1 }, s.2 ++ (resF s.1 d.t).2)
def firstF (path : ByteArray) (st : Nst) : Sc × List Dg := (⟨path, st.als, st.owns.map fun n => (n, .nil)⟩, st.told)
def newF (path : ByteArray) (cl : ByteArray -> Option ByteArray) (ims : List Im) (ds : List (Option Dc)) : Sc × List Dg := (foldN cl ims ds).types.foldl step2 (firstF path (foldN cl ims ds))
theorem setOwn_keys (owns : List Ex) (n : ByteArray) (t : T) : (setOwn owns n t).map (·.1) = owns.map (·.1) := by
  induction owns with
  | nil => rfl
  | cons x l ih =>
    unfold setOwn at ih ⊢; simp only [List.map_cons, ih]; split
    . rename_i h; rw [h]
    . rfl
section
variable {w0 : World} {path : ByteArray} {cl : ByteArray -> Option ByteArray} {ims : List Im} {ds : List (Option Dc)}
structure NJ (w0 : World) (s : Sc × List Dg) (w : World) : Prop where
  up : Upd No w0 w
  sc : ∃ ov f1 f2, ScIn w (w0.heap.size + 3) (w0.heap.size + 1) (w0.heap.size + 2) ov f1 f2 s.1 /\ (∀ x ∈ s.1.als, AlAt w0 (f1 (.string x.1)) x.2) /\ ∀ b, InRow ov b -> w0.heap.size + 5 <= b
  told : ∃ tv, Blk w (w0.heap.size + 4) #[tv] 24 /\ RowAt w 35 3 tv (dgCells s.1.path s.2) /\ ∀ b, InRow tv b -> w0.heap.size + 5 <= b
theorem NJ.keep {w w' : World} {s : Sc × List Dg} (h : NJ w0 s w) (u : Upd No w w') : NJ w0 s w' := by
  obtain ⟨ov, f1, f2, h1, h2, h3⟩ := h.sc; obtain ⟨tv, t1, t2, t3⟩ := h.told; exact ⟨Go.Proofs.YtdbkclnlfibgdaaGreatDoor.up h.up u, ⟨ov, f1, f2, h1.keep u, h2, h3⟩, tv, t1.upd u id, t2.upd u fun _ _ h => h, t3⟩
theorem NI.second {w : World} {st : Nst} (h : NI w0 path st w) (ho : st.ord = st.als.map (·.1)) : NJ w0 (firstF path st) w := by
  obtain ⟨ov, f1, s1, s2, s3, s4, s5⟩ := h.sc; have hk : keysV (st.owns.map fun n => (n, T.nil)) = strsV st.owns := by simp [keysV, strsV]
  refine ⟨h.up, ⟨ov, f1, fun _ => .pointer none, ⟨s1, s2, fun x hx => (s3 x hx).keep h.up, ?_, ?_, fun x hx => ?_⟩, s3, s5⟩, h.told⟩
  . show RowAt w _ 1 ov (keysV st.als); rw [keysV_fst, <- ho]; exact s4
  . show MapF .string w _ (keysV (st.owns.map fun n => (n, T.nil))) _; rw [hk]; exact h.owns
  . obtain ⟨n, _, rfl⟩ := List.mem_map.1 hx; exact at_nil
theorem ty_map {F : Nat -> Prop} {w w' : World} {v : Value} {t : T} (h : TyAt ids F w v t) {m : Nat} {d : TypeDesc} {ks : List Value} {f : Value -> Value} (M : MapF d w m ks f) (u : Upd (· = m) w w') : TyAt ids F w' v t :=
  tyAt_kind u (fun b cs e hB _ hb => by
    subst hb; obtain ⟨es, clock, hm, _⟩ := M; rw [show w.heap[b]? = some (.cells cs e (0, 0)) from hB] at hm; cases hm) t v h
theorem ty_told {F : Nat -> Prop} {w w' : World} {v : Value} {t : T} (h : TyAt ids F w v t) {S : Nat -> Prop} (u : Upd S w w') (hS : ∀ b, S b -> ∃ cs t, Blk w b cs t /\ (t = 24 \/ t = 35)) : TyAt ids F w' v t :=
  tyAt_kind u (fun b cs e hB he hb => by
    obtain ⟨cs', t', hB', ht'⟩ := hS b hb; obtain ⟨_, rfl⟩ := hB.inj hB'; rcases he with rfl | rfl | rfl <;> rcases ht' with h | h <;> exact absurd h (by decide)) t v h
theorem second_c {w : World} {s : Sc × List Dg} (h : NJ w0 s w) (ok : ScOk s.1) {d : Dc} {l : List Dc} {p : Option Addr} {n c : Nat} (hT : NT w0 l p n c w) {q : Option Addr} (hd : DcAt (From 0) w0 (.pointer q) d) (hx : xsz d.t <= 1000000) (hin : d.name ∈ s.1.owns.map (·.1)) (hl : s.2.length + xsz d.t <= 900000000) {K : WP}
    (hk : ∀ w', NJ w0 (step2 s d) w' -> NT w0 l p n c w' -> K w') :
    ptrC q fun (a160 : Addr) ↦ ∃ (p161 : Option Addr), World.cell? w (Addr.add a160 4) = some (.pointer p161) /\ callC Tryz.prog 10 #[.pointer (some (Addr.mk (w0.heap.size + 3) 0 none)), .pointer p161] w fun (v162 : Value) (w163 : World) ↦ ∃ (p164 : Option Addr), ∃ (p165 : Option Addr), ∃ (k166 : Nat), ∃ (k167 : Nat), v162 = .tuple #[.pointer p164, .slice p165 k166 k167] /\
      drawC w163 fun (w168 : World) ↦ ∃ (p169 : Option Nat), World.cell? w168 (Addr.mk (w0.heap.size + 3) 3 none) = some (.map p169) /\ ptrC q fun (a170 : Addr) ↦ ∃ (s171 : ByteArray), World.cell? w168 (Addr.add a170 2) = some (.string s171) /\
        runC Tryz.prog (Instr.mapUpdate 86 (.map p169) (.string s171) (.pointer p164)) w168 fun (_ : PUnit) (w173 : World) ↦ ∃ (p174 : Option Addr), ∃ (k175 : Nat), ∃ (k176 : Nat), World.cell? w173 (Addr.mk (w0.heap.size + 4) 0 none) = some (.slice p174 k175 k176) /\
          runC Tryz.prog (Builtin.append_ #[24, 24] 24 #[.slice p174 k175 k176, .slice p165 k166 k167]) w173 fun (v177 : Value) (w178 : World) ↦ ∃ (p179 : Option Addr), ∃ (k180 : Nat), ∃ (k181 : Nat), v177 = .slice p179 k180 k181 /\ stC w178 (Addr.mk (w0.heap.size + 4) 0 none) (.slice p179 k180 k181) K := by
  obtain ⟨b, tvv, e, _, hB, hX⟩ := hd; cases e; obtain ⟨px, rfl⟩ := x_ptr hX; obtain ⟨ov, f1, f2, i1, i2, i3⟩ := h.sc; obtain ⟨tv, t1, t2, t3⟩ := h.told; have hz : w0.heap.size + 5 <= w.heap.size := by have := t1.lt; omega
  refine ptrC_some ⟨px, by rw [add_mk]; exact (hB.upd h.up id).cell rfl, ?_⟩; refine Resolve_c ⟨_, _, _, _, _, i1⟩ ok (hX.keep h.up) hx fun q2 v w163 ht row own u163 => ?_; obtain ⟨pm, nm, cm, rfl, hnm, _, _⟩ := row.shape; rw [dgCells_len] at hnm; refine ⟨_, _, _, _, rfl, drawC_mk fun w168 u168 z168 => ?_⟩; have U := up u163 u168; have z163 := u163.size; have U0 := up h.up U; have j1 := i1.keep U; have r168 := row.upd u168 fun _ _ h => h; refine ⟨_, j1.blk.cell rfl, ptrC_some ⟨_, by rw [add_mk]; exact (hB.upd U0 id).cell rfl, ?_⟩⟩; have hin' : Value.string d.name ∈ keysV s.1.owns := by rw [keysV_fst]; exact mem_strsV.2 hin
  refine update_in mapOwn undStr (isKeyS d.name) j1.owns hin' _ (f' := setF d.name (.pointer q2) f2) (setF_same _ _ _) (fun x hx hne => ?_) fun w173 M u173 z173 => ?_
  . obtain ⟨y, hy, rfl⟩ := List.mem_map.1 hx; exact setF_ne _ _ fun e => hne (by rw [e])
  obtain ⟨pt, nt, ct, rfl, hnt, _, _⟩ := t2.shape; have t173 := (t1.upd U id).upd u173 (by omega); have rt173 := (t2.upd U fun _ _ h => h).upd u173 fun b hb e => by have := t3 b hb; omega
  have r173 := r168.upd u173 fun b hb e => by have := own b hb; omega
  refine ⟨_, _, _, t173.cell rfl, ?_⟩; refine dg_grow (ds := (resF s.1 d.t).2) rt173 (by have := res_told s.1 d.t; omega) pm nm cm (by omega) (fun j u hj => ?_) fun v' w178 row178 u178 hin178 => ?_
  . have hj' := (List.getElem?_eq_some_iff.1 hj).1; obtain ⟨g, o, rfl, hc⟩ := r173.get hj'; exact ⟨_, rfl, by rw [add_mk, hc]; exact hj⟩
  obtain ⟨p2, n2, c2, rfl, _, _, _⟩ := row178.shape; have nin : ∀ x, x < w0.heap.size + 5 -> ¬ InRow (.slice pt nt ct) x := fun x hx h => by have := t3 x h; omega
  have t178 := t173.upd u178 (nin _ (by omega))
  have ne : ∀ {x : Nat} {e : TypeId} {size : Nat} {v : Value} {xs : List Value}, RowAt w173 e size v xs -> e ≠ 35 -> InRow v x -> ¬ InRow (.slice pt nt ct) x := fun hr hne hx hr2 => by
    obtain ⟨cs, hB⟩ := row_blkOf rt173 hr2; exact row_ne hr hB hne hx
  have kty : ∀ {F : Nat -> Prop} {v : Value} {t : T} {w2 : World}, TyAt ids F w173 v t -> Upd (· = w0.heap.size + 4) w178 w2 -> TyAt ids F w2 v t := fun hv u2 => ty_told (ty_told hv u178 fun x hx => by
      obtain ⟨cs, hB⟩ := row_blkOf rt173 hx; exact ⟨cs, _, hB, .inr rfl⟩) u2 fun x hx => by subst hx; exact ⟨_, _, t178, .inl rfl⟩
  have k173 : ∀ {F : Nat -> Prop} {v : Value} {t : T}, TyAt ids F w168 v t -> TyAt ids F w173 v t := fun hv => ty_map hv j1.owns u173; refine ⟨_, _, _, rfl, stC_mk t178 (by simp) fun w2 B2 u2 z2 => hk w2 ⟨?_, ⟨ov, f1, setF d.name (.pointer q2) f2, ⟨?_, ?_, fun x hx => ?_, ?_, ?_, fun x hx => ?_⟩, i2, i3⟩, _, B2, ?_, fun x hx => ?_⟩ ?_⟩
  . exact ((U0.trans u173 fun x hx (e : x = _) => by omega).trans u178 fun x hx hr => absurd hr (nin x (by omega))).trans u2 fun x hx (e : x = _) => by omega
  . exact ((j1.blk.upd u173 (by omega)).upd u178 (nin _ (by omega))).upd u2 (by omega)
  . exact ((j1.als.upd u173 (by omega)).upd u178 (nin _ (by omega))).upd u2 (by omega)
  . refine (i2 x hx).keep ?_; exact ((U0.trans u173 fun x hx (e : x = _) => by omega).trans u178 fun x hx hr => absurd hr (nin x (by omega))).trans u2 fun x hx (e : x = _) => by omega
  . have r1 := j1.ord.upd u173 fun b hb e => by have := i3 b hb; omega
    exact (r1.upd u178 fun x hx => ne r1 (by decide) hx).upd u2 fun b hb e => by have := i3 b hb; omega
  . have hk2 : keysV (setOwn s.1.owns d.name (resF s.1 d.t).1) = keysV s.1.owns := by rw [keysV_fst, keysV_fst, setOwn_keys]
    show MapF .string w2 _ (keysV (setOwn s.1.owns d.name (resF s.1 d.t).1)) _; rw [hk2]; exact (M.upd u178 (nin _ (by omega))).upd u2 (by omega)
  . obtain ⟨y, hy, hyx⟩ := List.mem_map.1 hx
    by_cases hyn : y.1 = d.name
    . rw [if_pos hyn] at hyx; subst hyx; dsimp only; rw [setF_same]; exact kty (k173 (at_of (ht.keep u168))) u2
    . rw [if_neg hyn] at hyx; subst hyx; rw [setF_ne _ _ hyn]; exact kty (k173 (j1.own y hy)) u2
  . exact row178.upd u2 fun x hx e => by
      subst e; exact absurd (row_type row178 t178 hx) (by decide)
  . rcases hin178 x hx with h | h
    . exact t3 x h
    . have := u173.size; omega
  . obtain ⟨vs, hO, hds⟩ := hT.ex; have o1 := (hO.row.upd U fun _ _ h => h).upd u173 fun b hb e => by have := hO.own b hb; omega
    exact ⟨vs, ⟨(o1.upd u178 fun x hx => ne o1 (by decide) hx).upd u2 fun b hb e => by have := hO.own b hb; omega, hO.own, hO.len, hO.cap⟩, hds⟩
end
section
variable {w0 : World} {path : ByteArray} {cl : ByteArray -> Option ByteArray} {ims : List Im}
theorem find_alF {als : List (ByteArray × Al)} {n : ByteArray} : memB n (als.map (·.1)) = false -> n ∉ als.map (·.1) := fun h hm => by rw [memB_iff.2 hm] at h; cases h
theorem NI.types {w : World} {st : Nst} {l : List Dc} (h : NI w0 path st w) : NI w0 path { st with types := l } w := ⟨h.up, h.k0, h.sc, h.owns, h.told⟩
theorem dc_cell {w0 w : World} {q : Option Addr} {d : Dc} (h : DcAt (From 0) w0 (.pointer q) d) (u : Upd No w0 w) : ∃ b tvv, q = some ⟨b, 0, none⟩ /\ b < w0.heap.size /\
    Blk w0 b #[.int .i64 d.kind, .int .i64 (d.at_ : Int), .string d.name, .string d.text, tvv, .pointer none, .slice none 0 0, .slice none 0 0] 56 /\
    Blk w b #[.int .i64 d.kind, .int .i64 (d.at_ : Int), .string d.name, .string d.text, tvv, .pointer none, .slice none 0 0, .slice none 0 0] 56 := by
  obtain ⟨b, tvv, e, _, hB, _⟩ := h; cases e; exact ⟨b, tvv, rfl, hB.lt, hB, hB.upd u id⟩
theorem New_c {w : World} {path : ByteArray} {ds : List (Option Dc)} {p0 : Option Addr} {n0 c0 : Nat} {vs : List Value} (hD : RowAt w 51 1 (.slice p0 n0 c0) vs) (hvl : vs.length = ds.length) (hDs : ∀ (i : Nat) (v : Value) (d : Option Dc), vs[i]? = some v -> ds[i]? = some d -> DoAt w v d)
    (ok : DsOk ds) {pi : Option Addr} {ni ci : Nat} (hI : ImAt w pi ims) (hni : ni = ims.length) (hnm : ni <= 1000000) (hio : ∀ m ∈ ims, AlOk m.sum) (hcl : ∀ d, some d ∈ ds -> d.kind = 1 -> CleanOk d.text (cl d.text)) (hpath : path.size <= 1000000) {K : KV}
    (hk : ∀ q v w', ScAt w' q (newF path cl ims ds).1 -> RowAt w' 35 3 v (dgCells path (newF path cl ims ds).2) -> (∀ b, InRow v b -> w.heap.size <= b) -> ScOk (newF path cl ims ds).1 -> Upd No w w' -> K (.tuple #[.pointer (some ⟨q, 0, none⟩), v]) w') :
    callC Tryz.prog 18 #[.string path, .slice p0 n0 c0, .slice pi ni ci] w K := by
  have hn0 : n0 = vs.length := (row_cap hD).1; refine New_text _ _ _ _ _ _ _ _ _ (newC_mk fun w1 B1 u1 s1 => ⟨_, B1.cell rfl, newM_mk (d := .string) (f := fun _ => .nilFunc) fun w4 M4 u4 s4 => newM_mk (d := .string) (f := fun _ => .pointer none) fun w6 M6 u6 s6 => newC_mk fun w8 B8 u8 s8 => newC_mk fun w10 B10 u10 s10 => ?_⟩); have e1 : w1.heap.size = w.heap.size + 1 := s1; have e4 : w4.heap.size = w.heap.size + 2 := by omega
  have e6 : w6.heap.size = w.heap.size + 3 := by omega
  have e8 : w8.heap.size = w.heap.size + 4 := by omega
  have init : NI w path st0 w10 := by
    have b8 := B8.upd u10 id; rw [e1, e4, e6] at b8; have b10 := B10; rw [e8] at b10; have m4 := ((M4.upd u6 id).upd u8 id).upd u10 id; rw [e1] at m4; have m6 := (M6.upd u8 id).upd u10 id; rw [e4] at m6; exact ⟨up (up (up (up u1 u4) u6) u8) u10, (((B1.upd u4 id).upd u6 id).upd u8 id).upd u10 id, ⟨_, _, b8, m4, fun x hx => (by cases hx), RowAt.nil _ _ _, fun b hb => (no_in b hb).elim⟩, m6, _, b10, RowAt.nil _ _ _, fun b hb => (no_in b hb).elim⟩
  simp only [e1, e4, e6, e8]; clear e1 e4 e6 e8; generalize hst : foldN cl ims = fN; have hok : ∀ i, i <= ds.length -> StOk i (fN (ds.take i)) := by rw [<- hst]; exact foldN_ok ok hio
  have hlen := ok.len; refine ⟨fun p n c m w' => ∃ i : Nat, m = i /\ i <= ds.length /\ NI w path (fN (ds.take i)) w' /\ NT w (fN (ds.take i)).types p n c w', fun _ _ _ m _ => ds.length - m.toNat, ⟨0, rfl, Nat.zero_le _, by rw [<- hst]; exact init, by rw [<- hst]; exact ⟨[], ownNil _ _ _, rfl, fun i v d h => (by simp at h)⟩⟩, ?_⟩; rintro p n c m w17 ⟨i, rfl, hi, I17, T17⟩ _; have hoki := hok i hi; refine brC_intro (fun hlt => ?_) fun hge => ?_
  . have hi : i < ds.length := by have := of_decide_eq_true hlt; omega
    have hst1 : fN (ds.take (i + 1)) = stepN cl ims (fN (ds.take i)) ds[i] := by rw [<- hst]; exact foldN_succ hi
    have hDo := hDs i vs[i] ds[i] (List.getElem?_eq_getElem (by omega)) (List.getElem?_eq_getElem hi); have hmem : ds[i] ∈ ds := List.getElem_mem hi; obtain ⟨g, o, rfl, hc⟩ := hD.get (j := i) (by omega); rw [List.getElem?_eq_getElem (by omega)] at hc; generalize hst2 : fN (ds.take i) = st at *; generalize ds[i] = od at *; generalize vs[i] = vv at *; refine ⟨fun p n c w' => NI w path (stepN cl ims st od) w' /\ NT w (stepN cl ims st od).types p n c w', ?_, by omega, by omega, ptrC_some ?_⟩
    . rintro p n c w' ⟨h1, h2⟩ _; rw [wrap_succ (by omega)]; refine ⟨⟨i + 1, rfl, hi, by rw [hst1]; exact h1, by rw [hst1]; exact h2⟩, ?_⟩; simp only [Int.toNat_natCast]; have : ((i : Int) + 1).toNat = i + 1 := by omega
      omega
    rw [Int.toNat_natCast, add_mk, Nat.mul_one]; have g1 := hoki.told; have g2 := hoki.alsN; have g3 := hoki.types
    cases od with
    | none =>
      obtain rfl : vv = .pointer none := hDo; exact ⟨none, cell_keep hc I17.up, brC_tt rfl ⟨I17, T17⟩⟩
    | some d =>
      have hDo : DcAt (From 0) w vv d := hDo; obtain ⟨q, rfl⟩ : ∃ q, vv = .pointer q := by obtain ⟨b, _, rfl, _⟩ := hDo; exact ⟨_, rfl⟩
      obtain ⟨b, tvv, rfl, hbl, hB0, _⟩ := dc_cell hDo (Upd.refl No w); have hB : ∀ {w' : World}, Upd No w w' -> Blk w' b _ _ := fun u => hB0.upd u id; refine ⟨_, cell_keep hc I17.up, brC_ff rfl (ptrC_some ⟨_, (hB I17.up).cell rfl, brC_intro (fun h1 => ?_) fun h1 => brC_intro (fun h2 => ?_) fun h2 => ?_⟩)⟩
      . have h1 : d.kind = 1 := by simpa using h1
        have hsN : stepN cl ims st (some d) = if memB d.name (st.als.map (·.1)) then { st with told := st.told ++ [((d.at_ : Int), 4)] }
            else { st with als := st.als ++ [(d.name, newAl (importedF (cl d.text) ims))], ord := st.ord ++ [d.name], told := if (importedF (cl d.text) ims).there then st.told else st.told ++ [((d.at_ : Int), 3)] } := by
          unfold stepN; dsimp only; rw [if_pos h1]
        rw [hsN]; clear hsN; refine ⟨fun w' => NI w path st w' /\ NT w st.types p n c w' /\ memB d.name (st.als.map (·.1)) = false, ?_, fun bb w' => bb = memB d.name (st.als.map (·.1)) /\ NI w path st w' /\ NT w st.types p n c w', ?_, ?_⟩
        . rintro w30 ⟨I30, T30, hnm2⟩ _; rw [hnm2]; simp only [Bool.false_eq_true, if_false]; have hout := find_alF hnm2; refine ptrC_some ⟨_, by rw [add_mk]; exact (hB I30.up).cell rfl, imported_c hI I30.up hni hnm (hcl d hmem h1) fun v w35 hv u35 => ?_⟩; have I35 := I30.keep u35; have T35 := T30.keep u35; obtain ⟨pT, cT, pV, cV, rfl, hT, hV⟩ := hv; generalize importedF (cl d.text) ims = im at *; refine ⟨_, _, _, _, _, _, _, _, _, rfl, newC_mk fun w46 B46 u46 s46 => sm_put B46 _ _ _ _ fun w50 B50 u50 s50 => ?_⟩; have hz := I35.size; have U50 : ∀ {S : Nat -> Prop}, (∀ x, x = w35.heap.size -> S x \/ w35.heap.size <= x) -> True := fun _ => trivial; have n50 : Upd No w35 w50 := u46.trans u50 fun x hx (e : x = _) => by omega
          have I50 := I35.keep n50; have T50 := T35.keep n50; refine ⟨fun w' => NI w path { st with told := if im.there then st.told else st.told ++ [((d.at_ : Int), 3)] } w' /\ NT w st.types p n c w' /\ Blk w' w35.heap.size #[.string im.sum.path, .bool im.sum.broken, .slice pV im.sum.values.length cV, .slice pT im.sum.types.length cT] 46, ?_, ?_⟩
          . rintro w52 ⟨I52, T52, B52⟩ _; generalize (if im.there = true then st.told else st.told ++ [((d.at_ : Int), 3)]) = tl at *; refine ⟨fun w' => NI w path { st with als := st.als ++ [(d.name, newAl im)], told := tl } w' /\ NT w st.types p n c w', ?_, drawC_mk fun w74 u74 s74 => ?_⟩
            . rintro w55 ⟨I55, T55⟩ _; refine drawC_mk fun w57 u57 s57 => ?_; exact add_ord (st := { st with als := st.als ++ [(d.name, newAl im)], told := tl }) (I55.keep u57) (by show st.ord.length <= _; rw [hoki.ord]; simp; omega) hB0 rfl fun w73 I73 T73 => ⟨I73, T73 _ _ _ _ (T55.keep u57)⟩
            have I74 := I52.keep u74; obtain ⟨ov, f1, s1', s2', s3', s4', s5'⟩ := I74.sc; have B74 := B52.upd u74 id; refine ⟨_, s1'.cell rfl, ptrC_some ⟨_, by rw [add_mk]; exact (hB I74.up).cell rfl, _, B74.cell rfl, _, B74.cell rfl, _, _, _, B74.cell rfl, _, _, _, B74.cell rfl, ?_⟩⟩; have hal : ∀ dk : Bool, dk = (!im.there || im.sum.broken) -> AlAt w (.agg #[.string im.sum.path, .bool im.sum.broken, .slice pV im.sum.values.length cV, .slice pT im.sum.types.length cT, .bool dk]) (newAl im) := fun dk e => ⟨pT, cT, pV, cV, by subst e; rfl, hT, hV⟩; refine brC_intro (fun ht => ?_) fun ht => ⟨_, B74.cell rfl, ?_⟩
            . exact add_al (st := { st with told := tl }) I74 (hal true (by rw [ht]; rfl)) hout fun w87 I87 T87 => ⟨I87, T87 _ _ _ _ (T52.keep u74)⟩
            . exact add_al (st := { st with told := tl }) I74 (hal im.sum.broken (by rw [ht]; rfl)) hout fun w87 I87 T87 => ⟨I87, T87 _ _ _ _ (T52.keep u74)⟩
          . refine brC_intro (fun ht => ?_) fun ht => ?_
            . have ht : im.there = false := by simpa using ht
              rw [ht]; exact ptrC_some ⟨_, by rw [add_mk]; exact (hB I50.up).cell rfl, new1_c I50 (by omega) fun w94 I94 T94 k94 => ⟨rfl, I94, T94 _ _ _ _ T50, k94 _ hz _ _ B50 (by decide)⟩⟩
            . have ht : im.there = true := by simpa using ht
              rw [ht]; exact ⟨I50, T50, B50⟩
        . rintro bb w97 ⟨rfl, I97, T97⟩ _; refine brC_intro (fun hm => ?_) fun hm => ⟨I97, T97, hm⟩; rw [if_pos hm]; exact ptrC_some ⟨_, by rw [add_mk]; exact (hB I97.up).cell rfl, new1_c I97 (by omega) fun w102 I102 T102 _ => ⟨rfl, I102, T102 _ _ _ _ T97⟩⟩
        . refine drawC_mk fun w103 u103 s103 => ?_; have I103 := I17.keep u103; have T103 := T17.keep u103; obtain ⟨ov, f1, s1', s2', s3', s4', s5'⟩ := I103.sc; obtain ⟨v, hv, hlook⟩ := look_al s2' s3' d.name; obtain ⟨pT, cT, pV, cV, rfl, hT, hV⟩ := hv; refine ⟨fun w' => Upd No w103 w', _, s1'.cell rfl, fun w' u => lds85 ((s1'.upd u id).cell rfl), ptrC_some ⟨_, by rw [add_mk]; exact (hB I103.up).cell rfl, fun w' u => by rw [add_mk]; exact lds_str ((hB (up I103.up u)).cell rfl), ⟨_, ⟨_, _, _, _, _, _, _, _, _, _, rfl, fun w' u => hlook w' (s2'.upd u id), ?_, trivial⟩, fun w' e => by cases e; exact hlook _ s2'⟩⟩⟩; refine newC_mk fun w123 B123 u123 s123 => ⟨u123, al_put B123 _ _ _ _ _ fun w128 B128 u128 s128 => ?_, trivial⟩; have n128 : Upd No w103 w128 := u123.trans u128 fun x hx (e : x = _) => by omega
          exact ⟨rfl, I103.keep n128, T103.keep n128⟩
      . have h1 : ¬ d.kind = 1 := by simpa using h1
        have h2 : d.kind = 2 := by simpa using h2
        have hsN : stepN cl ims st (some d) = if memB d.name st.owns then { st with told := st.told ++ [((d.at_ : Int), 4)] } else { st with owns := st.owns ++ [d.name], types := st.types ++ [d] } := by
          unfold stepN; dsimp only; rw [if_neg h1, if_pos h2]
        rw [hsN]; clear hsN; refine drawC_mk fun w129 u129 s129 => ?_; have I129 := I17.keep u129; have T129 := T17.keep u129; obtain ⟨ov, f1, s1', s2', s3', s4', s5'⟩ := I129.sc
        have hlook : (Instr.lookup 86 (.map (some (w.heap.size + 2))) (.string d.name) true).run Tryz.prog w129 = .ok (.tuple #[.pointer none, .bool (memB d.name st.owns)]) w129 := by
          by_cases hm : d.name ∈ st.owns
          . rw [run_lookup_in mapOwn undStr (isKeyS d.name) I129.owns (mem_strsV.2 hm) true, memB_iff.2 hm]; rfl
          . rw [run_lookup_out mapOwn undStr (isKeyS d.name) I129.owns (fun h => hm (mem_strsV.1 h)) (zeroOwn w129) true, memB_not hm]; rfl
        refine ⟨_, s1'.cell rfl, ptrC_some ⟨_, by rw [add_mk]; exact (hB I129.up).cell rfl, ⟨_, ⟨_, _, rfl, brC_intro (fun hm => ?_) fun hm => drawC_mk fun w140 u140 s140 => ?_⟩, fun w' e => by cases e; exact hlook⟩⟩⟩
        . rw [if_pos hm]; exact ptrC_some ⟨_, by rw [add_mk]; exact (hB I129.up).cell rfl, new1_c I129 (by omega) fun w102 I102 T102 _ => ⟨rfl, I102, T102 _ _ _ _ T129⟩⟩
        . rw [if_neg (by rw [hm]; decide)]; have I140 := I129.keep u140; refine ⟨_, (s1'.upd u140 id).cell rfl, ptrC_some ⟨_, by rw [add_mk]; exact (hB I140.up).cell rfl, add_own I140 (fun h => by rw [memB_iff.2 h] at hm; cases hm) fun w145 I145 T145 => ?_⟩⟩; exact add_type I145 (T145 _ _ _ _ (T129.keep u140)) (by omega) hDo fun p' n' c' w149 I149 T149 => ⟨_, _, _, rfl, I149.types, T149⟩
      . have h1 : ¬ d.kind = 1 := by simpa using h1
        have h2 : ¬ d.kind = 2 := by simpa using h2
        have hsN : stepN cl ims st (some d) = st := by unfold stepN; dsimp only; rw [if_neg h1, if_neg h2]
        rw [hsN]; exact ⟨I17, T17⟩
  . have hi : i = ds.length := by have := of_decide_eq_false hge; omega
    subst hi; rw [List.take_length] at I17 T17 hoki; have hnew : newF path cl ims ds = (fN ds).types.foldl step2 (firstF path (fN ds)) := by rw [<- hst]; rfl
    rw [hnew] at hk; clear hnew; generalize fN ds = st at *; have g1 := hoki.told; have g3 := hoki.types; obtain ⟨vsT, hOT, hvT, hdT⟩ := T17.ex; have hnT := hOT.len
    have inv : ∀ k, k <= st.types.length -> let s := (st.types.take k).foldl step2 (firstF path st)
        s.1.path = path /\ s.1.als = st.als /\ s.1.owns.map (·.1) = st.owns /\ s.2.length <= 100 + k * 1000000 := by
      intro k
      induction k with
      | zero => intro _; exact ⟨rfl, rfl, by simp [firstF, Function.comp_def], by show st.told.length <= _; omega⟩
      | succ k ih =>
        intro hk'; obtain ⟨a1, a2, a3, a4⟩ := ih (by omega); rw [List.take_succ_eq_append_getElem (by omega), List.foldl_append]; refine ⟨a1, a2, ?_, ?_⟩
        . show ((setOwn _ _ _).map (·.1)) = _; rw [setOwn_keys]; exact a3
        . show ((_ : List Dg) ++ _).length <= _; rw [List.length_append]; have := res_told ((st.types.take k).foldl step2 (firstF path st)).1 st.types[k].t; have := (hoki.tys st.types[k] (List.getElem_mem (by omega))).1; omega
    have okS : ∀ k, k <= st.types.length -> ScOk ((st.types.take k).foldl step2 (firstF path st)).1 := fun k hk' => by
      obtain ⟨a1, a2, a3, a4⟩ := inv k hk'; refine ⟨by rw [a1]; exact hpath, by rw [a2]; exact hoki.als, fun x hx => ?_, by rw [a2]; have := hoki.alsN; omega⟩; have : x.1 ∈ ((st.types.take k).foldl step2 (firstF path st)).1.owns.map (·.1) := List.mem_map.2 ⟨x, hx, rfl⟩; rw [a3] at this; exact hoki.owns _ this
    refine ⟨fun m w' => ∃ k : Nat, m = k /\ k <= st.types.length /\ NJ w ((st.types.take k).foldl step2 (firstF path st)) w' /\ NT w st.types p n c w', fun m _ => st.types.length - m.toNat, ⟨0, rfl, Nat.zero_le _, I17.second hoki.ord, T17⟩, ?_⟩; rintro m w156 ⟨k, rfl, hkl, J156, T156⟩ _; obtain ⟨a1, a2, a3, a4⟩ := inv k hkl; refine brC_intro (fun hlt => ?_) fun hge => ?_
    . have hkl : k < st.types.length := by have := of_decide_eq_true hlt; omega
      obtain ⟨vs2, hO2, hv2, hd2⟩ := T156.ex; have hD2 := hd2 k vs2[k] st.types[k] (List.getElem?_eq_getElem (by omega)) (List.getElem?_eq_getElem hkl); obtain ⟨q, hq⟩ : ∃ q, vs2[k] = .pointer q := by obtain ⟨b, _, h, _⟩ := hD2; exact ⟨_, h⟩
      rw [hq] at hD2; obtain ⟨g, o, rfl, hc2⟩ := hO2.row.get (j := k) (by omega); rw [List.getElem?_eq_getElem (by omega), hq] at hc2; refine ⟨by omega, by omega, ptrC_some ⟨q, by rw [Int.toNat_natCast, add_mk, Nat.mul_one]; exact hc2, ?_⟩⟩; have hty := hoki.tys st.types[k] (List.getElem_mem hkl); refine second_c J156 (okS k (by omega)) T156 hD2 hty.1 (by rw [a3]; exact hty.2) (by omega) fun w182 J182 T182 => ?_; rw [wrap_succ (by omega)]; refine ⟨⟨k + 1, rfl, hkl, ?_, T182⟩, ?_⟩
      . rw [List.take_succ_eq_append_getElem hkl, List.foldl_append]; exact J182
      . simp only [Int.toNat_natCast]; have : ((k : Int) + 1).toNat = k + 1 := by omega
        omega
    . have hkl : k = st.types.length := by have := of_decide_eq_false hge; omega
      subst hkl; rw [List.take_length] at J156 a1 a2 a3 a4; have okF := okS _ (Nat.le_refl _); rw [List.take_length] at okF; refine drawC_mk fun w183 u183 s183 => ?_; have J := J156.keep u183; obtain ⟨tv, t1, t2, t3⟩ := J.told; obtain ⟨ov, f1, f2, i1, _, _⟩ := J.sc; obtain ⟨pt, nt, ct, rfl, _, _, _⟩ := t2.shape; rw [a1] at t2; exact ⟨pt, nt, ct, t1.cell rfl, hk _ _ w183 ⟨_, _, _, _, _, i1⟩ t2 (fun b hb => by have := t3 b hb; omega) okF J.up⟩
end
def isB (path name : ByteArray) (x : Ex) : Bool := decide (path ++ dotB ++ x.1 = name)
def bodyA (name : ByteArray) (x : ByteArray × Al) : Option T := if x.2.dark then none else (x.2.types.find? (isB x.2.path name)).map (·.2)
def bodyF (S : Sc) (name : ByteArray) : Option T := match S.owns.find? (isB S.path name) with
  | some x => some x.2
  | none => S.als.findSome? (bodyA name)
theorem inv_body {s : ByteArray} {q : Option Addr} {a b : Nat} {w : World} {K : KV} (h : callC Tryz.prog 36 #[.agg #[.string s, .pointer q], .pointer (some ⟨a, 0, none⟩), .pointer (some ⟨b, 0, none⟩)] w K) :
    invC Tryz.prog (.func (.func 36) #[] #[.pointer (some ⟨a, 0, none⟩), .pointer (some ⟨b, 0, none⟩)]) #[.agg #[.string s, .pointer q]] w K := of_eq h (by kernel_rfl)
theorem nodup_find {α : Type} {l : List (ByteArray × α)} (h : (keysV l).Nodup) {i : Nat} (hi : i < l.length) : (l.find? fun x => x.1 = l[i].1) = some l[i] := by
  induction l generalizing i with
  | nil => exact absurd hi (Nat.not_lt_zero i)
  | cons a l ih =>
    have hn : (Value.string a.1 :: keysV l).Nodup := h; rw [List.nodup_cons] at hn
    cases i with
    | zero => simp
    | succ i =>
      have hi' : i < l.length := by simpa using hi
      have : a.1 ≠ l[i].1 := fun e => hn.1 (mem_keysV.2 ⟨l[i], List.getElem_mem hi', e.symm⟩); simp only [List.getElem_cons_succ]; rw [List.find?_cons_of_neg (by simpa using this)]; exact ih hn.2 hi'
theorem app_inj {a x y : ByteArray} (h : a ++ x = a ++ y) : x = y := by
  have := congrArg txt h; apply txt_inj; cases a; cases x; cases y; simpa [txt] using this
theorem Body_c {w : World} {sc : Nat} {S : Sc} (hS : ScAt w sc S) (ok : ScOk S) {name : ByteArray} {K : KV}
    (hk : ∀ q w', At w' (.pointer q) ((bodyF S name).getD .nil) -> Upd No w w' -> K (.tuple #[.pointer q, .bool (bodyF S name).isSome]) w') :
    callC Tryz.prog 21 #[.pointer (some ⟨sc, 0, none⟩), .string name] w K := by
  obtain ⟨m1, m2, ov, f1, f2, h⟩ := hS; unfold bodyF at hk; have okp := ok.path; refine Body_text _ _ _ _ (newC_mk fun w1 B1 u1 s1 => brC_ff rfl (ptrC_some ⟨_, by rw [add_mk]; exact (h.blk.upd u1 id).cell rfl, ?_⟩)); have h1 := h.keep u1; refine range_mk mapOwn h1.owns fun w5 R5 u5 s5 => ?_; have hz1 : w1.heap.size = w.heap.size + 1 := s1
  refine ⟨fun w' => ∃ vis, RangeF .string w' m2 (keysV S.owns) f2 w1.heap.size vis /\ vis.Nodup /\ (∀ n, Value.string n ∈ vis -> S.path ++ dotB ++ n ≠ name) /\ Upd No w w' /\ Blk w' w.heap.size #[.string name] 9, fun w' => S.owns.length - seenOf w' w1.heap.size,
    ⟨[], R5, List.nodup_nil, fun n hn => (by cases hn), up u1 u5, B1.upd u5 id⟩, ?_⟩
  rintro w8 ⟨vis, R8, nd8, hv8, U8, N8⟩ _; have h8 := h.keep U8; refine next_mk R8 0 (fun hall => ?_) fun w11 k hkin hkout R11 u11 s11 => ?_
  . left
    have hown : S.owns.find? (isB S.path name) = none := List.find?_eq_none.2 fun x hx => by
      have := hv8 x.1 (hall _ (mem_keysV.2 ⟨x, hx, rfl⟩)); simpa [isB] using this
    rw [hown] at hk; obtain ⟨po, no, co, rfl, hno, _, _⟩ := h.ord.shape; have hno : no = S.als.length := by simpa [keysV] using hno.symm
    subst hno; have hal := ok.len; refine ⟨rfl, ptrC_some ⟨_, _, _, by rw [add_mk]; exact h8.blk.cell rfl, ?_⟩⟩; refine ⟨fun m w' => ∃ i : Nat, m = i /\ i <= S.als.length /\ (S.als.take i).findSome? (bodyA name) = none /\ Upd No w w' /\ Blk w' w.heap.size #[.string name] 9, fun m _ => S.als.length - m.toNat, ⟨0, rfl, Nat.zero_le _, rfl, U8, N8⟩, ?_⟩; rintro m w19 ⟨i, rfl, hi, hpre, U19, N19⟩ _; have h19 := h.keep U19; refine brC_intro (fun hlt => ?_) fun hge => ?_
    . have hi : i < S.als.length := by have := of_decide_eq_true hlt; omega
      obtain ⟨g, o, rfl, hc⟩ := h19.ord.get (j := i) (by simpa [keysV] using hi); have hkey : (keysV S.als)[i]? = some (.string S.als[i].1) := by simp [keysV, List.getElem?_eq_getElem hi]
      rw [hkey] at hc; refine ⟨fun w' => bodyA name S.als[i] = none /\ Upd No w w' /\ Blk w' w.heap.size #[.string name] 9, ?_, by omega, by omega, ptrC_some ⟨_, by rw [Int.toNat_natCast, add_mk, Nat.mul_one]; exact hc, ptrC_some ⟨_, by rw [add_mk]; exact h19.blk.cell rfl, ?_⟩⟩⟩
      . rintro w22 ⟨hn, U22, N22⟩ _; rw [wrap_succ (by omega)]; refine ⟨⟨i + 1, rfl, hi, ?_, U22, N22⟩, by dsimp only; omega⟩; rw [List.take_succ_eq_append_getElem hi, List.findSome?_append, hpre]; simp [hn]
      obtain ⟨v, hl, hv⟩ := h19.look S.als[i].1; have halF : alF S S.als[i].1 = some S.als[i].2 := by unfold alF; rw [nodup_find h.als.nodup hi]; rfl
      rw [halF] at hv; obtain ⟨pT, cT, pV, cV, rfl, hT, hV⟩ := hv; have okA := ok.als S.als[i] (List.getElem_mem hi)
      have hfull : S.als.findSome? (bodyA name) = (bodyA name S.als[i]).or ((S.als.drop (i + 1)).findSome? (bodyA name)) := by
        have e : S.als = S.als.take i ++ S.als[i] :: S.als.drop (i + 1) := by rw [<- List.drop_eq_getElem_cons hi, List.take_append_drop]
        conv => lhs; rw [e]
        rw [List.findSome?_append, hpre, List.findSome?_cons]; cases bodyA name S.als[i] <;> rfl
      generalize S.als[i] = nA at *; dsimp only [Option.getD_some] at hT hV hl; refine ⟨_, ⟨_, _, _, _, _, _, _, _, _, rfl, newC_mk fun w39 B39 u39 s39 => al_put B39 _ _ _ _ _ fun w44 B44 u44 s44 => ?_⟩, fun w' e => by cases e; exact hl false⟩; have n44 : Upd No w19 w44 := u39.trans u44 fun x hx (e : x = _) => by omega
      have U44 := up U19 n44; have N44 := N19.upd n44 id; refine ⟨_, _, _, B44.cell rfl, ?_⟩
      have hf : FnE w44 (.func (.func 36) #[] #[.pointer (some ⟨w19.heap.size, 0, none⟩), .pointer (some ⟨w.heap.size, 0, none⟩)]) (isB nA.2.path name) nA.2.types := fun x q w2 K' hx ha u hk' => by
        have e1 := okA.path; have e2 := okA.names x hx; refine inv_body (Body1_text _ _ _ _ _ _ _ _ (newC_mk fun w3 B3 u3 _ => ⟨_, ((B44.upd u id).upd u3 id).cell rfl, by omega, _, B3.cell rfl, ?_, _, ((N44.upd u id).upd u3 id).cell rfl, ?_⟩))
        . show (((nA.2.path ++ dotB).size + x.1.size : Nat) : Int) <= _; rw [ByteArray.size_append, dotB_size]; omega
        . rw [beq_bytes]; exact hk' w3 u3
      refine firstE_c (hT.keep n44) rfl okA.types hf (fun x q w49 hx ha u49 => ⟨_, _, _, rfl, newC_mk fun w54 B54 u54 s54 => ?_⟩) fun w49 hx u49 => ⟨_, _, _, rfl, newC_mk fun w54 B54 u54 s54 => ?_⟩
      . refine stC_mk B54 (by simp) fun w55 B55 u55 _ => stC_mk B55 (by simp) fun w56 B56 u56 _ => ?_; have n56 : Upd No w49 w56 := (u54.trans u55 fun x hx (e : x = _) => by omega).trans u56 fun x hx (e : x = _) => by omega
        have U56 := up U44 (up u49 n56); refine ⟨fun b w' => b = (!nA.2.dark) /\ w' = w56, ?_, brC_tt rfl ⟨_, (B44.upd (up u49 n56) id).cell rfl, rfl, rfl⟩⟩; rintro b w59 ⟨rfl, rfl⟩ _; refine brC_intro (fun hd => ⟨q, B56.cell rfl, ?_⟩) fun hd => ⟨?_, U56, N44.upd (up u49 n56) id⟩
        . have hd : nA.2.dark = false := by simpa using hd
          have e : bodyA name nA = some x.2 := by unfold bodyA; rw [hd, hx]; rfl
          rw [hfull, e] at hk; exact hk q w59 (ha.keep n56) U56
        . have hd : nA.2.dark = true := by simpa using hd
          unfold bodyA; rw [hd]; rfl
      . refine stC_mk B54 (by simp) fun w55 B55 u55 _ => stC_mk B55 (by simp) fun w56 B56 u56 _ => ?_; have n56 : Upd No w49 w56 := (u54.trans u55 fun x hx (e : x = _) => by omega).trans u56 fun x hx (e : x = _) => by omega
        refine ⟨fun b w' => b = false /\ w' = w56, ?_, brC_ff rfl ⟨rfl, rfl⟩⟩; rintro b w59 ⟨rfl, rfl⟩ _; refine brC_ff rfl ⟨?_, up U44 (up u49 n56), N44.upd (up u49 n56) id⟩; unfold bodyA; rw [hx]; simp
    . have hi : i = S.als.length := by have := of_decide_eq_false hge; omega
      subst hi; rw [List.take_length] at hpre; rw [hpre] at hk; exact hk none w19 at_nil U19
  . right; obtain ⟨x, hx, hxk⟩ := List.mem_map.1 hkin; subst hxk; obtain ⟨q, hq⟩ := at_ptr (h.own x hx); refine ⟨_, _, rfl, entry_mk R11 ⟨_, q, by rw [hq], drawC_mk fun w69 u69 s69 => ?_⟩⟩; have hr : ∀ y, y < w.heap.size + 1 -> ¬ y = w1.heap.size := fun y hy e => by omega
    have U69 : Upd No w w69 := up (U8.trans u11 fun y hy (e : y = _) => by omega) u69; have h69 := h.keep U69; have N69 := (N8.upd u11 (by omega)).upd u69 id; have e2 := ok.owns x hx; refine ptrC_some ⟨_, h69.blk.cell rfl, by omega, ?_, _, N69.cell rfl, ?_⟩
    . show (((S.path ++ dotB).size + x.1.size : Nat) : Int) <= _; rw [ByteArray.size_append, dotB_size]; omega
    have hfind : ∀ b : Bool, isB S.path name x = b -> (b = true -> S.owns.find? (isB S.path name) = some x) := fun b hb ht => by
      subst ht; have hn : S.path ++ dotB ++ x.1 = name := by simpa [isB] using hb
      obtain ⟨i, hi, rfl⟩ := List.getElem_of_mem hx; rw [<- nodup_find h.owns.nodup hi]
      congr 1
      funext y
      unfold isB; have : (S.path ++ dotB ++ y.1 = name) = (y.1 = S.owns[i].1) := propext ⟨fun e => app_inj (e.trans hn.symm), fun e => by rw [e]; exact hn⟩; exact decide_eq_decide.2 (this ▸ Iff.rfl)
    rw [beq_bytes]; refine brC_intro (fun he => ?_) fun he => ?_
    . have := hfind true he rfl; rw [this] at hk; have hat := h69.own x hx; rw [hq] at hat; exact hk q w69 hat U69
    . have hne : S.path ++ dotB ++ x.1 ≠ name := of_decide_eq_false he; have R69 := R11.upd u69 id id; refine ⟨⟨_, R69, List.nodup_cons.2 ⟨hkout, nd8⟩, fun n hn => ?_, U69, N69⟩, ?_⟩
      . rcases List.mem_cons.1 hn with e | hn
        . injection e with e; subst e; exact hne
        . exact hv8 n hn
      . dsimp only; rw [R69.seen, R8.seen]; have hsub : (Value.string x.1 :: vis).length <= (keysV S.owns).length := List.Nodup.length_le_of_subset (List.nodup_cons.2 ⟨hkout, nd8⟩) fun y hy => R69.vis_sub y hy; simp [keysV] at hsub; simp only [List.length_cons]; omega
def typeX : ByteArray := ByteArray.mk #[116, 121, 112, 101, 32, 88, 32, 61, 32]
def bL : ByteArray := ByteArray.mk #[108]
def bM : ByteArray := ByteArray.mk #[109]
def bV : ByteArray := ByteArray.mk #[86]
def bF : ByteArray := ByteArray.mk #[102]
def lV : T := .mk 6 (ByteArray.mk #[108, 46, 86]) [] [] .nil
def alL : Al := ⟨bL, false, [(bV, tk 4)], [(bF, .mk 8 .empty [] [] lV)], false⟩
def libF : List Im := [⟨bL, true, alL⟩]
theorem libF_ok : ∀ m ∈ libF, AlOk m.sum := by
  intro m hm; obtain rfl : m = _ := by simpa [libF] using hm
  exact ⟨by decide, by decide, by decide, fun x hx => by
    obtain rfl : x = (bV, tk 4) := (by simpa [alL] using hx); decide⟩
section
variable {w : World} {K : KV}
theorem library_c (hk : ∀ k p q w', Blk w' k #[.string bL, .bool true, .string bL, .bool false, .slice q 1 1, .slice p 1 1] 48 -> ExAt w' p alL.types -> ExAt w' q alL.values -> w.heap.size <= k -> (∀ a, p = some a -> a.block ≠ k) -> (∀ a, q = some a -> a.block ≠ k) -> Upd No w w' -> K (.slice (some ⟨k, 0, none⟩) 1 1) w') :
    callC Tryz.prog 17 #[] w K := by
  refine library_text _ _ (newC_mk fun w1 B1 u1 s1 => newC_mk fun w3 B3 u3 s3 => newC_mk fun w5 B5 u5 s5 => newC_mk fun w7 B7 u7 s7 => newC_mk fun w9 B9 u9 s9 => newC_mk fun w11 B11 u11 s11 => ?_); refine hk _ _ _ w11 B11 (fun i hi => ?_) (fun i hi => ?_) (by omega) (fun a e => ?_) (fun a e => ?_) (up (up (up (up (up u1 u3) u5) u7) u9) u11)
  . obtain rfl : i = 0 := by simp [alL] at hi; omega
    have b5 := ((B5.upd u7 id).upd u9 id).upd u11 id; exact ⟨_, _, rfl, b5.cell rfl, by rw [add_mk, add_mk]; exact b5.cell rfl, at_of ((((at_leaf B3 (Nat.le_refl _)).keep u5).keep u7 |>.keep u9).keep u11)⟩
  . obtain rfl : i = 0 := by simp [alL] at hi; omega
    have b9 := B9.upd u11 id; refine ⟨_, _, rfl, b9.cell rfl, by rw [add_mk, add_mk]; exact b9.cell rfl, ?_⟩; show At w11 _ (.mk 8 .empty [] [] lV); have b7 := (B7.upd u9 id).upd u11 id; unfold At TyAt; exact ⟨_, _, _, _, [], rfl, Nat.zero_le _, b7, RowAt.nil _ _ _, fun b hb => (no_in b hb).elim, RowAt.nil _ _ _, fun b hb => (no_in b hb).elim, trivial, at_of (((((at_leaf B1 (Nat.le_refl _)).keep u3).keep u5).keep u7 |>.keep u9).keep u11)⟩
  . cases e; dsimp only; omega
  . cases e; dsimp only; omega
def writtenF (s : ByteArray) : Option Wt := match parseA (typeX ++ s) with
  | some [d] => some d.t
  | _ => none
theorem written_c (g : Gl w) {s : ByteArray} (hs : s.size <= 90000) {t : Wt} (ht : writtenF s = some t) (hk : ∀ q w', XAt idx (From 0) w' (.pointer q) t -> Upd No w w' -> K (.pointer q) w') :
    callC Tryz.prog 9 #[.string s] w K := by
  unfold writtenF at ht; split at ht
  . rename_i d hd; cases ht; refine written_text _ _ _ ⟨by omega, callC_ofX (Parse_spec g (s := typeX ++ s) (by rw [ByteArray.size_append]; show 9 + s.size <= _; omega) hd fun w1 v vs row own hds u1 => ?_)⟩; obtain ⟨p, n, c, rfl, hn, _, _⟩ := row.shape; have hl := hds.len
    match vs, hl with
    | [v1], _ =>
      simp at hn; subst hn; have hd1 : DcAt (From w.heap.size) w1 v1 d := hds.1; obtain ⟨b, tvv, rfl, _, hB, hX⟩ := hd1; obtain ⟨q, rfl⟩ := x_ptr hX; obtain ⟨g0, o0, rfl, hc⟩ := row.get (j := 0) (by simp); refine ⟨_, _, _, _, rfl, fun w' => w' = w1, ?_, fun bb w' => bb = false /\ w' = w1, ?_, ?_⟩
      . rintro w' rfl _; exact ⟨by omega, by omega, ptrC_some ⟨_, hc, ptrC_some ⟨_, by rw [add_mk]; exact hB.cell rfl, hk _ _ (hX.mono fun b _ _ => Nat.zero_le b) u1⟩⟩⟩
      . rintro bb w' ⟨rfl, rfl⟩ _; exact brC_ff rfl rfl
      . exact ⟨_, ⟨_, rfl, brC_ff rfl ⟨rfl, rfl⟩⟩, fun w' e => by cases e; exact neq_nil _ _⟩
  . cases ht
theorem imAt_lib {k : Nat} {p q : Option Addr} {th br : Bool} (B : Blk w k #[.string bL, .bool th, .string bL, .bool br, .slice q 1 1, .slice p 1 1] 48) (hp : ExAt w p alL.types) (hq : ExAt w q alL.values) : ImAt w (some ⟨k, 0, none⟩) [⟨bL, th, { alL with broken := br }⟩] := fun i hi => by
  obtain rfl : i = 0 := by simpa using hi
  refine ⟨_, p, 1, q, 1, rfl, ?_, ?_, ?_, ?_, ?_, ?_, hp, hq⟩
  all_goals (simp only [Nat.zero_mul, addr_add_zero, add_mk, Nat.zero_add]; exact B.cell rfl)
theorem scope_c (g : Gl w) {s : ByteArray} (hs : s.size <= 90000) {ds : List Dc} (hd : parseA s = some ds) (ok : DsOk (ds.map some)) {cl : ByteArray -> Option ByteArray} (hcl : ∀ d ∈ ds, d.kind = 1 -> CleanOk d.text (cl d.text))
    (hk : ∀ q p n c w', ScAt w' q (newF bM cl libF (ds.map some)).1 -> RowAt w' 35 3 (.slice p n c) (dgCells bM (newF bM cl libF (ds.map some)).2) -> ScOk (newF bM cl libF (ds.map some)).1 -> Upd No w w' -> K (.tuple #[.pointer (some ⟨q, 0, none⟩), .slice p n c, .bool true]) w') :
    callC Tryz.prog 8 #[.string s] w K := by
  refine scope_text _ _ _ (callC_ofX (Parse_spec g (by omega) hd fun w1 v vs row own hds u1 => ?_)); obtain ⟨p, n, c, rfl, hn, _, _⟩ := row.shape; refine ⟨_, _, _, _, rfl, ⟨_, ⟨_, rfl, brC_ff rfl ?_⟩, fun w' e => by cases e; exact neq_nil _ _⟩⟩; refine library_c fun k pp q w9 B9 hT hV hkk _ _ u9 => ⟨_, _, _, rfl, ?_⟩; have hl := hds.len; refine New_c (ds := ds.map some) (ims := libF) (cl := cl) (row.upd u9 fun _ _ h => h) (by simpa using hl) (fun i v d h1 h2 => ?_) ok (imAt_lib B9 hT hV) rfl (by decide) libF_ok (fun d hdm h1 => ?_) (by decide) fun q2 v2 w14 hS hrow _ okS u14 => ?_
  . rw [List.getElem?_map] at h2
    cases e : ds[i]? with
    | none => rw [e] at h2; cases h2
    | some d' =>
      rw [e] at h2; cases h2; exact (hds.get h1 e).upd u9 (fun _ _ h => h) |>.mono fun b _ _ => Nat.zero_le b
  . obtain ⟨d', hd', e⟩ := List.mem_map.1 hdm; cases e; exact hcl d hd' h1
  . obtain ⟨p2, n2, c2, rfl, _, _, _⟩ := hrow.shape; exact ⟨_, _, _, _, rfl, hk _ _ _ _ w14 hS hrow okS (up (up u1 u9) u14)⟩
def meansF (S : Sc) (t : Wt) (want : ByteArray) (code : Int) : Bool :=
  decide (bs (text (resF S t).1) = want) && (if code = 0 then (resF S t).2.length == 0 else match (resF S t).2 with | [d] => d.2 == code | _ => false)
theorem means_c (g : Gl w) {sc : Nat} {S : Sc} (hS : ScAt w sc S) (ok : ScOk S) {s : ByteArray} (hs : s.size <= 90000) {t : Wt} (ht : writtenF s = some t) (hx : xsz t <= 1000000) {want : ByteArray} {code : Int}
    (hk : ∀ w', Upd No w w' -> K (.bool (meansF S t want code)) w') :
    callC Tryz.prog 23 #[.pointer (some ⟨sc, 0, none⟩), .string s, .string want, .int .i64 code] w K := by
  refine means_text _ _ _ _ _ _ (written_c g hs ht fun q w1 hX u1 => ⟨_, rfl, Resolve_c (hS.keep u1) ok hX hx fun q2 v w4 ht4 row own u4 => ?_⟩); obtain ⟨p, n, c, rfl, hn, _, _⟩ := row.shape; rw [dgCells_len] at hn; unfold meansF at hk; refine ⟨_, _, _, _, rfl, brC_intro (fun hc => ?_) fun hc => ?_⟩
  . have hc : code = 0 := by simpa using hc
    rw [if_pos hc] at hk; refine c_text ht4 fun w10 u10 => ⟨_, rfl, ?_⟩; rw [beq_bytes]; have := hk w10 (up (up u1 u4) u10); refine brC_intro (fun h => ?_) fun h => ?_
    . rw [h] at this
      have e : (((n : Nat) : Int) == 0) = ((resF S t).2.length == 0) := by
        obtain rfl : n = (resF S t).2.length := by omega
        cases (resF S t).2 <;> simp; omega
      rw [e]; exact this
    . rw [h] at this; exact this
  . have hc : code ≠ 0 := by simpa using hc
    rw [if_neg hc] at hk; refine c_text ht4 fun w10 u10 => ⟨_, rfl, ?_⟩; rw [beq_bytes]; have := hk w10 (up (up u1 u4) u10); refine brC_intro (fun h => ?_) fun h => ?_
    . rw [h] at this; have row10 := row.upd u10 fun _ _ h => h; obtain rfl : n = (resF S t).2.length := by omega
      generalize (resF S t).2 = l at *
      match l with
      | [] => exact brC_ff rfl this
      | [d] =>
        obtain ⟨g0, o0, rfl, hcell⟩ := row10.get (j := 2) (by simp [dgCells]); exact brC_tt rfl ⟨by omega, by simp, ptrC_some ⟨_, by rw [add_mk]; exact hcell, this⟩⟩
      | d :: e :: r => 
        refine brC_ff ?_ this; simp; omega
    . rw [h] at this; exact this
end
theorem wrap_nat {n : Nat} (h : n < 9223372036854775807) : IntKind.wrap .i64 (n : Int) = (n : Int) := by
  cases n with
  | zero => rfl
  | succ n => exact wrap_succ (by omega)
theorem row_store {w : World} {e : TypeId} {size g o n c : Nat} {xs : List Value} (h : RowAt w e size (.slice (some ⟨g, o, none⟩) n c) xs) {j : Nat} (hj : j < xs.length) (v : Value) {K : WP}
    (hk : ∀ w', RowAt w' e size (.slice (some ⟨g, o, none⟩) n c) (xs.set j v) -> Upd (· = g) w w' -> w'.heap.size = w.heap.size -> K w') : stC w ⟨g, o + j, none⟩ v K := by
  obtain ⟨m, hl, ⟨e0, rfl⟩ | ⟨g', o', cap, cur, e0, hg, h1, h2, h3, h4⟩⟩ := h
  . cases e0
  . cases e0
    have hlt : o + j < cur.size := by
      have : n * size <= c * size := Nat.mul_le_mul_right _ h1; omega
    refine stC_mk hg hlt fun w' B u s => hk w' ⟨n, by rw [List.length_set]; exact hl, .inr ⟨g, o, c, _, rfl, B, h1, h2, by simpa using h3, ?_⟩⟩ u s; rw [Array.toList_setIfInBounds, List.drop_set, if_neg (by omega), show o + j - o = j by omega, List.take_set, h4]
def exC (f : Value -> Value) (l : List Ex) : List Value := l.flatMap fun x => [.string x.1, f (.string x.1)]
theorem exC_len (f : Value -> Value) (l : List Ex) : (exC f l).length = l.length * 2 := by
  induction l with
  | nil => rfl
  | cons x l ih => simp only [exC, List.flatMap_cons, List.length_append, List.length_cons, List.length_nil] at *; omega
theorem exC_app (f : Value -> Value) (l m : List Ex) : exC f (l ++ m) = exC f l ++ exC f m := by simp [exC]
theorem exC_get (f : Value -> Value) {l : List Ex} {i : Nat} (hi : i < l.length) : (exC f l)[i * 2]? = some (.string l[i].1) /\ (exC f l)[i * 2 + 1]? = some (f (.string l[i].1)) := by
  induction l generalizing i with
  | nil => exact absurd hi (Nat.not_lt_zero i)
  | cons x l ih =>
    have e : exC f (x :: l) = .string x.1 :: f (.string x.1) :: exC f l := by simp [exC]
    rw [e]
    cases i with
    | zero => exact ⟨rfl, rfl⟩
    | succ i =>
      have := ih (i := i) (by simpa using hi); rw [show (i + 1) * 2 = i * 2 + 2 by omega]; simpa using this
def lessN (x y : ByteArray) : Bool := Op.bytesLess x.toList y.toList
def sort2 : List Ex -> List Ex
  | [a, b] => if lessN b.1 a.1 then [b, a] else [a, b]
  | l => l
theorem bits_c {w : World} {x : Int} (h0 : 0 <= x) (h1 : x < 256) {K : KV} (hk : ∀ n, K (.int .i64 n) w) : callC Tryz.prog 77 #[.int .u64 x] w K := by
  refine bitsLen_text _ _ _ (len64_text _ _ _ ⟨fun a b w' => a = x /\ b = 0 /\ w' = w, ?_, brC_ff (decide_eq_false (by omega)) ⟨rfl, rfl, rfl⟩⟩); rintro a b w3 ⟨rfl, rfl, rfl⟩ _; refine ⟨fun c d w' => c = a /\ d = 0 /\ w' = w3, ?_, brC_ff (decide_eq_false (by omega)) ⟨rfl, rfl, rfl⟩⟩; rintro c d w8 ⟨rfl, rfl, rfl⟩ _; refine ⟨fun e f w' => e = c /\ f = 0 /\ w' = w8, ?_, brC_ff (decide_eq_false (by omega)) ⟨rfl, rfl, rfl⟩⟩; rintro e f w13 ⟨rfl, rfl, rfl⟩ _
  have hw : IntKind.wrap .u8 e = e := by
    have h : (e % 256 : Int) = e := Int.emod_eq_of_lt h0 h1; simpa [IntKind.wrap, IntKind.signed, IntKind.bits] using h
  rw [hw]; exact ⟨h0, by omega, _, rfl, hk _⟩
theorem lessB_ne (x : ByteArray) : (!ByteArray.toList x == ByteArray.toList x) = false := by rw [beq_self_eq_true]; rfl
theorem compare_c {x y : ByteArray} (hne : x ≠ y) {w : World} {K : KV} (hk : K (.int .i64 (if lessN x y then -1 else 1)) w) : callC Tryz.prog 39 #[.string x, .string y] w K := by
  refine cmpS_text _ _ _ _ (isNaNS_text _ _ _ ⟨_, rfl, isNaNS_text _ _ _ ⟨_, rfl, brC_ff (lessB_ne _) (brC_ff (lessB_ne _) ?_)⟩⟩); have hb : (x.toList == y.toList) = false := by rw [beq_bytes]; exact decide_eq_false hne
  unfold lessN at hk; refine brC_intro (fun h => by rw [if_pos h] at hk; exact hk) fun h => ?_; rw [if_neg (by rw [h]; decide)] at hk; exact brC_tt (by rw [h, hb]; rfl) hk
theorem inv_types1 {s t : ByteArray} {q r : Option Addr} {w : World} {K : KV} (h : callC Tryz.prog 38 #[.agg #[.string s, .pointer q], .agg #[.string t, .pointer r]] w K) :
    invC Tryz.prog (.func (.func 38) #[] #[]) #[.agg #[.string s, .pointer q], .agg #[.string t, .pointer r]] w K := of_eq h (by kernel_rfl)
theorem lds68 {w : World} {a : Addr} {s : ByteArray} {p : Option Addr} (h : w.cell? a = some (.string s)) (h2 : w.cell? (Addr.add a 1) = some (.pointer p)) : Lds Tryz.prog 68 w a (.agg #[.string s, .pointer p]) := by
  have key : (∃ s', w.cell? a = some (.string s') /\ ∃ p', w.cell? (Addr.add a 1) = some (.pointer p') /\ .agg #[.string s', .pointer p'] = Value.agg #[.string s, .pointer p]) = ldVC Tryz.prog 68 w a (fun v => v = .agg #[.string s, .pointer p]) := by kernel_rfl
  obtain ⟨v, rfl, hr⟩ := semR_out (ldVC_sound (of_eq ⟨_, h, _, h2, rfl⟩ key)); exact hr w rfl
theorem ins_c {w : World} {p : Option Addr} {n c : Nat} {l : List Ex} {f : Value -> Value} (h : RowAt w 68 2 (.slice p n c) (exC f l)) (hp : ∀ x ∈ l, ∃ q, f (.string x.1) = .pointer q) (hl : l.length <= 2) (hne : ∀ a b, l = [a, b] -> a.1 ≠ b.1) (hn : n = l.length) {K : KV}
    (hk : ∀ w', RowAt w' 68 2 (.slice p n c) (exC f (sort2 l)) -> Upd (InRow (.slice p n c)) w w' \/ Upd No w w' -> K (.tuple #[]) w') :
    callC Tryz.prog 119 #[.slice p n c, .int .i64 0, .int .i64 (n : Int), .func (.func 38) #[] #[]] w K := by
  match l, hl, hn with
  | [], _, hn => subst hn; exact insE_text _ _ _ _ _ _ _ _ _ _ ⟨fun i w' => i = 1 /\ w' = w, fun _ _ => 0, ⟨rfl, rfl⟩, fun i w3 ⟨h1, h2⟩ _ => by subst h1; subst h2; exact brC_ff (by simp) (hk w3 h (.inr (Upd.refl _ _)))⟩
  | [a], _, hn => subst hn; exact insE_text _ _ _ _ _ _ _ _ _ _ ⟨fun i w' => i = 1 /\ w' = w, fun _ _ => 0, ⟨rfl, rfl⟩, fun i w3 ⟨h1, h2⟩ _ => by subst h1; subst h2; exact brC_ff (by simp) (hk w3 h (.inr (Upd.refl _ _)))⟩
  | [a, b], _, hn =>
    obtain rfl : n = 2 := hn; have hab := hne a b rfl; obtain ⟨qa, ha⟩ := hp a (by simp); obtain ⟨qb, hb⟩ := hp b (by simp); have e0 : exC f [a, b] = [.string a.1, .pointer qa, .string b.1, .pointer qb] := by simp [exC, ha, hb]
    have e1 : exC f [b, a] = [.string b.1, .pointer qb, .string a.1, .pointer qa] := by simp [exC, ha, hb]
    have e2 : sort2 [a, b] = if lessN b.1 a.1 then [b, a] else [a, b] := rfl; rw [e2] at hk; obtain ⟨g, o, rfl, _⟩ := h.get (j := 0) (by rw [exC_len]; simp); have hU : ∀ w', Upd No w w' -> RowAt w' 68 2 (.slice (some ⟨g, o, none⟩) 2 c) [.string a.1, .pointer qa, .string b.1, .pointer qb] := fun w' u => by rw [<- e0]; exact h.upd u fun _ _ h => h
    refine insE_text _ _ _ _ _ _ _ _ _ _ ⟨fun i w' => (i = 1 /\ w' = w) \/ (i = 2 /\ RowAt w' 68 2 (.slice (some ⟨g, o, none⟩) 2 c) (exC f (if lessN b.1 a.1 then [b, a] else [a, b])) /\ (Upd (InRow (.slice (some ⟨g, o, none⟩) 2 c)) w w' \/ Upd No w w')), fun i _ => (2 - i).toNat, .inl ⟨rfl, rfl⟩, ?_⟩; rintro i w3 (⟨rfl, rfl⟩ | ⟨rfl, hr, hu⟩) _
    rotate_left
    . exact brC_ff (by simp) (hk w3 hr hu)
    refine brC_tt (by simp) ⟨fun w' => RowAt w' 68 2 (.slice (some ⟨g, o, none⟩) 2 c) (exC f (if lessN b.1 a.1 then [b, a] else [a, b])) /\ (Upd (InRow (.slice (some ⟨g, o, none⟩) 2 c)) w3 w' \/ Upd No w3 w'), fun w6 ⟨hr, hu⟩ _ => ⟨.inr ⟨rfl, hr, hu⟩, by show (2 - IntKind.wrap .i64 (1 + 1)).toNat < (2 - 1 : Int).toNat; decide⟩, ?_⟩; refine ⟨fun j w' => (j = 1 /\ w' = w3) \/ (j = 0 /\ lessN b.1 a.1 = true /\ RowAt w' 68 2 (.slice (some ⟨g, o, none⟩) 2 c) (exC f [b, a]) /\ Upd (InRow (.slice (some ⟨g, o, none⟩) 2 c)) w3 w'), fun j _ => j.toNat, .inl ⟨rfl, rfl⟩, ?_⟩; rintro j w11 (⟨rfl, rfl⟩ | ⟨rfl, hlt, hr, hu⟩) _
    rotate_left
    . refine ⟨fun _ => False, fun _ h => h.elim, drawC_mk fun w35 u35 s35 => brC_ff (by simp) ⟨?_, .inl (hu.trans u35 fun _ _ h => h.elim)⟩⟩; rw [if_pos hlt]; exact hr.upd u35 fun _ _ h => h
    refine ⟨fun w' => lessN b.1 a.1 = true /\ Upd No w11 w', ?_, drawC_mk fun w35 u35 s35 => brC_tt (by simp) ?_⟩
    . rintro w14 ⟨hlt, u14⟩ _; refine ⟨fun w' => RowAt w' 68 2 (.slice (some ⟨g, o, none⟩) 2 c) (exC f [b, a]) /\ Upd (InRow (.slice (some ⟨g, o, none⟩) 2 c)) w11 w', fun w17 ⟨hr, hu⟩ _ => ⟨.inr ⟨rfl, hlt, hr, hu⟩, by show (IntKind.wrap .i64 (1 - 1)).toNat < (1 : Int).toNat; decide⟩, drawC_mk fun w19 u19 s19 => ?_⟩; have U19 := up u14 u19; have r19 := hU w19 U19
      have cell : ∀ j, j < 4 -> w19.cell? ⟨g, o + j, none⟩ = [Value.string a.1, .pointer qa, .string b.1, .pointer qb][j]? := fun j hj => by
        obtain ⟨g', o', e, hc⟩ := r19.get (j := j) (by simpa using hj); cases e; exact hc
      refine ⟨fun w' => w' = w19, by decide, by decide, ptrC_some ⟨a.1, by rw [add_mk]; exact cell 0 (by omega), qa, by rw [add_mk, add_mk]; exact cell 1 (by omega), fun w' e => ?_, by decide, by decide, ptrC_some ⟨b.1, by rw [add_mk]; exact cell 2 (by omega), qb, by rw [add_mk, add_mk]; exact cell 3 (by omega), fun w' e => ?_, by decide, by decide, ptrC_some ?_⟩⟩⟩
      . subst e; exact lds68 (by rw [add_mk]; exact cell 0 (by omega)) (by rw [add_mk, add_mk]; exact cell 1 (by omega))
      . subst e; exact lds68 (by rw [add_mk]; exact cell 2 (by omega)) (by rw [add_mk, add_mk]; exact cell 3 (by omega))
      rw [add_mk, add_mk]; refine ⟨row_store r19 (j := 2) (by simp) _ fun w30 r30 u30 s30 => row_store r30 (j := 3) (by simp) _ fun w31 r31 u31 s31 => ⟨by decide, by decide, ptrC_some ?_⟩, trivial⟩; rw [add_mk, add_mk]; refine ⟨row_store r31 (j := 0) (by simp) _ fun w33 r33 u33 s33 => row_store r33 (j := 1) (by simp) _ fun w34 r34 u34 s34 => ⟨by rw [e1]; exact r34, ?_⟩, trivial⟩; have hI : ∀ x, x = g -> InRow (.slice (some ⟨g, o, none⟩) 2 c) x := fun x e => by subst e; rfl
      exact (((U19.no.trans u30 fun x _ e => hI x e).trans u31 fun x _ e => hI x e).trans u33 fun x _ e => hI x e).trans u34 fun x _ e => hI x e
    . have r35 := hU w35 u35
      have cell : ∀ j, j < 4 -> w35.cell? ⟨g, o + j, none⟩ = [Value.string a.1, .pointer qa, .string b.1, .pointer qb][j]? := fun j hj => by
        obtain ⟨g', o', e, hc⟩ := r35.get (j := j) (by simpa using hj); cases e; exact hc
      refine ⟨by decide, by decide, ptrC_some ⟨b.1, by rw [add_mk]; exact cell 2 (by omega), qb, by rw [add_mk, add_mk]; exact cell 3 (by omega), by decide, by decide, ptrC_some ⟨a.1, by rw [add_mk]; exact cell 0 (by omega), qa, by rw [add_mk, add_mk]; exact cell 1 (by omega), ?_⟩⟩⟩; refine inv_types1 (Types1_text _ _ _ _ _ _ (newC_mk fun w1 B1 u1 s1 => newC_mk fun w2 B2 u2 s2 => ⟨_, (B1.upd u2 id).cell rfl, _, B2.cell rfl, compare_c (Ne.symm hab) ⟨_, rfl, _, rfl, ?_⟩⟩)); have U2 := up (up u35 u1) u2; cases hls : lessN b.1 a.1
      . exact brC_ff (by simp) ⟨by rw [if_neg (by decide)]; rw [e0]; exact hU w2 U2, .inr U2⟩
      . exact brC_tt (by simp) ⟨rfl, U2⟩
theorem sort_c {w : World} {p : Option Addr} {n c : Nat} {l : List Ex} {f : Value -> Value} (h : RowAt w 68 2 (.slice p n c) (exC f l)) (hp : ∀ x ∈ l, ∃ q, f (.string x.1) = .pointer q) (hl : l.length <= 2) (hne : ∀ a b, l = [a, b] -> a.1 ≠ b.1) (hn : n = l.length) {K : KV}
    (hk : ∀ w', RowAt w' 68 2 (.slice p n c) (exC f (sort2 l)) -> Upd (InRow (.slice p n c)) w w' \/ Upd No w w' -> K (.tuple #[]) w') :
    callC Tryz.prog 37 #[.slice p n c, .func (.func 38) #[] #[]] w K := by
  have hw : IntKind.wrap .u64 (n : Int) = n := by
    have h : ((n : Int) % 18446744073709551616 : Int) = n := Int.emod_eq_of_lt (by omega) (by omega); simpa [IntKind.wrap, IntKind.signed, IntKind.bits] using h
  refine sortF_text _ _ _ _ _ _ _ _ ?_; rw [hw]; refine bits_c (by omega) (by omega) fun n2 => ⟨_, rfl, pdqE_text _ _ _ _ _ _ _ _ _ _ _ ⟨fun a b _ _ _ w' => a = 0 /\ b = n /\ w' = w, fun _ _ _ _ _ _ => 0, ⟨rfl, rfl, rfl⟩, ?_⟩⟩; rintro a b d e1 e2 w7 ⟨rfl, rfl, rfl⟩ _; have hw2 : IntKind.wrap .i64 ((n : Int) - 0) = n := by rw [Int.sub_zero]; exact wrap_nat (by omega)
  rw [hw2]; exact brC_tt (decide_eq_true (by omega)) (ins_c h hp hl hne hn fun w' hr hu => ⟨rfl, rfl, hk w' hr hu⟩)
theorem nodup_keys {α : Type} {l : List (ByteArray × α)} (h : (keysV l).Nodup) : l.Nodup := by
  unfold keysV List.Nodup at h; rw [List.pairwise_map] at h; exact List.Pairwise.imp (fun hne e => hne (by rw [e])) h
theorem lessN_iff {x y : ByteArray} : lessN x y = true ↔ txt x < txt y := by
  have := lessB_iff (x := x) (y := y); unfold lessN; unfold lessB at this; rw [ByteArray.toList_eq, ByteArray.toList_eq]; exact this
theorem sort2_perm {l m : List Ex} (h : l.Perm m) (hl : m.length <= 2) (hn : ∀ a b, m = [a, b] -> a.1 ≠ b.1) : sort2 l = sort2 m := by
  have hll := h.length_eq
  match m, hl, l, hll, h with
  | [], _, [], _, _ => rfl
  | [a], _, [b], _, h => rw [List.singleton_perm_singleton.1 h]
  | [a, b], _, [c, d], _, h =>
    have hab := hn a b rfl; have hc : c = a \/ c = b := by simpa using h.mem_iff.1 (List.mem_cons_self (a := c) (l := [d]))
    have hlt : lessN b.1 a.1 = true ↔ ¬ lessN a.1 b.1 = true := by
      rw [lessN_iff, lessN_iff]; constructor
      . intro h1 h2; exact absurd (List.lt_trans h1 h2) (List.lt_irrefl _)
      . intro h1; have h2 : txt b.1 <= txt a.1 := List.not_lt.1 h1; refine Classical.byContradiction fun h3 => hab (txt_inj (List.le_antisymm (List.not_lt.1 h3) h2))
    rcases hc with rfl | rfl
    . have : d = b := by
        have := (List.perm_cons c).1 h; exact List.singleton_perm_singleton.1 this
      rw [this]
    . have : d = a := by
        have := (List.perm_cons c).1 (h.trans (List.Perm.swap c a [])); exact List.singleton_perm_singleton.1 this
      subst this; show (if lessN d.1 c.1 then [d, c] else [c, d]) = (if lessN c.1 d.1 then [c, d] else [d, c])
      by_cases h1 : lessN d.1 c.1 = true
      . rw [if_pos h1, if_neg (by rw [hlt]; simpa using h1)]
      . rw [if_neg h1, if_pos (hlt.2 h1)]
theorem Types_c {w : World} {sc : Nat} {S : Sc} (hS : ScAt w sc S) (ho : S.owns.length <= 2) {K : KV}
    (hk : ∀ p n c w', ExAt w' p (sort2 S.owns) -> n = S.owns.length -> Upd No w w' -> K (.slice p n c) w') :
    callC Tryz.prog 22 #[.pointer (some ⟨sc, 0, none⟩)] w K := by
  obtain ⟨m1, m2, ov, f1, f2, h⟩ := hS; have nd := h.owns.nodup; refine Types_text _ _ _ ⟨fun p n c w' => ∃ L : List Ex, L.Perm S.owns /\ RowAt w' 68 2 (.slice p n c) (exC f2 L) /\ (∀ b, InRow (.slice p n c) b -> w.heap.size <= b) /\ Upd No w w', ?_, brC_tt rfl (ptrC_some ⟨_, by rw [add_mk]; exact h.blk.cell rfl, range_mk mapOwn h.owns fun w11 R11 u11 s11 => ?_⟩)⟩
  . rintro p n c w4 ⟨L, hL, row, own, U4⟩ _; have hLl : L.length = S.owns.length := hL.length_eq
    have hn : n = L.length := by
      obtain ⟨p', n', c', e, hnn, _, _⟩ := row.shape; cases e; rw [exC_len] at hnn; omega
    have hne : ∀ a b, S.owns = [a, b] -> a.1 ≠ b.1 := fun a b e hab => by
      rw [e] at nd; simp [keysV, hab] at nd
    refine sort_c row (fun x hx => ?_) (by omega) (fun a b e hab => ?_) hn fun w7 r7 hu => ⟨rfl, ?_⟩
    . obtain ⟨q, hq⟩ := at_ptr (h.own x (hL.mem_iff.1 hx)); exact ⟨q, hq⟩
    . have hpn : (keysV L).Nodup := (List.Perm.nodup_iff (hL.map _)).2 nd; rw [e] at hpn; simp [keysV, hab] at hpn
    . have U7 : Upd No w w7 := by
        rcases hu with hu | hu
        . exact U4.trans hu fun b hb hx => by have := own b hx; omega
        . exact up U4 hu
      rw [sort2_perm hL ho hne] at r7
      have hsl : ∀ l : List Ex, (sort2 l).length = l.length /\ ∀ x ∈ sort2 l, x ∈ l := fun l => by
        match l with
        | [] => exact ⟨rfl, fun x h => h⟩
        | [a] => exact ⟨rfl, fun x h => h⟩
        | [a, b] =>
          have e : sort2 [a, b] = if lessN b.1 a.1 then [b, a] else [a, b] := rfl; rw [e]; cases lessN b.1 a.1
          . exact ⟨rfl, fun x h => h⟩
          . exact ⟨rfl, fun x h => by simp at h ⊢; exact h.symm⟩
        | a :: b :: c :: r => exact ⟨rfl, fun x h => h⟩
      obtain ⟨h1, h2⟩ := hsl S.owns; refine hk p n c w7 (fun i hi => ?_) (by omega) U7; have hm := h2 _ (List.getElem_mem hi); obtain ⟨q, hq⟩ := at_ptr (h.own _ hm); obtain ⟨e1, e2⟩ := exC_get f2 hi; obtain ⟨g, o, rfl, hc1⟩ := r7.get (j := i * 2) (by rw [exC_len]; omega); obtain ⟨g', o', e', hc2⟩ := r7.get (j := i * 2 + 1) (by rw [exC_len]; omega); cases e'; refine ⟨_, q, rfl, by rw [add_mk, hc1, e1], by rw [add_mk, add_mk, Nat.add_assoc, hc2, e2, hq], ?_⟩; have := (h.own _ hm).keep U7; rw [hq] at this; exact this
  . refine ⟨fun p n c w' => ∃ (L : List Ex) (vis : List Value), RangeF .string w' m2 (keysV S.owns) f2 w.heap.size vis /\ vis.Nodup /\ vis = (keysV L).reverse /\ (∀ x ∈ L, x ∈ S.owns) /\ RowAt w' 68 2 (.slice p n c) (exC f2 L) /\ (∀ b, InRow (.slice p n c) b -> w.heap.size < b) /\ Upd No w w', fun _ _ _ w' => S.owns.length - seenOf w' w.heap.size,
      ⟨[], [], R11, List.nodup_nil, rfl, fun x hx => (by cases hx), RowAt.nil _ _ _, fun b hb => (no_in b hb).elim, u11⟩, ?_⟩
    rintro p n c w17 ⟨L, vis, R, ndv, rfl, hsub, row, own, U17⟩ _
    have hLn : L.length <= S.owns.length := by
      have := List.Nodup.length_le_of_subset ndv fun y hy => R.vis_sub y hy; simpa [keysV] using this
    refine next_mk R 0 (fun hall => ?_) fun w20 k hkin hkout R20 u20 s20 => ?_
    . left; refine ⟨rfl, L, ?_, row, fun b hb => Nat.le_of_lt (own b hb), U17⟩
      have ndL : L.Nodup := by
        have : (keysV L).Nodup := (List.reverse_perm _).nodup_iff.1 ndv; exact nodup_keys this
      have ndO : S.owns.Nodup := by
        exact nodup_keys nd
      refine (List.perm_ext_iff_of_nodup ndL ndO).2 fun x => ⟨hsub x, fun hx => ?_⟩; have := hall _ (mem_keysV.2 ⟨x, hx, rfl⟩); rw [List.mem_reverse] at this; obtain ⟨y, hy, e⟩ := mem_keysV.1 this; obtain ⟨i, hi, rfl⟩ := List.getElem_of_mem hx; obtain ⟨j, hj, hje⟩ := List.getElem_of_mem (hsub y hy); have h1 := nodup_find nd hi; have h2 := nodup_find nd hj; rw [hje, e, h1] at h2; cases h2; exact hy
    . right; obtain ⟨x, hx, hxk⟩ := List.mem_map.1 hkin; subst hxk; obtain ⟨q, hq⟩ := at_ptr (h.own x hx); refine ⟨_, _, rfl, entry_mk R20 ⟨_, q, by rw [hq], newC_mk fun w28 B28 u28 s28 => ?_⟩⟩; have r20 := row.upd u20 fun b hb e => by have := own b hb; omega
      have r28 := r20.upd u28 fun _ _ h => h; obtain ⟨i, i1, i2, i3, i4⟩ := info_get (P := Tryz.prog) (e := 68) (s := 2) (b := 24) (z := .agg #[.string .empty, .pointer none]) (by kernel_rfl); obtain ⟨p0, n0, c0, e0, hnn, _, _⟩ := r28.shape; cases e0; rw [exC_len] at hnn; obtain rfl : n = L.length := by omega
      refine append_slice (P := Tryz.prog) (by kernel_rfl) i1 i2 i3 i4 rfl r28 (exC_len _ _) _ 1 1 (exC f2 [x]) (by decide) (exC_len _ _) (fun j u hj => ?_) (fun u hu => ?_) (by simp only [maxLen]; omega) (by omega) fun v' w30 r30 u30 hin30 => ?_
      . match j, hj with
        | 0, hj => cases hj; exact ⟨_, rfl, B28.cell rfl⟩
        | 1, hj =>
          have : u = .pointer q := by simpa [exC, hq] using hj.symm
          subst this; exact ⟨_, rfl, by rw [add_mk]; exact B28.cell rfl⟩
        | j + 2, hj => simp [exC] at hj
      . simp [exC] at hu; rcases hu with rfl | rfl
        . rfl
        . rw [hq]; rfl
      obtain ⟨p2, n2, c2, rfl, _, _, _⟩ := r30.shape; have z17 := U17.size; have nr : ¬ InRow (.slice p L.length c) w.heap.size := fun hb => by have := own _ hb; omega
      have nm : ¬ InRow (.slice p L.length c) m2 := map_no_row r28 (R20.map.upd u28 id); have R30 := (R20.upd u28 id id).upd u30 nm nr; refine ⟨_, _, _, rfl, ⟨L ++ [x], _, R30, List.nodup_cons.2 ⟨hkout, ndv⟩, by simp [keysV], fun y hy => ?_, by rw [exC_app]; exact r30, fun b hb => ?_, ?_⟩, ?_⟩
      . rcases List.mem_append.1 hy with hy | hy
        . exact hsub y hy
        . obtain rfl : y = x := by simpa using hy
          exact hx
      . rcases hin30 b hb with hx' | hx'
        . exact own b hx'
        . have := h.owns.lt; have := R20.lt; have := u28.size; omega
      . exact ((U17.trans u20 fun b hb (e : b = _) => by omega).trans u28 fun _ _ h => h).trans u30 fun b hb hx => by have := own b hx; omega
      . dsimp only; rw [R30.seen, R.seen]; have hsub2 := List.Nodup.length_le_of_subset (List.nodup_cons.2 ⟨hkout, ndv⟩) fun y hy => R30.vis_sub y hy; simp [keysV] at hsub2 ⊢; omega
end Go.Proofs.YtdbkclnlfibgdaaGreatDoor
namespace Go.Proofs.YtdbkclnlfibgdaaGreatDoor
open Go.SX Go.Ty Go.RowKit Go.Shelf
abbrev noneV : Value := .iface 183 (.agg #[])
theorem cleanD_rec {p q : Nat} {w : World} {s0 : Value} {n0 : Value} (B0 : Blk w p #[s0] 9) (B1 : Blk w q #[n0] 32) (hpq : p ≠ q) :
    CallsD Tryz.prog 113 #[.pointer (some ⟨p, 0, none⟩), .pointer (some ⟨q, 0, none⟩)] (.panicking [{ v := noneV, recovered := false }]) w
      fun e u' w' => e = .returned (.tuple #[]) /\ u' = .panicking [{ v := noneV, recovered := true }] /\ w' = (w.setCell ⟨p, 0, none⟩ (.string .empty)).setCell ⟨q, 0, none⟩ (.int .i64 6) := by
  have c0 : w.cell? ⟨p, 0, none⟩ = some s0 := B0.cell rfl; have f0 := B0.frozen 0; have B1' : Blk (w.setCell ⟨p, 0, none⟩ (.string ⟨#[]⟩)) q #[n0] 32 := B1.upd (upd_setCell w p 0 _) (Ne.symm hpq); have c1 : (w.setCell ⟨p, 0, none⟩ (.string ⟨#[]⟩)).cell? ⟨q, 0, none⟩ = some n0 := B1'.cell rfl; have f1 := B1'.frozen 0; refine callsD_of_wpS Tryz.func113 rfl fun c₀ cs hu => ?_; apply wpS_seq; apply wpS_region; simp [wpOpsS, go_sem, recoverD, hu, Tryz.ntmps113, Exit.thenS]; apply wpS_seq; apply wpS_region; simp [wpOpsS, go_sem, Exit.thenS]; refine wpS_cond (t := true) (by simp [Act.eval, Array.replicate]) ?_; simp only [if_true]; apply wpS_seq; apply wpS_region; simp [wpOpsS, go_sem, Exit.thenS]; apply wpS_region; simp [wpOpsS, go_sem, Exit.thenS, c0, f0, c1, f1, Result.andThen]; cases c₀
  simp_all [bodyPostS, results, Tryz.results113]
  rfl
def oddF (c : UInt8) : Bool := !((decide (97 <= c.toNat) && decide (c.toNat <= 122)) || (decide (48 <= c.toNat) && decide (c.toNat <= 57)) || c.toNat == 95 || c.toNat == 45)
def segF (x : ByteArray) : Bool := x.data.toList.all (fun c => !oddF c) && decide (x ≠ .empty) && decide (x.size <= 16)
section
variable {w : World} {K R : KV}
theorem odd_c {c : UInt8} (hk : K (.bool (oddF c)) w) : callC Tryz.prog 168 #[.int .u8 (c.toNat : Int)] w K := by
  have hb : ∀ n : Nat, ((c.toNat : Int) == (n : Int)) = (c.toNat == n) := fun n => by
    rw [Bool.eq_iff_iff]; simp; omega
  refine odd_text _ _ _ ⟨fun b w' => w' = w /\ b = !oddF c, ?_, ?_⟩
  . rintro b w2 ⟨rfl, rfl⟩ _; refine brC_intro (fun h => ?_) fun h => ?_
    . have : oddF c = false := by simpa using h
      rw [this] at hk; exact hk
    . have : oddF c = true := by simpa using h
      rw [this] at hk; exact hk
  refine ⟨fun b w' => w' = w /\ b = (decide (97 <= c.toNat) && decide (c.toNat <= 122)), ?_, brC_intro (fun h => ⟨rfl, ?_⟩) fun h => ⟨rfl, ?_⟩⟩
  . rintro b w6 ⟨rfl, hb1⟩ _; refine brC_intro (fun h => ⟨rfl, ?_⟩) fun h => ?_
    . rw [h] at hb1; unfold oddF; rw [<- hb1]; rfl
    . rw [h] at hb1
      have e : (!oddF c) = ((decide (48 <= c.toNat) && decide (c.toNat <= 57)) || c.toNat == 95 || c.toNat == 45) := by
        unfold oddF; rw [<- hb1]; simp
      rw [e]; refine ⟨fun b w' => w' = w6 /\ b = (decide (48 <= c.toNat) && decide (c.toNat <= 57)), ?_, brC_intro (fun h => ⟨rfl, ?_⟩) fun h => ⟨rfl, ?_⟩⟩
      . rintro b w10 ⟨rfl, hb2⟩ _; refine brC_intro (fun h => ⟨rfl, ?_⟩) fun h => ?_
        . rw [h] at hb2; rw [<- hb2]; rfl
        . rw [h] at hb2; rw [<- hb2]; have h95 := hb 95; have h45 := hb 45; refine brC_intro (fun h => ⟨rfl, ?_⟩) fun h => ⟨rfl, ?_⟩
          . have : (c.toNat == 95) = true := h95.symm.trans h; rw [this]; rfl
          . have : (c.toNat == 95) = false := h95.symm.trans h; rw [this]; exact h45
      . have : 48 <= c.toNat := by have := of_decide_eq_true h; omega
        rw [decide_eq_true this]; exact decide_eq_decide.2 ⟨fun h => by omega, fun h => by omega⟩
      . have : ¬ 48 <= c.toNat := by have := of_decide_eq_false h; omega
        rw [decide_eq_false this]; rfl
  . have : 97 <= c.toNat := by have := of_decide_eq_true h; omega
    rw [decide_eq_true this]; exact decide_eq_decide.2 ⟨fun h => by omega, fun h => by omega⟩
  . have : ¬ 97 <= c.toNat := by have := of_decide_eq_false h; omega
    rw [decide_eq_false this]; rfl
theorem segment_c {x : ByteArray} (hx : x.size <= 1000000) (hk : K (.bool (segF x)) w) : callC Tryz.prog 116 #[.string x] w K := by
  have hsz : x.data.toList.length = x.size := by cases x; rfl
  refine segment_text _ _ _ ⟨fun m w' => ∃ i : Nat, m = i /\ i <= x.size /\ (∀ j (hj : j < x.data.toList.length), j < i -> oddF x.data.toList[j] = false) /\ w' = w, fun m _ => x.size - m.toNat, ⟨0, rfl, Nat.zero_le _, fun j _ h => absurd h (Nat.not_lt_zero j), rfl⟩, ?_⟩; rintro m w3 ⟨i, rfl, hi, hpre, rfl⟩ _; refine brC_intro (fun hlt => ?_) fun hge => ?_
  . have hi : i < x.data.toList.length := by have := of_decide_eq_true hlt; omega
    refine ⟨by omega, by omega, ?_⟩; rw [Int.toNat_natCast, byteAt_eq hi]; refine odd_c ⟨_, rfl, brC_intro (fun ho => ?_) fun ho => ?_⟩
    . have : segF x = false := by
        unfold segF
        have : (x.data.toList.all fun c => !oddF c) = false := by
          rw [List.all_eq_false]; exact ⟨_, List.getElem_mem hi, by rw [ho]; decide⟩
        rw [this]; rfl
      rw [this] at hk; exact hk
    . rw [wrap_succ (by omega)]; refine ⟨⟨i + 1, rfl, by omega, fun j hj hji => ?_, rfl⟩, by dsimp only; omega⟩; rcases Nat.lt_succ_iff_lt_or_eq.1 hji with h | rfl
      . exact hpre j hj h
      . exact ho
  . have hi : i = x.size := by have := of_decide_eq_false hge; omega
    subst hi
    have hall : (x.data.toList.all fun c => !oddF c) = true := by
      rw [List.all_eq_true]; intro c hc; obtain ⟨j, hj, rfl⟩ := List.getElem_of_mem hc; rw [hpre j hj (by omega)]; rfl
    unfold segF at hk; rw [hall] at hk; refine brC_intro (fun h => ?_) fun h => ?_
    . have hne : x ≠ .empty := by
        have h2 : (x.toList == ByteArray.toList .empty) = false := by simpa using h
        rw [beq_bytes] at h2; exact of_decide_eq_false h2
      rw [decide_eq_true hne] at hk; have e : decide ((x.size : Int) <= 16) = decide (x.size <= 16) := decide_eq_decide.2 ⟨fun h => by omega, fun h => by omega⟩; rw [e]; simpa using hk
    . have hne : ¬ x ≠ .empty := by
        have h2 : (x.toList == ByteArray.toList .empty) = true := by simpa using h
        rw [beq_bytes] at h2; exact fun hn => hn (of_decide_eq_true h2)
      rw [decide_eq_false hne] at hk; simpa using hk
theorem gmust_c {b : Bool} (h1 : b = true -> K (.tuple #[]) w) (h0 : b = false -> R noneV w) : callX Tryz.prog 115 #[.bool b] w K R :=
  pmust_text _ _ _ _ (brC_intro (fun h => h0 (by simpa using h)) fun h => h1 (by simpa using h))
end
def pcs : Nat -> List UInt8 -> List ByteArray
  | 0, s => [bs s]
  | f + 1, s => match Lib.indexByte s 47 with
    | .ofNat i => bs (s.take i) :: pcs f (s.drop (i + 1))
    | .negSucc _ => [bs s]
def stepC (st : List ByteArray) (p : ByteArray) : Option (List ByteArray) :=
  if p = .empty then some st else if p = bs [46] then some st else if p = bs [46, 46] then (if st.length = 0 then none else some st.dropLast) else if segF p then some (st ++ [p]) else none
def foldC : List ByteArray -> List ByteArray -> Option (List ByteArray)
  | st, [] => some st
  | st, p :: l => match stepC st p with
    | some st' => foldC st' l
    | none => none
theorem indexByte_lt : ∀ {s : List UInt8} {c : UInt8} {i : Nat}, Lib.indexByte s c = Int.ofNat i -> i < s.length
  | [], c, i, h => by cases h
  | b :: l, c, i, h => by
    unfold Lib.indexByte at h; split at h
    . have : (0 : Int) = (i : Int) := h; simp; omega
    . split at h
      . cases h
      . rename_i h1; have h2 := Lib.indexByte_ge l c; have h3 : Lib.indexByte l c ≠ -1 := by simpa using h1
        have h4 : Lib.indexByte l c + 1 = (i : Int) := h
        cases hx : Lib.indexByte l c with
        | ofNat j =>
          have := indexByte_lt hx; rw [hx] at h4; have : (j : Int) + 1 = i := h4; simp; omega
        | negSucc j => rw [hx] at h2 h3; omega
theorem index_c {w : World} {s : ByteArray} {K : KV} (hk : K (.int .i64 (Lib.indexByte (txt s) 47)) w) : callC Tryz.prog 165 #[.string s, .string (ByteArray.mk #[47])] w K :=
  callC_of_calls (Any.strings_Index_one { Tryz.containsL with } s 47 w) fun e w' ⟨he, hw⟩ => ⟨_, he, by subst hw; exact hk⟩
structure Its (w : World) (k1 k2 k3 : Nat) (s : ByteArray) : Prop where
  a : Blk w k1 #[.string (ByteArray.mk #[47])] 9
  b : Blk w k2 #[.string s] 9
  c : Blk w k3 #[.int .i64 0] 3
  ne : k1 ≠ k2 /\ k3 ≠ k2
theorem stepC_len {st : List ByteArray} {p : ByteArray} {st' : List ByteArray} (h : stepC st p = some st') : st'.length <= st.length + 1 := by
  unfold stepC at h; split at h
  . cases h; omega
  split at h
  . cases h; omega
  split at h
  . split at h
    . cases h
    . cases h; simp; omega
  split at h
  . cases h; simp
  . cases h
theorem split_c {k1 k2 k3 : Nat} {f : Fn} {fa fc : Array Value} {J : List ByteArray -> WP} {J' : WP} (hJ : ∀ st w w', J st w -> Upd (· = k2) w w' -> J st w')
    (hy : ∀ (st : List ByteArray) (s p : ByteArray) (w : World) (K R : KV), J st w -> st.length <= 1000 -> Its w k1 k2 k3 s -> p.size <= 1000 -> (∀ st', stepC st p = some st' -> ∀ w', J st' w' -> Its w' k1 k2 k3 s -> K (.bool true) w') -> (stepC st p = none -> ∀ w', J' w' -> R noneV w') -> yldX Tryz.prog (.func f fa fc) #[.string p] w K R)
    {w : World} {st : List ByteArray} {s : ByteArray} {fu : Nat} (hf : s.size < fu) (hs : st.length + s.size <= 1000) (hj : J st w) (hi : Its w k1 k2 k3 s) {K R : KV}
    (hk : ∀ st', foldC st (pcs fu (txt s)) = some st' -> ∀ w', J st' w' -> K (.tuple #[]) w') (hr : foldC st (pcs fu (txt s)) = none -> ∀ w', J' w' -> R noneV w') :
    callX Tryz.prog 199 #[.func f fa fc, .pointer (some ⟨k1, 0, none⟩), .pointer (some ⟨k2, 0, none⟩), .pointer (some ⟨k3, 0, none⟩)] w K R := by
  generalize hA : foldC st (pcs fu (txt s)) = A at hk hr; refine sseq1_text _ _ _ _ _ _ _ _ _ _ _ _ ⟨_, hi.a.cell rfl, brC_ff (by decide) ?_⟩; refine ⟨fun w' => ∃ st2 s2 f2, J st2 w' /\ Its w' k1 k2 k3 s2 /\ s2.size < f2 /\ st2.length + s2.size <= 1000 /\ foldC st2 (pcs f2 (txt s2)) = A, fun w' => match w'.cell? ⟨k2, 0, none⟩ with | some (.string x) => x.size | _ => 0, ⟨st, s, fu, hj, hi, hf, hs, hA⟩, ?_⟩; rintro w19 ⟨st2, s2, f2, hj2, hi2, hf2, hs2, hfold⟩ _; clear hA hj hi hf; have hsz := size_txt s2; refine ⟨_, hi2.b.cell rfl, _, hi2.a.cell rfl, index_c ⟨_, rfl, ?_⟩⟩
  cases f2 with
  | zero => omega
  | succ f2 =>
  unfold pcs at hfold
  cases hix : Lib.indexByte (txt s2) 47 with
  | negSucc n =>
    rw [hix] at hfold; dsimp only at hfold; refine brC_tt (decide_eq_true (by omega)) ⟨_, hi2.b.cell rfl, ?_⟩; have hb : bs (txt s2) = s2 := bs_txt _; rw [hb] at hfold; unfold foldC at hfold; exact hy st2 s2 s2 _ _ _ hj2 (by omega) hi2 (by omega) (fun st' h w' j _ => ⟨_, rfl, hk st' (by rw [h] at hfold; exact hfold.symm) w' j⟩) fun h w' j => hr (by rw [h] at hfold; exact hfold.symm) w' j
  | ofNat i =>
    rw [hix] at hfold; dsimp only at hfold; have hil : i < (txt s2).length := indexByte_lt hix; refine brC_ff (decide_eq_false (by simp)) ⟨_, hi2.b.cell rfl, _, hi2.c.cell rfl, ?_⟩; have e1 : IntKind.wrap .i64 (Int.ofNat i + 0) = (i : Int) := by have e : Int.ofNat i = (i : Int) := rfl; rw [e, Int.add_zero, Go.SX.wrap_small (by omega) (by omega)]
    rw [e1, Int.toNat_natCast]; refine ⟨by omega, by omega, by omega, ?_⟩; have e2 : s2.extract 0 i = bs ((txt s2).take i) := by rw [ext_eq]; simp
    rw [e2]; unfold foldC at hfold; refine hy st2 s2 _ _ _ _ hj2 (by omega) hi2 (by rw [size_txt, txt_bs, List.length_take]; omega) (fun st' h w33 j i33 => ⟨_, rfl, brC_ff rfl ?_⟩) fun h w' j => hr (by rw [h] at hfold; exact hfold.symm) w' j; rw [h] at hfold; dsimp only at hfold; refine ⟨_, i33.b.cell rfl, _, i33.a.cell rfl, ?_⟩
    have e3 : IntKind.wrap .i64 (Int.ofNat i + (((ByteArray.mk #[47]).size : Nat) : Int)) = ((i + 1 : Nat) : Int) := by
      have : (ByteArray.mk #[47]).size = 1 := rfl; rw [this, Go.SX.wrap_small (by simp; omega) (by simp; omega)]; simp
    rw [e3, Int.toNat_natCast, Int.toNat_natCast]; refine ⟨by omega, by omega, by omega, ?_⟩
    have e4 : s2.extract (i + 1) s2.size = bs ((txt s2).drop (i + 1)) := by
      rw [ext_eq, List.take_of_length_le (by simp; omega)]
    rw [e4]; refine stC_mk i33.b (by simp) fun w37 B37 u37 _ => ⟨⟨st', bs ((txt s2).drop (i + 1)), f2, hJ _ _ _ j u37, ⟨i33.a.upd u37 i33.ne.1, B37, i33.c.upd u37 i33.ne.2, i33.ne⟩, ?_, ?_, by rw [txt_bs]; exact hfold⟩, ?_⟩
    . rw [size_txt, txt_bs, List.length_drop]; omega
    . have := stepC_len h; rw [size_txt, txt_bs, List.length_drop]; omega
    . have b2 : w37.cell? ⟨k2, 0, none⟩ = some (.string (bs ((txt s2).drop (i + 1)))) := B37.cell rfl; show (match w37.cell? ⟨k2, 0, none⟩ with | some (.string x) => x.size | _ => 0) < (match w19.cell? ⟨k2, 0, none⟩ with | some (.string x) => x.size | _ => 0); rw [b2, hi2.b.cell (i := 0) rfl]; show (bs ((txt s2).drop (i + 1))).size < s2.size; rw [size_txt, txt_bs, List.length_drop]; omega
theorem blk_put {w : World} {l : Nat} {o : Obj} {b : Nat} {cs : Array Value} {t : TypeId} (hB : Blk w b cs t) (hne : b ≠ l) : Blk (w.putObj l o) b cs t := by
  unfold Blk at *; rw [World.putObj_heap_other hne]; exact hB
theorem upd_put (w : World) (l : Nat) (o : Obj) : Upd (· = l) w (w.putObj l o) := ⟨rfl, rfl, rfl, by simp, fun x _ hx => World.putObj_heap_other hx⟩
structure Cl (w1 : World) (k4 ks L : Nat) (o : Obj) (st : List ByteArray) (w : World) : Prop where
  row : ∃ v, Blk w k4 #[v] 53 /\ RowAt w 9 1 v (st.map Value.string) /\ (∀ b, InRow v b -> w1.heap.size <= b)
  loop : w.heap[L]? = some o
  up : Upd (fun b => b = k4 \/ b = ks \/ b = L) w1 w
  lt : k4 < w1.heap.size /\ ks < w1.heap.size /\ L < w1.heap.size
section
variable {w1 w w' : World} {k4 ks L : Nat} {o : Obj} {st : List ByteArray}
theorem Cl.keep (h : Cl w1 k4 ks L o st w) (u : Upd No w w') : Cl w1 k4 ks L o st w' := by
  obtain ⟨v, a, b, c⟩ := h.row; have hlt := h.lt; refine ⟨⟨v, a.upd u id, b.upd u fun _ _ h => h, c⟩, ?_, h.up.trans u fun _ _ h => h.elim, hlt⟩; rw [u.block L (by have := h.up.size; omega) id]; exact h.loop
theorem Cl.its (h : Cl w1 k4 ks L o st w) (hne : k4 ≠ ks /\ L ≠ ks) (u : Upd (· = ks) w w') : Cl w1 k4 ks L o st w' := by
  obtain ⟨v, a, b, c⟩ := h.row; have hlt := h.lt; refine ⟨⟨v, a.upd u hne.1, b.upd u fun x hx (e : x = _) => by have := c x hx; omega, c⟩, ?_, h.up.trans u fun x _ (e : x = _) => .inr (.inl e), hlt⟩; rw [u.block L (by have := h.up.size; omega) hne.2]; exact h.loop
theorem Cl.put (h : Cl w1 k4 ks L o st w) (hne : k4 ≠ L) (o' : Obj) : Cl w1 k4 ks L o' st (w.putObj L o') := by
  obtain ⟨v, a, b, c⟩ := h.row; have hlt := h.lt; refine ⟨⟨v, blk_put a hne, b.upd (upd_put w L o') fun x hx (e : x = _) => by have := c x hx; omega, c⟩, World.putObj_heap_same (by have := h.up.size; omega), h.up.trans (upd_put w L o') fun x _ (e : x = _) => .inr (.inr e), hlt⟩
end
theorem cl_push {w1 w : World} {k4 ks L : Nat} {o : Obj} {st : List ByteArray} (h : Cl w1 k4 ks L o st w) (hne : k4 ≠ L) (hst : st.length <= 2000) (x : ByteArray) {K : WP} (hk : ∀ w', Cl w1 k4 ks L o (st ++ [x]) w' -> Upd (fun b => b = k4 \/ w1.heap.size <= b) w w' -> K w') :
    ∃ (p21 : Option Addr), ∃ (k22 : Nat), ∃ (k23 : Nat), World.cell? w (Addr.mk k4 0 none) = some (.slice p21 k22 k23) /\ newC w (Obj.cells #[.string x] 9) fun (k24 : Nat) (w25 : World) ↦ runC Tryz.prog (Builtin.append_ #[53, 53] 53 #[.slice p21 k22 k23, .slice (some (Addr.mk k24 0 none)) 1 1]) w25 fun (v26 : Value) (w27 : World) ↦ ∃ (p28 : Option Addr), ∃ (k29 : Nat), ∃ (k30 : Nat), v26 = .slice p28 k29 k30 /\ stC w27 (Addr.mk k4 0 none) (.slice p28 k29 k30) fun (w31 : World) ↦ K w31 := by
  obtain ⟨v, a, b, c⟩ := h.row; obtain ⟨p, n, cp, rfl, hn, hnc, hcm⟩ := b.shape; have hlt := h.lt; have hz := h.up.size; refine ⟨p, n, cp, a.cell rfl, newC_mk fun w2 B2 u2 s2 => ?_⟩; have h2 := h.keep u2; obtain ⟨v', a', b', c'⟩ := h2.row; have hv : v' = .slice p n cp := by have := (a'.inj (a.upd u2 id)).1; simpa using this
  subst hv; rw [List.length_map, Nat.mul_one] at hn; refine grow_row elemStr (n0 := w1.heap.size) ⟨b', c', by rw [List.length_map]; omega, by omega⟩ (by omega) (row_one B2) (by intro u hu; simp at hu; subst hu; rfl) (by first | omega | (simp; done) | (simp; omega)) (by first | omega | (simp; done) | (simp; omega)) fun p' n' c3 w3 o3 _ hin3 u3 => ?_; have nk : ¬ InRow (.slice p n cp) k4 := fun hx => by have := c' _ hx; omega
  refine stC_mk (a'.upd u3 nk) (by simp) fun w4 B4 u4 _ => hk w4 ⟨⟨_, B4, ?_, o3.own⟩, ?_, ?_, hlt⟩ ((u2.no.trans u3 fun y _ hx => .inr (c' y hx)).trans u4 fun y _ (e : y = _) => .inl e)
  . have := o3.row.upd u4 fun y hy (e : y = _) => by have := o3.own y hy; omega
    rw [List.map_append]; exact this
  . rw [u4.block L (by have := u3.size; have := u2.size; omega) (fun e => hne e.symm), u3.block L (by have := u2.size; omega) fun hx => by have := c' _ hx; omega]; exact h2.loop
  . exact (h2.up.trans u3 fun y hy hx => by have := c' _ hx; omega).trans u4 fun y _ (e : y = _) => .inl e
theorem take_dropLast {α : Type} (l : List α) : l.take (l.length - 1) = l.dropLast := by rw [List.dropLast_eq_take]
theorem cl_pop {w1 w : World} {k4 ks L : Nat} {o : Obj} {st : List ByteArray} (h : Cl w1 k4 ks L o st w) (hne : k4 ≠ L) (hst : st.length <= 2000) (h0 : st.length ≠ 0) {K : WP} (hk : ∀ w', Cl w1 k4 ks L o st.dropLast w' -> Upd (fun b => b = k4 \/ w1.heap.size <= b) w w' -> K w') :
    ∃ (p9 : Option Addr), ∃ (k10 : Nat), ∃ (k11 : Nat), World.cell? w (Addr.mk k4 0 none) = some (.slice p9 k10 k11) /\ ∃ (p12 : Option Addr), ∃ (k13 : Nat), ∃ (k14 : Nat), World.cell? w (Addr.mk k4 0 none) = some (.slice p12 k13 k14) /\ slcC 0 (IntKind.wrap IntKind.i64 ((↑k13 : Int) - 1)) k11 (stC w (Addr.mk k4 0 none) (.slice (subP p9 k11 0 1) (Int.toNat (IntKind.wrap IntKind.i64 ((↑k13 : Int) - 1)) - 0) (k11 - 0)) fun (w15 : World) ↦ K w15) := by
  obtain ⟨v, a, b, c⟩ := h.row; obtain ⟨p, n, cp, rfl, hn, hnc, hcm⟩ := b.shape; have hlt := h.lt; have hz := h.up.size; rw [List.length_map, Nat.mul_one] at hn; refine ⟨p, n, cp, a.cell rfl, p, n, cp, a.cell rfl, ?_⟩; have e : IntKind.wrap .i64 ((n : Int) - 1) = ((n - 1 : Nat) : Int) := by rw [Go.SX.wrap_small (by omega) (by omega)]; omega
  rw [e, Int.toNat_natCast]; refine ⟨by omega, by omega, by omega, stC_mk a (by simp) fun w4 B4 u4 _ => hk w4 ⟨⟨_, B4, ?_, ?_⟩, ?_, h.up.trans u4 fun y _ (e : y = _) => .inl e, hlt⟩ (u4.mono fun y _ e => .inl e)⟩
  . have := (b.cut (lo := 0) (hi := n - 1) (by omega) (by omega)).upd u4 fun y hy (e : y = _) => by have := c y (inRow_cut hy); omega
    rw [Nat.zero_mul, List.drop_zero, Nat.sub_zero, Nat.mul_one, <- hn, <- List.map_take, take_dropLast] at this; rw [Nat.sub_zero, <- hn]; rw [Nat.sub_zero] at this; exact this
  . exact fun y hy => c y (inRow_cut hy)
  . rw [u4.block L (by omega) (fun e => hne e.symm)]; exact h.loop
theorem round_c {w1 w : World} {s x : ByteArray} {k2 k3 k4 ks L : Nat} {fc it : Value} {o : Obj} {st : List ByteArray} (h : Cl w1 k4 ks L o st w) (hne : k4 ≠ L) (hst : st.length <= 2000) (hx : x.size <= 1000) {K R : KV}
    (hk : ∀ st', stepC st x = some st' -> ∀ w', Cl w1 k4 ks L o st' w' -> Upd (fun b => b = k4 \/ w1.heap.size <= b) w w' -> K (.tuple #[]) w') (hr : stepC st x = none -> ∀ w', Upd (fun b => b = k4 \/ b = ks \/ b = L) w1 w' -> R noneV w') :
    vcFunX Tryz.prog ⟨[(10, [(18, .bool)])], [], []⟩ ⟨[115], false⟩ (cutF Tryz.f71 roundC) [.string s, undef, .pointer (some (Addr.mk k2 0 none)), .pointer (some (Addr.mk k3 0 none)), .pointer (some (Addr.mk k4 0 none)), undef, fc, .string s, it, .string x] w K R := by
  refine round71 _ _ _ _ _ _ _ _ _ _ ⟨fun b w' => w' = w /\ b = (decide (x = .empty) || decide (x = bs [46])), ?_, ?_⟩
  . rintro b w2 ⟨rfl, rfl⟩ _; unfold stepC at hk hr; refine brC_intro (fun h1 => ?_) fun h1 => ?_
    . have : x = .empty \/ x = bs [46] := by simpa using h1
      refine hk st ?_ w2 h (Upd.refl _ _)
      by_cases hx0 : x = .empty
      . rw [if_pos hx0]
      . rw [if_neg hx0, if_pos (this.resolve_left hx0)]
    . have h1 : ¬ x = .empty /\ ¬ x = bs [46] := by simpa using h1
      rw [if_neg h1.1, if_neg h1.2] at hk hr; rw [beq_bytes]; refine brC_intro (fun h2 => ?_) fun h2 => ?_
      . have h2 : x = bs [46, 46] := of_decide_eq_true h2; rw [if_pos h2] at hk hr; obtain ⟨v, a, b, c⟩ := h.row; obtain ⟨p, n, cp, rfl, hn, hnc, hcm⟩ := b.shape; rw [List.length_map, Nat.mul_one] at hn; refine ⟨p, n, cp, a.cell rfl, gmust_c (fun h3 => ⟨rfl, ?_⟩) fun h3 => hr ?_ w2 h.up⟩
        . have h3 : n ≠ 0 := by have := of_decide_eq_true h3; omega
          rw [if_neg (by omega)] at hk; exact cl_pop h hne hst (by omega) fun w' h' u' => hk _ rfl w' h' u'
        . have h3 : n = 0 := by have := of_decide_eq_false h3; omega
          rw [if_pos (by omega)]
      . have h2 : ¬ x = bs [46, 46] := of_decide_eq_false h2; rw [if_neg h2] at hk hr; refine segment_c (by omega) ⟨_, rfl, gmust_c (fun h3 => ⟨rfl, ?_⟩) fun h3 => hr (by rw [if_neg (by rw [h3]; simp)]) w2 h.up⟩; rw [if_pos h3] at hk; exact cl_push h hne hst x fun w' h' u' => hk _ rfl w' h' u'
  . rw [beq_bytes, beq_bytes]; exact brC_intro (fun h1 => ⟨rfl, by have : decide (x = .empty) = true := h1; rw [this]; rfl⟩) fun h1 => ⟨rfl, by have : decide (x = .empty) = false := h1; rw [this]; rfl⟩
theorem join_c {w : World} {p : Option Addr} {n c : Nat} {x sep : ByteArray} (h : RowAt w 9 1 (.slice p n c) [.string x]) {K : KV} (hk : K (.string x) w) : callC Tryz.prog 117 #[.slice p n c, .string sep] w K := by
  obtain ⟨p', n', c', e, hn, _, _⟩ := h.shape; cases e; simp at hn; subst hn; obtain ⟨g, o, rfl, hc⟩ := h.get (j := 0) (by simp); exact join_text _ _ _ _ _ _ (brC_ff rfl (brC_tt rfl ⟨by omega, by omega, ptrC_some ⟨_, hc, hk⟩⟩))
theorem res_c {w : World} {env : Env} {k2 k3 : Nat} {x : ByteArray} {e : Int} (h2 : Go.SX.look env 2 = .pointer (some ⟨k2, 0, none⟩)) (h3 : Go.SX.look env 3 = .pointer (some ⟨k3, 0, none⟩)) (c2 : w.cell? ⟨k2, 0, none⟩ = some (.string x)) (c3 : w.cell? ⟨k3, 0, none⟩ = some (.int .i64 e)) {K : KV} (hk : K (.tuple #[.string x, .int .i64 e]) w) :
    resVC Tryz.prog env w Tryz.f71.results.toList fun vs => K (oneOf vs) w := by
  have key : ∀ a b : Value, a = .pointer (some ⟨k2, 0, none⟩) -> b = .pointer (some ⟨k3, 0, none⟩) -> (ptrV a fun ad => ldVC Tryz.prog 9 w ad fun v => ptrV b fun ad => ldVC Tryz.prog 32 w ad fun u => K (oneOf [v, u]) w) := by
    rintro a b rfl rfl; exact of_eq (p := ∃ s, w.cell? ⟨k2, 0, none⟩ = some (.string s) /\ ∃ n, w.cell? ⟨k3, 0, none⟩ = some (.int .i64 n) /\ K (.tuple #[.string s, .int .i64 n]) w) ⟨x, c2, e, c3, hk⟩ (by kernel_rfl)
  exact of_eq (key _ _ h2 h3) (by kernel_rfl)
theorem Clean_ok {s : ByteArray} (hs : s.size <= 1000) {r : Option ByteArray} (hs1 : ∀ st, foldC [] (pcs (s.size + 1) (txt s)) = some st -> ∃ p, st = [p] /\ r = some p) (hs2 : foldC [] (pcs (s.size + 1) (txt s)) = none -> r = none) : CleanOk s r := by
  intro w K hk; refine callC_ofX (callX_of_mark Tryz.func71 rfl fun b hbf hb => ?_)
  refine wpAt_seq hb (wpAt_mono (atVc (px := ⟨[], false⟩) (ann := ⟨[], [], []⟩) (R := fun _ _ => False) (Q := fun x env w2 => x = .normal /\ env = (3, .pointer (some ⟨w.heap.size + 1, 0, none⟩)) :: (2, .pointer (some ⟨w.heap.size, 0, none⟩)) :: Go.SX.argE [.string s] 0 /\ Blk w2 w.heap.size #[.string .empty] 9 /\ Blk w2 (w.heap.size + 1) #[.int .i64 0] 32 /\ Upd No w w2 /\ w2.heap.size = w.heap.size + 2) hb (fit0 Tryz.f71 [.string s])
    (of_eq (p := newC w (Obj.cells #[.string (ByteArray.mk #[])] 9) fun (k0 : Nat) (w1 : World) ↦ newC w1 (Obj.cells #[.int .i64 0] 32) fun (k2 : Nat) (w3 : World) ↦ (X.normal = .normal /\ (3, Value.pointer (some ⟨k2, 0, none⟩)) :: (2, Value.pointer (some ⟨k0, 0, none⟩)) :: Go.SX.argE [.string s] 0 = (3, .pointer (some ⟨w.heap.size + 1, 0, none⟩)) :: (2, .pointer (some ⟨w.heap.size, 0, none⟩)) :: Go.SX.argE [.string s] 0 /\ Blk w3 w.heap.size #[.string .empty] 9 /\ Blk w3 (w.heap.size + 1) #[.int .i64 0] 32 /\ Upd No w w3 /\ w3.heap.size = w.heap.size + 2))
      (newC_mk fun w1 B1 u1 s1 => newC_mk fun w2 B2 u2 s2 => ⟨rfl, by rw [s1], B1.upd u2 id, by rw [s1] at B2; exact B2, up u1 u2, by omega⟩) (by kernel_rfl))) ?_)
  rintro e a2 w2 (⟨x, env, rfl, hf2, hag, rfl, rfl, B1, B2, u2, z2⟩ | ⟨v, rfl, hkp, hr⟩)
  rotate_left
  . exact hr.elim
  show WpAt Tryz.prog b _ _ a2 w2; generalize hp2 : Value.pointer (some ⟨w.heap.size, 0, none⟩) = p2 at hf2; generalize hp3 : Value.pointer (some ⟨w.heap.size + 1, 0, none⟩) = p3 at hf2
  refine wpAt_seq hb (wpAt_mono (atVcD (px := ⟨[], false⟩) (ann := ⟨[], [], []⟩) (rs := []) (R1 := fun _ _ => False) (R2 := fun _ _ _ _ => False) (Q1 := fun _ _ _ => False) (Q2 := fun _ d x env w' => d = ⟨.fn (.func 113) #[p2, p3], #[]⟩ /\ x = .normal /\ env = (6, Value.func (.func 113) #[] #[p2, p3]) :: (3, p3) :: (2, p2) :: Go.SX.argE [.string s] 0 /\ w' = w2) hb hf2
    (of_eq (p := (⟨.fn (.func 113) #[p2, p3], #[]⟩ : Deferred) = ⟨.fn (.func 113) #[p2, p3], #[]⟩ /\ X.normal = .normal /\ (6, Value.func (.func 113) #[] #[p2, p3]) :: (3, p3) :: (2, p2) :: Go.SX.argE [.string s] 0 = (6, Value.func (.func 113) #[] #[p2, p3]) :: (3, p3) :: (2, p2) :: Go.SX.argE [.string s] 0 /\ w2 = w2) ⟨rfl, rfl, rfl, rfl⟩ (by kernel_rfl))) ?_)
  rintro e a3 w3 ((⟨x, env, _, _, _, h⟩ | ⟨v, _, _, h⟩) | ⟨e0, d, ⟨x, env, rfl, hf3, _, rfl, rfl, rfl, rfl⟩ | ⟨v, _, _, _, h⟩⟩)
  . exact h.elim
  . exact h.elim
  rotate_left
  . exact h.elim
  show WpAt Tryz.prog b _ _ a3 w3
  refine wpAt_seq hb (wpAt_mono (atVc (px := ⟨[], false⟩) (ann := ⟨[], [], []⟩) (R := fun _ _ => False) (Q := fun x env w4 => x = .normal /\ env = (4, Value.pointer (some ⟨w3.heap.size, 0, none⟩)) :: (6, Value.func (.func 113) #[] #[p2, p3]) :: (3, p3) :: (2, p2) :: Go.SX.argE [.string s] 0 /\ Blk w4 w3.heap.size #[.slice none 0 0] 53 /\ Upd No w3 w4 /\ w4.heap.size = w3.heap.size + 1) hb hf3
    (of_eq (p := newC w3 (Obj.cells #[.slice none 0 0] 53) fun k w4 => (X.normal = .normal /\ (4, Value.pointer (some ⟨k, 0, none⟩)) :: (6, Value.func (.func 113) #[] #[p2, p3]) :: (3, p3) :: (2, p2) :: Go.SX.argE [.string s] 0 = (4, Value.pointer (some ⟨w3.heap.size, 0, none⟩)) :: (6, Value.func (.func 113) #[] #[p2, p3]) :: (3, p3) :: (2, p2) :: Go.SX.argE [.string s] 0 /\ Blk w4 w3.heap.size #[.slice none 0 0] 53 /\ Upd No w3 w4 /\ w4.heap.size = w3.heap.size + 1))
      (newC_mk fun w4 B4 u4 s4 => ⟨rfl, rfl, B4, u4, s4⟩) (by kernel_rfl))) ?_)
  rintro e a4 w4 (⟨x, env, rfl, hf4, _, rfl, rfl, B4, u4, z4⟩ | ⟨v, _, _, h⟩)
  rotate_left
  . exact h.elim
  show WpAt Tryz.prog b _ _ a4 w4; generalize hp4 : Value.pointer (some ⟨w3.heap.size, 0, none⟩) = p4 at hf4
  refine wpAt_seq hb (wpAt_seq hb (wpAt_mono (atVc (px := ⟨[], false⟩) (ann := ⟨[], [], []⟩) (R := fun _ _ => False) (Q := fun x env w5 => x = .normal /\ env = (8, Value.func (.func 199) #[] #[.pointer (some ⟨w4.heap.size + 1, 0, none⟩), .pointer (some ⟨w4.heap.size, 0, none⟩), .pointer (some ⟨w4.heap.size + 2, 0, none⟩)]) :: (7, .string s) :: (4, p4) :: (6, Value.func (.func 113) #[] #[p2, p3]) :: (3, p3) :: (2, p2) :: Go.SX.argE [.string s] 0 /\ Its w5 (w4.heap.size + 1) w4.heap.size (w4.heap.size + 2) s /\ Upd No w4 w5 /\ w5.heap.size = w4.heap.size + 3) hb hf4
    (of_eq (p := callC Tryz.prog 114 #[.string s, .string (ByteArray.mk #[47])] w4 fun v w5 => ∃ v', v = v' /\ (X.normal = .normal /\ (8, v') :: (7, Value.string s) :: (4, p4) :: (6, Value.func (.func 113) #[] #[p2, p3]) :: (3, p3) :: (2, p2) :: Go.SX.argE [.string s] 0 = (8, Value.func (.func 199) #[] #[.pointer (some ⟨w4.heap.size + 1, 0, none⟩), .pointer (some ⟨w4.heap.size, 0, none⟩), .pointer (some ⟨w4.heap.size + 2, 0, none⟩)]) :: (7, .string s) :: (4, p4) :: (6, Value.func (.func 113) #[] #[p2, p3]) :: (3, p3) :: (2, p2) :: Go.SX.argE [.string s] 0 /\ Its w5 (w4.heap.size + 1) w4.heap.size (w4.heap.size + 2) s /\ Upd No w4 w5 /\ w5.heap.size = w4.heap.size + 3))
      (splitseq_text _ _ _ _ (splitseq0_text _ _ _ _ _ (newC_mk fun w5 B5 u5 s5 => newC_mk fun w6 B6 u6 s6 => newC_mk fun w7 B7 u7 s7 => ⟨_, rfl, _, rfl, rfl, by rw [s6, s5], ⟨by rw [<- s5]; exact B6.upd u7 id, (B5.upd u6 id).upd u7 id, by rw [s6, s5] at B7; exact B7, by omega, by omega⟩, up (up u5 u6) u7, by omega⟩))) (by kernel_rfl))) ?_))
  rintro e a5 w5 (⟨x, env, rfl, hf5, _, rfl, rfl, hI5, u5, z5⟩ | ⟨v, _, _, h⟩)
  rotate_left
  . exact h.elim
  show WpAt Tryz.prog b _ _ a5 w5; have hz4 : w4.heap.size = w.heap.size + 3 := by omega
  have hz5 : w5.heap.size = w.heap.size + 6 := by omega
  have C2 : Blk w5 w.heap.size #[.string .empty] 9 := ((B1.upd u4 id).upd u5 id); have C3 : Blk w5 (w.heap.size + 1) #[.int .i64 0] 32 := ((B2.upd u4 id).upd u5 id); have C4 : Blk w5 w3.heap.size #[.slice none 0 0] 53 := B4.upd u5 id; have U5 : Upd No w w5 := up (up u2 u4) u5; have hz3 : w3.heap.size = w.heap.size + 2 := z2; rw [hz4] at hI5 hf5; rw [hz3] at C4 hp4; clear B1 B2 B4 u2 u4 u5 z2 z4 z5 hf2 hf3 hf4 hag
  refine wpAt_block hb (wpAt_mono (rangeX (K := fun _ _ => True) (R := fun _ _ => True) (gf := 199) (lb := #[.pointer (some ⟨w.heap.size + 3 + 1, 0, none⟩), .pointer (some ⟨w.heap.size + 3, 0, none⟩), .pointer (some ⟨w.heap.size + 3 + 2, 0, none⟩)]) hb ((hf5.eval _).trans rfl) (enters_of Tryz.func199 (by kernel_rfl) rfl) (Q := fun e a w' => a = { a5 with defers := { target := .collected w5.heap.size, args := #[] } :: a5.defers } /\
    ∃ o, o = foldC [] (pcs (s.size + 1) (txt s)) /\ Upd (fun b => b = w.heap.size + 2 \/ b = w.heap.size + 3 \/ b = w5.heap.size + 1) w5 w' /\ w'.heap[w5.heap.size]? = some (.deferred (some [])) /\
      ((o = none /\ e = .panic [{ v := noneV, recovered := false }]) \/ ∃ st, o = some st /\ e = .normal /\ ∃ v, Blk w' (w.heap.size + 2) #[v] 53 /\ RowAt w' 9 1 v (st.map Value.string))) fun rec hrec => ?_) ?_)
  . have bfn : b.fn = 71 := hbf
    have hW0 : ((w5.alloc (.deferred (some []))).alloc (.loop (rec .ready none))).heap[w5.heap.size]? = some (.deferred (some [])) := by
      have := upd_alloc (w5.alloc (.deferred (some []))) (.loop (rec .ready none)); rw [this.block _ (by simp) id]; exact World.alloc_heap_new w5 _
    have hW1 : ((w5.alloc (.deferred (some []))).alloc (.loop (rec .ready none))).heap[w5.heap.size + 1]? = some (.loop (rec .ready none)) := by
      have := World.alloc_heap_new (w5.alloc (.deferred (some []))) (.loop (rec .ready none)); simpa using this
    have hWs : ((w5.alloc (.deferred (some []))).alloc (.loop (rec .ready none))).heap.size = w5.heap.size + 2 := by simp
    have hWu : Upd No w5 ((w5.alloc (.deferred (some []))).alloc (.loop (rec .ready none))) := up (upd_alloc _ _) (upd_alloc _ _); generalize (w5.alloc (.deferred (some []))).alloc (.loop (rec .ready none)) = W1 at *; show callX Tryz.prog 199 #[.func (.yield (w5.heap.size + 1)) #[] #[], .pointer (some ⟨w.heap.size + 3 + 1, 0, none⟩), .pointer (some ⟨w.heap.size + 3, 0, none⟩), .pointer (some ⟨w.heap.size + 3 + 2, 0, none⟩)] W1 _ _; have fin : ∀ {w'}, Upd (fun b => b = w.heap.size + 2 \/ b = w.heap.size + 3 \/ b = w5.heap.size + 1) W1 w' -> Upd (fun b => b = w.heap.size + 2 \/ b = w.heap.size + 3 \/ b = w5.heap.size + 1) w5 w' /\ w'.heap[w5.heap.size]? = some (.deferred (some [])) := fun u => ⟨hWu.no.trans u fun _ _ h => h, by rw [u.block _ (by omega) (by omega)]; exact hW0⟩; refine split_c (J := fun st w' => Cl W1 (w.heap.size + 2) (w.heap.size + 3) (w5.heap.size + 1) (.loop (rec .ready none)) st w') (J' := fun w' => Upd (fun b => b = w.heap.size + 2 \/ b = w.heap.size + 3 \/ b = w5.heap.size + 1) W1 w') (fun st w w' h u => h.its ⟨by omega, by omega⟩ u) ?_ (st := []) (s := s) (fu := s.size + 1) (by omega) (by simpa using hs) ?_ ?_ ?_ ?_
    . intro st s2 x w2 K2 R2 hj hst hi hx hk2 hr2; have hloop := hj.loop; have e1 : ({ rec .ready none with state := .busy } : Loop) = rec .busy none := by rw [hrec]
      have e2 : ({ rec .busy none with state := .ready, pending := none } : Loop) = rec .ready none := by rw [hrec]
      have e3 : (rec .ready none).fn = 71 := by rw [hrec]; exact bfn
      have e4 : (rec .ready none).params = #[9] := by rw [hrec]
      have e5 : (rec .ready none).tmps = a5.tmps := by rw [hrec]
      have e6 : (rec .ready none).assign = .region 4 #[⟨some 5, .assign (.tmp 9), 9, "path.go:48", #[], none⟩] false := by rw [hrec]
      have e7 : (rec .ready none).body = (bodyC Tryz.f71.body) := by rw [hrec]; kernel_rfl
      have e8 : (rec .ready none).state = .ready := by rw [hrec]
      clear hrec; have hj2 := hj.put (by omega) (.loop (rec .busy none)); have hlt2 := hj.up.size; have hu2 := upd_put w2 (w5.heap.size + 1) (.loop (rec .busy none)); subst hp2 hp3 hp4; have hzip : ∀ T : Array Value, ((#[9] : Array Nat).zip #[Value.string x]).foldl (fun tmps (t, a) => tmps.setIfInBounds t a) T = T.setIfInBounds 9 (.string x) := fun T => by simp
      have hyl := run_yield (P := Tryz.prog) (args := #[Value.string x]) hloop (by rw [e4]; rfl); rw [e4, e5, e3, e6, e7, hzip] at hyl; refine ⟨_, rfl, _, _, _, _, hyl, ?_⟩
      refine round_of_vc (n := 43) (env := Go.SX.argE [.string s, undef, .pointer (some ⟨w.heap.size, 0, none⟩), .pointer (some ⟨w.heap.size + 1, 0, none⟩), .pointer (some ⟨w.heap.size + 2, 0, none⟩), undef, Value.func (.func 113) #[] #[.pointer (some ⟨w.heap.size, 0, none⟩), .pointer (some ⟨w.heap.size + 1, 0, none⟩)], .string s, Value.func (.func 199) #[] #[.pointer (some ⟨w.heap.size + 3 + 1, 0, none⟩), .pointer (some ⟨w.heap.size + 3, 0, none⟩), .pointer (some ⟨w.heap.size + 3 + 2, 0, none⟩)], .string x] 0) (px := ⟨[115], false⟩) (ann := ⟨[(10, [(18, .bool)])], [], []⟩) (Rp := R2)
        Tryz.func71 rfl (by kernel_rfl) ?_ hloop e8 ?_ fun v w h => h
      . have h0 := (hf5.put (some 9) (.string x)); refine ⟨h0.size, rfl, fun i => (h0.at_ i).trans ?_⟩
        match i with
        | 0 => rfl
        | 1 => rfl
        | 2 => rfl
        | 3 => rfl
        | 4 => rfl
        | 5 => rfl
        | 6 => rfl
        | 7 => rfl
        | 8 => rfl
        | 9 => rfl
        | i + 10 => rfl
      . rw [e1]
        have hA : ∀ st', stepC st x = some st' -> ∀ w', Cl W1 (w.heap.size + 2) (w.heap.size + 3) (w5.heap.size + 1) (.loop (rec .busy none)) st' w' -> Upd (fun b => b = w.heap.size + 2 \/ W1.heap.size <= b) (w2.putObj (w5.heap.size + 1) (.loop (rec .busy none))) w' -> ∃ r', w'.heap[w5.heap.size + 1]? = some (.loop r') /\ endK K2 R2 (.returned (.bool true)) (w'.putObj (w5.heap.size + 1) (.loop { r' with state := .ready, pending := none })) := by
          intro st' hst' w' h u'; have U := ((hu2.mono (T := fun b => b = w.heap.size + 2 \/ b = w5.heap.size + 1 \/ W1.heap.size <= b) fun y _ e => .inr (.inl e)).trans u' fun y _ h => by rcases h with h | h; exact .inl h; exact .inr (.inr h)); have U2 := U.trans (upd_put w' (w5.heap.size + 1) (.loop (rec .ready none))) fun y _ (e : y = _) => .inr (.inl e); have key := hk2 st' hst' _ (h.put (by omega) (.loop (rec .ready none))) ⟨hi.a.upd U2 (by omega), hi.b.upd U2 (by omega), hi.c.upd U2 (by omega), hi.ne⟩; refine ⟨_, h.loop, ?_⟩; rw [e2]; exact key
        have key1 := round_c (s := s) (k2 := w.heap.size) (k3 := w.heap.size + 1) (fc := Value.func (.func 113) #[] #[.pointer (some ⟨w.heap.size, 0, none⟩), .pointer (some ⟨w.heap.size + 1, 0, none⟩)]) (it := Value.func (.func 199) #[] #[.pointer (some ⟨w.heap.size + 3 + 1, 0, none⟩), .pointer (some ⟨w.heap.size + 3, 0, none⟩), .pointer (some ⟨w.heap.size + 3 + 2, 0, none⟩)])
          (K := fun _ w' => ∃ r', w'.heap[w5.heap.size + 1]? = some (.loop r') /\ endK K2 R2 (.returned (.bool true)) (w'.putObj (w5.heap.size + 1) (.loop { r' with state := .ready, pending := none }))) (R := R2) hj2 (by omega) (by omega) hx hA fun hn w' u => hr2 hn w' u
        have key2 := vcFunX_out (c := .seq (.region 4 #[⟨some 5, .assign (.tmp 9), 9, "path.go:48", #[], none⟩] false) (bodyC Tryz.f71.body)) (by kernel_rfl) key1; have hn : max [Value.string s, undef, .pointer (some ⟨w.heap.size, 0, none⟩), .pointer (some ⟨w.heap.size + 1, 0, none⟩), .pointer (some ⟨w.heap.size + 2, 0, none⟩), undef, Value.func (.func 113) #[] #[.pointer (some ⟨w.heap.size, 0, none⟩), .pointer (some ⟨w.heap.size + 1, 0, none⟩)], .string s, Value.func (.func 199) #[] #[.pointer (some ⟨w.heap.size + 3 + 1, 0, none⟩), .pointer (some ⟨w.heap.size + 3, 0, none⟩), .pointer (some ⟨w.heap.size + 3 + 2, 0, none⟩)], .string x].length Tryz.f71.ntmps = 43 := by kernel_rfl
        rw [hn] at key2; exact vc_assign rfl (by kernel_rfl) key2
    . exact ⟨⟨_, C4.upd hWu id, RowAt.nil _ _ _, fun b hb => (no_in b hb).elim⟩, hW1, Upd.refl _ _, by omega, by omega, by omega⟩
    . exact ⟨hI5.a.upd hWu id, hI5.b.upd hWu id, hI5.c.upd hWu id, hI5.ne⟩
    . intro st' hst' w' h; obtain ⟨h1, h2⟩ := fin (h.put (by omega) (.loop (rec .exhausted none))).up; obtain ⟨v, a, b, _⟩ := (h.put (by omega) (.loop (rec .exhausted none))).row; exact ⟨h.loop, rfl, _, hst'.symm, h1, h2, .inr ⟨st', rfl, rfl, v, a, b⟩⟩
    . intro hn w' u; obtain ⟨h1, h2⟩ := fin u; exact ⟨rfl, _, hn.symm, h1, h2, .inl ⟨rfl, rfl⟩⟩
  . rintro e a6 w6 ⟨rfl, o, ho, u6, hd6, (⟨rfl, rfl⟩ | ⟨st, rfl, rfl, v, bv, rv⟩)⟩
    . -- it gave up
      show pastMark Tryz.prog _ (endK K fun _ _ => False) _ _ w6; have e5 := hs2 ho.symm; have u7 := upd_put w6 w5.heap.size (.deferred none); subst hp2 hp3; have D2 := (C2.upd u6 (by omega)).upd u7 (by omega); have D3 := (C3.upd u6 (by omega)).upd u7 (by omega); refine ⟨w5.heap.size, _, [_], congrArg (List.cons _) hf5.defers, run_takeDeferred hd6, by simp, _, _, _, _, rfl, rfl, (cleanD_rec D2 D3 (by omega)).mono ?_⟩; rintro e u w8 ⟨rfl, rfl, rfl⟩; have F2 := (D2.set 0 (.string .empty)).upd (upd_setCell _ (w.heap.size + 1) 0 (.int .i64 6)) (by omega); have F3 := (D3.upd (upd_setCell _ w.heap.size 0 (.string .empty)) (by omega)).set 0 (.int .i64 6); refine res_run (fn := Tryz.f71) (a := { a5 with defers := [] }) (res_slots fun i _ => hf5.at_ i) (res_c (k2 := w.heap.size) (k3 := w.heap.size + 1) rfl rfl (F2.cell rfl) (F3.cell rfl) ?_); have := hk ((((w6.putObj w5.heap.size (.deferred none)).setCell ⟨w.heap.size, 0, none⟩ (.string .empty)).setCell ⟨w.heap.size + 1, 0, none⟩ (.int .i64 6))) 6 (by rw [e5]; simp) ?_
      . rw [e5] at this; exact this
      . exact (((U5.trans u6 fun y hy h => by omega).trans u7 fun y hy (e : y = _) => by omega).trans (upd_setCell _ w.heap.size 0 _) fun y hy (e : y = _) => by omega).trans (upd_setCell _ (w.heap.size + 1) 0 _) fun y hy (e : y = _) => by omega
    . -- it came through
      obtain ⟨x, rfl, hrx⟩ := hs1 st ho.symm; subst hrx; show WpAt Tryz.prog b _ _ _ w6; subst hp2 hp3 hp4; have D2 := C2.upd u6 (by omega); have D3 := C3.upd u6 (by omega); obtain ⟨p, n, c, rfl, hn, hnc, hcm⟩ := rv.shape; have hn : n = 1 := by simp at hn; omega
      have hfit : Fits 43 [{ target := .collected w5.heap.size, args := #[] }, ⟨.fn (.func 113) #[.pointer (some ⟨w.heap.size, 0, none⟩), .pointer (some ⟨w.heap.size + 1, 0, none⟩)], #[]⟩] (Go.SX.argE [.string s, undef, .pointer (some ⟨w.heap.size, 0, none⟩), .pointer (some ⟨w.heap.size + 1, 0, none⟩), .pointer (some ⟨w.heap.size + 2, 0, none⟩), undef, Value.func (.func 113) #[] #[.pointer (some ⟨w.heap.size, 0, none⟩), .pointer (some ⟨w.heap.size + 1, 0, none⟩)], .string s, Value.func (.func 199) #[] #[.pointer (some ⟨w.heap.size + 3 + 1, 0, none⟩), .pointer (some ⟨w.heap.size + 3, 0, none⟩), .pointer (some ⟨w.heap.size + 3 + 2, 0, none⟩)]] 0) { a5 with defers := { target := .collected w5.heap.size, args := #[] } :: a5.defers } := by
        refine ⟨hf5.size, congrArg (List.cons _) hf5.defers, fun i => (hf5.at_ i).trans ?_⟩
        match i with
        | 0 => rfl
        | 1 => rfl
        | 2 => rfl
        | 3 => rfl
        | 4 => rfl
        | 5 => rfl
        | 6 => rfl
        | 7 => rfl
        | 8 => rfl
        | i + 9 => rfl
      have key1 := after71 s w.heap.size (w.heap.size + 1) (w.heap.size + 2) (Value.func (.func 113) #[] #[.pointer (some ⟨w.heap.size, 0, none⟩), .pointer (some ⟨w.heap.size + 1, 0, none⟩)]) (Value.func (.func 199) #[] #[.pointer (some ⟨w.heap.size + 3 + 1, 0, none⟩), .pointer (some ⟨w.heap.size + 3, 0, none⟩), .pointer (some ⟨w.heap.size + 3 + 2, 0, none⟩)]) w6 (fun _ w' => Blk w' w.heap.size #[.string x] 9 /\ Blk w' (w.heap.size + 1) #[.int .i64 0] 32 /\ Upd (fun b => b = w.heap.size \/ b = w.heap.size + 1) w6 w') (fun _ _ => False)
        ⟨fun w' => w' = w6, fun w1 e _ => by
          subst e
          refine ⟨p, n, c, bv.cell rfl, join_c rv ⟨_, rfl, stC_mk D2 (by simp) fun w7 B7 u7 _ => stC_mk (D3.upd u7 (by omega)) (by simp) fun w8 B8 u8 _ => ⟨B7.upd u8 (by omega), B8, (u7.mono fun y _ e => .inl e).trans u8 fun y _ e => .inr e⟩⟩⟩,
          p, n, c, bv.cell rfl, brC_tt (by subst hn; rfl) ⟨p, n, c, bv.cell rfl, gmust_c (fun _ => ⟨rfl, rfl⟩) fun h => by subst hn; cases h⟩⟩
      have key2 := vcFunX_out rfl key1; have hn43 : max [Value.string s, undef, .pointer (some ⟨w.heap.size, 0, none⟩), .pointer (some ⟨w.heap.size + 1, 0, none⟩), .pointer (some ⟨w.heap.size + 2, 0, none⟩), undef, Value.func (.func 113) #[] #[.pointer (some ⟨w.heap.size, 0, none⟩), .pointer (some ⟨w.heap.size + 1, 0, none⟩)], .string s, Value.func (.func 199) #[] #[.pointer (some ⟨w.heap.size + 3 + 1, 0, none⟩), .pointer (some ⟨w.heap.size + 3, 0, none⟩), .pointer (some ⟨w.heap.size + 3 + 2, 0, none⟩)]].length Tryz.f71.ntmps = 43 := by kernel_rfl
      rw [hn43] at key2; refine wpAt_mono (atVc hb hfit key2) ?_
      have out : ∀ (a7 : Act) (w7 : World), a7.defers = [{ target := .collected w5.heap.size, args := #[] }, ⟨.fn (.func 113) #[.pointer (some ⟨w.heap.size, 0, none⟩), .pointer (some ⟨w.heap.size + 1, 0, none⟩)], #[]⟩] -> a7.tmps.getD 2 undef = .pointer (some ⟨w.heap.size, 0, none⟩) -> a7.tmps.getD 3 undef = .pointer (some ⟨w.heap.size + 1, 0, none⟩) ->
          Blk w7 w.heap.size #[.string x] 9 -> Blk w7 (w.heap.size + 1) #[.int .i64 0] 32 -> Upd (fun b => b = w.heap.size \/ b = w.heap.size + 1) w6 w7 -> pastMark Tryz.prog Tryz.f71 (endK K fun _ _ => False) a7 .returning w7 := fun a7 w7 h1 h2 h3 G2 G3 u7 => by
        have u8 := upd_put w7 w5.heap.size (.deferred none)
        have hd7 : w7.heap[w5.heap.size]? = some (.deferred (some [])) := by
          have : w5.heap.size < w6.heap.size := (Array.getElem?_eq_some_iff.1 hd6).1; rw [u7.block _ this (by omega)]; exact hd6
        refine ⟨w5.heap.size, _, [_], h1, run_takeDeferred hd7, by simp, _, _, _, _, rfl, rfl, (cleanD_idle _ _ _).mono ?_⟩; rintro e u w8 ⟨rfl, rfl, rfl⟩; refine res_run (fn := Tryz.f71) (a := { a7 with defers := [] }) (env := [(2, .pointer (some ⟨w.heap.size, 0, none⟩)), (3, .pointer (some ⟨w.heap.size + 1, 0, none⟩))]) (res_slots fun i hi => ?_) (res_c (k2 := w.heap.size) (k3 := w.heap.size + 1) rfl rfl ((G2.upd u8 (by omega)).cell rfl) ((G3.upd u8 (by omega)).cell rfl) ?_)
        . have hi : i ∈ [2, 3] := hi; simp only [List.mem_cons, List.not_mem_nil, or_false] at hi; rcases hi with rfl | rfl
          . exact h2
          . exact h3
        . exact hk _ 0 (by simp) (((U5.trans u6 fun y hy h => by omega).trans u7 fun y hy h => by omega).trans u8 fun y hy (e : y = _) => by omega)
      rintro e a7 w7 (⟨xx, env, rfl, hf7, hag, hq⟩ | ⟨v, _, _, h⟩)
      rotate_left
      . exact h.elim
      have g2 : Go.SX.look env 2 = .pointer (some ⟨w.heap.size, 0, none⟩) := (hag 2 (by decide)).trans rfl; have g3 : Go.SX.look env 3 = .pointer (some ⟨w.heap.size + 1, 0, none⟩) := (hag 3 (by decide)).trans rfl
      cases xx with
      | exit id => exact hq.elim
      | normal => exact out a7 w7 hf7.defers ((hf7.at_ 2).trans g2) ((hf7.at_ 3).trans g3) hq.1 hq.2.1 hq.2.2
      | ret => exact out a7 w7 hf7.defers ((hf7.at_ 2).trans g2) ((hf7.at_ 3).trans g3) hq.1 hq.2.1 hq.2.2
end Go.Proofs.YtdbkclnlfibgdaaGreatDoor
namespace Go.Proofs.YtdbkclnlfibgdaaGreatDoor
open Go.SX Go.Ty Go.MapKept Go.RowKit Go.Tx
def src1 : ByteArray := ByteArray.mk #[105, 109, 112, 111, 114, 116, 32, 34, 108, 34, 32, 97, 115, 32, 117, 32, 116, 121, 112, 101, 32, 84, 32, 61, 32, 123, 97, 58, 32, 84, 44, 32, 98, 58, 32, 117, 46, 86, 125, 32, 116, 121, 112, 101, 32, 84, 32, 61, 32, 105, 110, 116, 32, 105, 109, 112, 111, 114, 116, 32, 34, 120, 34, 32, 97, 115, 32, 117]
def bU : ByteArray := ByteArray.mk #[117]
def bT : ByteArray := ByteArray.mk #[84]
def dsOf (s : ByteArray) : List Dc := (parseA s).getD []
theorem parse_of {s : ByteArray} (h : (parseA s).isSome = true) : parseA s = some (dsOf s) := by
  unfold dsOf
  cases e : parseA s with
  | none => rw [e] at h; cases h
  | some l => rfl
def dsOkB (l : List Dc) : Bool := decide (l.length <= 100) && l.all fun d => decide (xsz d.t <= 1000000) && decide (d.name.size <= 1000000)
theorem dsOk_of {l : List Dc} (h : dsOkB l = true) : DsOk (l.map some) := by
  unfold dsOkB at h; rw [Bool.and_eq_true, List.all_eq_true] at h; refine ⟨by rw [List.length_map]; exact of_decide_eq_true h.1, fun d hd => ?_⟩; obtain ⟨d', hd', e⟩ := List.mem_map.1 hd; cases e; have := h.2 d hd'; rw [Bool.and_eq_true] at this; exact ⟨of_decide_eq_true this.1, of_decide_eq_true this.2⟩
def cl1 (s : ByteArray) : Option ByteArray := match foldC [] (pcs (s.size + 1) (txt s)) with
  | some [p] => some p
  | _ => none
def clB (s : ByteArray) : Bool := decide (s.size <= 1000) && (match foldC [] (pcs (s.size + 1) (txt s)) with | some [_] => true | none => true | _ => false)
theorem clean_of {s : ByteArray} (h : clB s = true) : CleanOk s (cl1 s) := by
  unfold clB at h; rw [Bool.and_eq_true] at h; have h2 := h.2; refine Clean_ok (of_decide_eq_true h.1) (fun st e => ?_) fun e => ?_
  . rw [e] at h2; unfold cl1; rw [e]
    match st, h2 with
    | [p], _ => exact ⟨p, rfl, rfl⟩
  . unfold cl1; rw [e]
def clsB (l : List Dc) : Bool := l.all fun d => !decide (d.kind = 1) || clB d.text
theorem cls_of {l : List Dc} (h : clsB l = true) : ∀ d ∈ l, d.kind = 1 -> CleanOk d.text (cl1 d.text) := fun d hd h1 => by
  have := List.all_eq_true.1 h d hd; rw [h1] at this; exact clean_of (by simpa using this)
def scOf (s : ByteArray) : Sc × List Dg := newF bM cl1 libF ((dsOf s).map some)
theorem src1_ok : (parseA src1).isSome = true /\ dsOkB (dsOf src1) = true /\ clsB (dsOf src1) = true := by decide +kernel
theorem src1_told : (scOf src1).2 = [(40, 4), (53, 4)] := by decide +kernel
def S1 : Sc := (scOf src1).1
def bmT : ByteArray := ByteArray.mk #[109, 46, 84]
def blV : ByteArray := ByteArray.mk #[108, 46, 86]
def bG : ByteArray := ByteArray.mk #[103]
def bV2 : ByteArray := ByteArray.mk #[118]
def bAny : ByteArray := ByteArray.mk #[97, 110, 121]
def tOf (s : ByteArray) : Wt := (writtenF s).getD .nil
theorem written_of {s : ByteArray} (h : (writtenF s).isSome = true) : writtenF s = some (tOf s) := by
  unfold tOf
  cases e : writtenF s with
  | none => rw [e] at h; cases h
  | some l => rfl
theorem S1_own : S1.owns.length = 1 /\ (sort2 S1.owns).map (·.1) = [bT] /\ (sort2 S1.owns).map (fun x => bs (text x.2)) = [ByteArray.mk #[123, 97, 58, 32, 109, 46, 84, 44, 32, 98, 58, 32, 108, 46, 86, 125]] /\ (sort2 S1.owns).map (fun x => same ((bodyF S1 bmT).getD .nil) x.2) = [true] := by decide +kernel
theorem S1_body : (bodyF S1 bmT).isSome = true /\ (bodyF S1 blV).isSome = true /\ bs (text ((bodyF S1 blV).getD .nil)) = ByteArray.mk #[115, 116, 114] /\ (bodyF S1 bT).isSome = false := by decide +kernel
theorem S1_val : (valueF S1 bU bF).2 = (true, true) /\ bs (text (valueF S1 bU bF).1) = ByteArray.mk #[102, 110, 40, 41, 32, 45, 62, 32, 108, 46, 86] /\ (valueF S1 bU bG).2 = (true, false) /\ (valueF S1 bV2 bF).2 = (false, false) := by decide +kernel
def m1 : ByteArray := ByteArray.mk #[117, 46, 87]
def m2 : ByteArray := ByteArray.mk #[118, 46, 86]
def m3 : ByteArray := ByteArray.mk #[123, 97, 58, 32, 105, 110, 116, 44, 32, 97, 58, 32, 105, 110, 116, 125]
theorem S1_means : [m1, m2, m3].all (fun m => (writtenF m).isSome && decide (xsz (tOf m) <= 1000000)) = true /\ meansF S1 (tOf m1) bAny 5 = true /\ meansF S1 (tOf m2) bAny 5 = true /\ meansF S1 (tOf m3) bAny 4 = true := by decide +kernel
theorem n_tt {b : Bool} (h : b = true) : (!b) = false := by rw [h]; rfl
theorem n_ff {b : Bool} (h : b = false) : (!b) = true := by rw [h]; rfl
theorem tl_eq {x y : ByteArray} (h : x = y) : (x.toList == y.toList) = true := by rw [h]; exact beq_self_eq_true _
theorem diag_und : Tryz.prog.underlying 35 = some (.struct (Tryz.prog.fieldsOf 35)) := by kernel_rfl
theorem diag_flat (s s' : ByteArray) (a a' c c' : Int) : eqFlat Tryz.prog #[.string s, .int .i64 a, .int .i64 c] #[.string s', .int .i64 a', .int .i64 c'] (Tryz.prog.fieldsOf 35).toList = some (s.toList == s'.toList && (a == a' && (c == c' && true))) := by kernel_rfl
theorem diag_eq {s s' : ByteArray} {a a' c c' : Int} (n m : Nat) (w : World) : (eqSem .neq 35 (.tmp n) (.tmp m) (.agg #[.string s, .int .i64 a, .int .i64 c]) (.agg #[.string s', .int .i64 a', .int .i64 c'])).run Tryz.prog w = .ok (.bool !(s.toList == s'.toList && (a == a' && (c == c' && true)))) w :=
  (eqSem_run diag_und (by kernel_rfl) (by kernel_rfl) (diag_flat s s' a a' c c') _ _ w).2
theorem works_c {w : World} {K : KV} (g : Gl w) (hk : ∀ w', Upd No w w' -> K (.bool true) w') : callC Tryz.prog 7 #[] w K := by
  refine works_text _ _ (scope_c (cl := cl1) (s := src1) g (by decide) (parse_of src1_ok.1) (dsOk_of src1_ok.2.1) (cls_of src1_ok.2.2) fun q p n c w1 hS hrow okS u1 => ⟨_, _, _, _, _, rfl, ?_⟩); have hS : ScAt w1 q S1 := hS; have okS : ScOk S1 := okS; have hrow : RowAt w1 35 3 (.slice p n c) (dgCells bM (scOf src1).2) := hrow; rw [src1_told] at hrow; obtain ⟨p', n', c', e, hn, _, _⟩ := hrow.shape; cases e; have hn : n = 2 := by simp [dgCells] at hn; omega
  subst hn; obtain ⟨g0, o0, rfl, h0⟩ := hrow.get (j := 0) (by simp [dgCells])
  have cell : ∀ j, j < 6 -> w1.cell? ⟨g0, o0 + j, none⟩ = (dgCells bM [(40, 4), (53, 4)])[j]? := fun j hj => by
    obtain ⟨g', o', e, h⟩ := hrow.get (j := j) (by simpa [dgCells] using hj); cases e; exact h
  have gg := g.keep u1; refine ⟨fun w' => Upd No w1 w', ?_, fun b w' => b = false /\ w' = w1, ?_, brC_ff rfl (brC_ff rfl ⟨by omega, by omega, ptrC_some ⟨bM, h0, 40, by rw [add_mk]; exact cell 1 (by omega), 4, by rw [add_mk]; exact cell 2 (by omega), ?_⟩⟩)⟩
  rotate_left
  . rintro b w2 ⟨rfl, rfl⟩ _; exact brC_ff rfl (Upd.refl _ _)
  . refine ⟨.bool !(bM.toList == bM.toList && ((40 : Int) == 40 && ((4 : Int) == 4 && true))), ⟨_, rfl, brC_ff (by decide +kernel) ⟨by omega, by omega, ptrC_some ⟨4, by rw [add_mk, add_mk]; exact cell 5 (by omega), rfl, rfl⟩⟩⟩, fun w' e => by cases e; exact diag_eq _ _ _⟩
  intro w8 u8 _; have hS8 := hS.keep u8; refine Types_c hS8 (by rw [S1_own.1]; omega) fun p12 n13 c14 w11 hE hn u11 => ⟨_, _, _, rfl, ?_⟩; rw [S1_own.1] at hn; subst hn; refine Body_c (hS8.keep u11) okS fun q17 w16 h16 u16 => ⟨_, _, rfl, ?_⟩; refine Body_c ((hS8.keep u11).keep u16) okS fun q21 w20 h20 u20 => ⟨_, _, rfl, ?_⟩; have U20 := up (up u11 u16) u20; refine Body_c (hS8.keep U20) okS fun q25 w24 h24 u24 => ⟨_, _, rfl, ?_⟩; have U24 := up U20 u24; have hE24 : ExAt w24 p12 (sort2 S1.owns) := hE.keep (up (up u16 u20) u24)
  obtain ⟨x, hx⟩ : ∃ x, sort2 S1.owns = [x] := by
    have := congrArg List.length S1_own.2.1; simp only [List.length_map] at this; exact List.length_eq_one_iff.1 this
  obtain ⟨_, f1, f2, f3⟩ := S1_own; rw [hx] at f1 f2 f3 hE24; simp only [List.map_cons, List.map_nil, List.cons.injEq, and_true] at f1 f2 f3; obtain ⟨b1, b2, b3, b4⟩ := S1_body; obtain ⟨a64, q64, rfl, c1, c2, hAt⟩ := hE24 0 (by simp); have hAt : At w24 (.pointer q64) x.2 := hAt; have c1 : w24.cell? a64 = some (.string bT) := by rw [<- f1]; simpa [addr_add_zero] using c1
  have c2 : w24.cell? (Addr.add a64 1) = some (.pointer q64) := by simpa [addr_add_zero] using c2
  have hmean : ∀ m ∈ [m1, m2, m3], writtenF m = some (tOf m) /\ xsz (tOf m) <= 1000000 := fun m hm => by
    have := List.all_eq_true.1 S1_means.1 m hm; rw [Bool.and_eq_true] at this; exact ⟨written_of this.1, of_decide_eq_true this.2⟩
  refine ⟨fun w' => Upd No w24 w', ?_, fun b w' => b = false /\ Upd No w24 w', ?_, ?_⟩
  . intro w28 u28 _; have U28 := up U24 u28; have hS28 := hS8.keep U28; obtain ⟨v1, v2, v3, v4⟩ := S1_val; refine Value_c hS28 okS fun q32 w31 h31 u31 => ⟨_, _, _, rfl, ?_⟩; refine Value_c (hS28.keep u31) okS fun q37 w36 h36 u36 => ⟨_, _, _, rfl, ?_⟩; refine Value_c ((hS28.keep u31).keep u36) okS fun q42 w41 h41 u41 => ⟨_, _, _, rfl, ?_⟩; have U41 := up (up u31 u36) u41; have G41 : Gl w41 := gg.keep (up (up u8 U28) U41); obtain ⟨_, e1, e2, e3⟩ := S1_means; refine means_c G41 (hS28.keep U41) okS (s := m1) (by decide) (hmean m1 (by simp)).1 (hmean m1 (by simp)).2 (want := bAny) (code := 5) fun w46 u46 => ⟨_, rfl, brC_tt e1 ?_⟩; refine means_c (G41.keep u46) ((hS28.keep U41).keep u46) okS (s := m2) (by decide) (hmean m2 (by simp)).1 (hmean m2 (by simp)).2 (want := bAny) (code := 5) fun w49 u49 => ⟨_, rfl, brC_tt e2 ?_⟩; refine means_c ((G41.keep u46).keep u49) (((hS28.keep U41).keep u46).keep u49) okS (s := m3) (by decide) (hmean m3 (by simp)).1 (hmean m3 (by simp)).2 (want := bAny) (code := 4) fun w52 u52 => ⟨_, rfl, brC_tt e3 ?_⟩; have U52 := up (up u46 u49) u52; refine c_text (h31.keep (up (up u36 u41) U52)) fun w55 u55 => ⟨_, rfl, ?_⟩; have p1 : (valueF S1 bU bF).2.1 = true := by rw [v1]
    have p2 : (valueF S1 bU bF).2.2 = true := by rw [v1]
    have p3 : (valueF S1 bU bG).2.1 = true := by rw [v3]
    have p4 : (valueF S1 bU bG).2.2 = false := by rw [v3]
    have p5 : (valueF S1 bV2 bF).2.1 = false := by rw [v4]
    have p6 : (valueF S1 bV2 bF).2.2 = false := by rw [v4]
    have fin := hk w55 (up (up u1 u8) (up U28 (up U41 (up U52 u55)))); refine brC_tt (tl_eq v2) (brC_tt p1 (brC_tt p2 (brC_tt p3 (brC_tt (n_ff p4) (brC_tt (n_ff p5) ?_))))); have p7 := n_ff p6; rw [<- p7] at fin; exact fin
  . rintro b w59 ⟨rfl, u59⟩ _; exact brC_ff rfl u59
  . refine brC_ff rfl ⟨by omega, by omega, ptrC_some ⟨_, c1, brC_ff (n_tt (tl_eq rfl)) ⟨by omega, by omega, ptrC_some ⟨_, c2, c_text hAt fun w66 u66 => ⟨_, rfl, brC_ff (n_tt (tl_eq f2)) (brC_ff (n_tt b1) ⟨by omega, by omega, ptrC_some ⟨_, cell_keep c2 u66, ?_⟩⟩)⟩⟩⟩⟩⟩; refine c_same ((h16.keep (up u20 u24)).keep u66) (hAt.keep u66) fun w71 u71 => ⟨_, rfl, brC_ff (n_tt f3) (brC_ff (n_tt b2) ?_)⟩; have U71 := up u66 u71; refine c_text ((h20.keep u24).keep U71) fun w74 u74 => ⟨_, rfl, brC_ff (n_tt (tl_eq b3)) ⟨b4, up U71 u74⟩⟩
end Go.Proofs.YtdbkclnlfibgdaaGreatDoor
