/- Types in memory: trees of blocks that nobody writes any more. Nothing of a program stands here but three numbers of types. -/
import Derived.Test.YtpddhbdjcgkjcaaGreatDoorTy
import Derived.Test.YtpddhbdjcgkjcaaGreatDoorRow
namespace Go.Ty
open Go.SX

/-- the numbers of: string, a pointer to a type, a type. -/
structure Ids where
  str : TypeId
  ptr : TypeId
  ty : TypeId

mutual
/-- v is the type t; all its blocks are of F. -/
def TyAt (I : Ids) (F : Nat → Prop) (w : World) (v : Value) : T → Prop
  | .nil => v = .pointer none
  | .mk k nm ns as r => ∃ b nv av rv vs, v = .pointer (some ⟨b, 0, none⟩) ∧ F b ∧ Blk w b #[.int .i64 k, .string nm, nv, av, rv] I.ty ∧ RowAt w I.str 1 nv (ns.map Value.string) ∧ (∀ b, InRow nv b → F b) ∧
      RowAt w I.ptr 1 av vs ∧ (∀ b, InRow av b → F b) ∧ TysAt I F w vs as ∧ TyAt I F w rv r
def TysAt (I : Ids) (F : Nat → Prop) (w : World) : List Value → List T → Prop
  | [], [] => True
  | v :: vs, t :: l => TyAt I F w v t ∧ TysAt I F w vs l
  | _, _ => False
end
variable {I : Ids} {F G : Nat → Prop} {w w' : World}

theorem tysAt_iff : ∀ {vs : List Value} {l : List T}, TysAt I F w vs l ↔ vs.length = l.length ∧ ∀ (i : Nat) (v : Value) (t : T), vs[i]? = some v → l[i]? = some t → TyAt I F w v t
  | [], [] => by simp [TysAt]
  | v :: vs, [] => by simp [TysAt]
  | [], t :: l => by simp [TysAt]
  | v :: vs, t :: l => by
    unfold TysAt
    rw [tysAt_iff]
    constructor
    · rintro ⟨h1, h2, h3⟩
      refine ⟨by simp [h2], fun i v' t' a b => ?_⟩
      cases i with
      | zero => simp at a b; subst a; subst b; exact h1
      | succ i => simp at a b; exact h3 i v' t' a b
    · rintro ⟨h2, h3⟩
      exact ⟨h3 0 v t rfl rfl, by simpa using h2, fun i v' t' a b => h3 (i + 1) v' t' (by simpa using a) (by simpa using b)⟩
theorem TysAt.length {vs : List Value} {l : List T} (h : TysAt I F w vs l) : vs.length = l.length := (tysAt_iff.1 h).1
theorem TysAt.at_ {vs : List Value} {l : List T} (h : TysAt I F w vs l) {i : Nat} {v : Value} {t : T} (a : vs[i]? = some v) (b : l[i]? = some t) : TyAt I F w v t := (tysAt_iff.1 h).2 i v t a b
theorem TysAt.append {vs us : List Value} {l m : List T} (h : TysAt I F w vs l) (k : TysAt I F w us m) : TysAt I F w (vs ++ us) (l ++ m) := by
  rw [tysAt_iff] at *
  refine ⟨by simp [h.1, k.1], fun i v t a b => ?_⟩
  rcases Nat.lt_or_ge i vs.length with hi | hi
  · rw [List.getElem?_append_left hi] at a
    rw [List.getElem?_append_left (by omega)] at b
    exact h.2 i v t a b
  · rw [List.getElem?_append_right hi] at a
    rw [List.getElem?_append_right (by omega), ← h.1] at b
    exact k.2 _ v t a b
theorem TysAt.take {vs : List Value} {l : List T} (h : TysAt I F w vs l) (n : Nat) : TysAt I F w (vs.take n) (l.take n) := by
  rw [tysAt_iff] at *
  refine ⟨by simp [h.1], fun i v t a b => ?_⟩
  rw [List.getElem?_take] at a b
  split at a
  · rename_i hi; rw [if_pos hi] at b; exact h.2 i v t a b
  · cases a
theorem TysAt.drop {vs : List Value} {l : List T} (h : TysAt I F w vs l) (n : Nat) : TysAt I F w (vs.drop n) (l.drop n) := by
  rw [tysAt_iff] at *
  refine ⟨by simp [h.1], fun i v t a b => ?_⟩
  rw [List.getElem?_drop] at a b
  exact h.2 _ v t a b

theorem tyAt_keep {S : Nat → Prop} (u : Upd S w w') (hn : ∀ b, F b → ¬ S b) (hG : ∀ b, b < w.heap.size → F b → G b) : ∀ (t : T) (v : Value), TyAt I F w v t → TyAt I G w' v t := by
  refine ind (fun v h => h) fun k nm ns as r ha hr v h => ?_
  unfold TyAt at h ⊢
  obtain ⟨b, nv, av, rv, vs, rfl, hb, hB, hN, fN, hA, fA, hT, hR⟩ := h
  refine ⟨b, nv, av, rv, vs, rfl, hG b hB.lt hb, hB.upd u (hn b hb), hN.upd u fun x hx => hn x (fN x hx), fun x hx => hG x (hN.lt hx) (fN x hx), hA.upd u fun x hx => hn x (fA x hx), fun x hx => hG x (hA.lt hx) (fA x hx), ?_, hr rv hR⟩
  rw [tysAt_iff] at hT ⊢
  exact ⟨hT.1, fun i v t a b => ha t (List.mem_of_getElem? b) v (hT.2 i v t a b)⟩
theorem tysAt_keep {S : Nat → Prop} (u : Upd S w w') (hn : ∀ b, F b → ¬ S b) (hG : ∀ b, b < w.heap.size → F b → G b) {vs : List Value} {l : List T} (h : TysAt I F w vs l) : TysAt I G w' vs l := by
  rw [tysAt_iff] at h ⊢
  exact ⟨h.1, fun i v t a b => tyAt_keep u hn hG t v (h.2 i v t a b)⟩
theorem TyAt.upd {S : Nat → Prop} {v : Value} {t : T} (h : TyAt I F w v t) (u : Upd S w w') (hn : ∀ b, F b → ¬ S b) : TyAt I F w' v t := tyAt_keep u hn (fun _ _ h => h) t v h
theorem TyAt.keep {v : Value} {t : T} (h : TyAt I F w v t) (u : Upd No w w') : TyAt I F w' v t := h.upd u fun _ _ x => x
theorem TyAt.mono {v : Value} {t : T} (h : TyAt I F w v t) (hG : ∀ b, b < w.heap.size → F b → G b) : TyAt I G w v t := tyAt_keep (Upd.refl No w) (fun _ _ x => x) hG t v h
theorem TysAt.upd {S : Nat → Prop} {vs : List Value} {l : List T} (h : TysAt I F w vs l) (u : Upd S w w') (hn : ∀ b, F b → ¬ S b) : TysAt I F w' vs l := tysAt_keep u hn (fun _ _ h => h) h
theorem TysAt.keep {vs : List Value} {l : List T} (h : TysAt I F w vs l) (u : Upd No w w') : TysAt I F w' vs l := h.upd u fun _ _ x => x
theorem TysAt.mono {vs : List Value} {l : List T} (h : TysAt I F w vs l) (hG : ∀ b, b < w.heap.size → F b → G b) : TysAt I G w vs l := tysAt_keep (Upd.refl No w) (fun _ _ x => x) hG h

/-- v is a list of types. -/
def TyRow (I : Ids) (F : Nat → Prop) (w : World) (v : Value) (l : List T) : Prop := ∃ vs, RowAt w I.ptr 1 v vs ∧ (∀ b, InRow v b → F b) ∧ TysAt I F w vs l
theorem TyRow.upd {S : Nat → Prop} {v : Value} {l : List T} (h : TyRow I F w v l) (u : Upd S w w') (hn : ∀ b, F b → ¬ S b) : TyRow I F w' v l := by
  obtain ⟨vs, h1, h2, h3⟩ := h
  exact ⟨vs, h1.upd u fun x hx => hn x (h2 x hx), h2, h3.upd u hn⟩
theorem TyRow.keep {v : Value} {l : List T} (h : TyRow I F w v l) (u : Upd No w w') : TyRow I F w' v l := h.upd u fun _ _ x => x
theorem TyRow.mono {v : Value} {l : List T} (h : TyRow I F w v l) (hG : ∀ b, b < w.heap.size → F b → G b) : TyRow I G w v l := by
  obtain ⟨vs, h1, h2, h3⟩ := h
  exact ⟨vs, h1, fun x hx => hG x (h1.lt hx) (h2 x hx), h3.mono hG⟩
/-- a cell of it. -/
theorem TyRow.get {p : Option Addr} {n c : Nat} {l : List T} (h : TyRow I F w (.slice p n c) l) : n = l.length ∧ n ≤ c ∧ c ≤ maxLen ∧ ∀ i t, l[i]? = some t → ∃ g o v, p = some ⟨g, o, none⟩ ∧ w.cell? ⟨g, o + i, none⟩ = some v ∧ TyAt I F w v t := by
  obtain ⟨vs, h1, h2, h3⟩ := h
  obtain ⟨p', n', c', e, hn, hc, hm⟩ := h1.shape
  cases e
  have hl := h3.length
  refine ⟨by omega, hc, hm, fun i t ht => ?_⟩
  have hi : i < vs.length := by
    rw [hl]
    exact (List.getElem?_eq_some_iff.1 ht).1
  obtain ⟨g, o, rfl, e⟩ := h1.get hi
  exact ⟨g, o, vs[i], rfl, by rw [e, List.getElem?_eq_getElem hi], h3.at_ (List.getElem?_eq_getElem hi) ht⟩
theorem TyAt.nil_iff {v : Value} {t : T} (h : TyAt I F w v t) : t.isNil = true ↔ v = .pointer none := by
  cases t with
  | nil => simpa [T.isNil, TyAt] using h
  | mk k nm ns as r =>
    unfold TyAt at h
    obtain ⟨b, nv, av, rv, vs, rfl, _⟩ := h
    simp [T.isNil]

/-- v is a list of types that still grows: its own row (of blocks from n0 on) is no part of them. -/
def TyGrow (I : Ids) (F : Nat → Prop) (n0 : Nat) (w : World) (v : Value) (l : List T) : Prop :=
  ∃ vs, RowAt w I.ptr 1 v vs ∧ (∀ b, InRow v b → n0 ≤ b) ∧ TysAt I (fun b => (F b ∨ n0 ≤ b) ∧ ¬ InRow v b) w vs l
theorem TyGrow.nil {n0 : Nat} : TyGrow I F n0 w (.slice none 0 0) [] := ⟨[], RowAt.nil _ _ _, (fun b h => by cases h), trivial⟩
theorem TyGrow.row {n0 : Nat} {v : Value} {l : List T} (h : TyGrow I F n0 w v l) : TyRow I (fun b => F b ∨ n0 ≤ b) w v l := by
  obtain ⟨vs, h1, h2, h3⟩ := h
  exact ⟨vs, h1, fun b hb => .inr (h2 b hb), h3.mono fun b _ h => h.1⟩
theorem TyGrow.upd {n0 : Nat} {S : Nat → Prop} {v : Value} {l : List T} (h : TyGrow I F n0 w v l) (u : Upd S w w') (hF : ∀ b, F b ∨ n0 ≤ b → ¬ S b) : TyGrow I F n0 w' v l := by
  obtain ⟨vs, h1, h2, h3⟩ := h
  exact ⟨vs, h1.upd u fun b hb => hF b (.inr (h2 b hb)), h2, h3.upd u fun b hb => hF b hb.1⟩
theorem TyGrow.shape {n0 : Nat} {v : Value} {l : List T} (h : TyGrow I F n0 w v l) : ∃ p c, v = .slice p l.length c ∧ l.length ≤ c ∧ c ≤ maxLen := by
  obtain ⟨vs, h1, h2, h3⟩ := h
  obtain ⟨p, n, c, rfl, e, hc, hm⟩ := h1.shape
  have := h3.length
  obtain rfl : n = l.length := by omega
  exact ⟨p, c, rfl, hc, hm⟩
/-- it grows by types that lie elsewhere. -/
theorem TyGrow.append {P : Program} {n0 : Nat} {t ty : TypeId} {i : TypeInfo} {z : Value} {bytes : Nat} (ht : P.underlying t = some (.slice I.ptr)) (hi : P.info? I.ptr = some i) (hz : i.zero = some z)
    (hsize : i.size = 1) (hby : i.bytes = bytes) (hzs : z.cells.size = 1) {v : Value} {l : List T} (h : TyGrow I F n0 w v l) (hn0 : n0 ≤ w.heap.size)
    (p : Option Addr) (m c : Nat) (us : List Value) (ts : List T) (hl : us.length = m) (hus : ∀ j u, us[j]? = some u → ∃ a : Addr, p = some a ∧ w.cell? (a.add j) = some u) (h1 : ∀ u ∈ us, u.oneCell' = true)
    (hts : TysAt I (fun b => (F b ∨ n0 ≤ b) ∧ ¬ InRow v b) w us ts) (h63 : l.length + m ≤ maxLen) (hbytes : (l.length + m) * bytes ≤ 140737488355328) {K : Value → World → Prop}
    (hk : ∀ v' w', TyGrow I F n0 w' v' (l ++ ts) → Upd (InRow v) w w' → (∀ b, InRow v' b → InRow v b ∨ w.heap.size ≤ b) → K v' w') : runC P (Builtin.append_ #[t, t] ty #[v, .slice p m c]) w K := by
  obtain ⟨vs, g1, g2, g3⟩ := h
  have hlen := g3.length
  refine append_slice ht hi hz hsize hby hzs g1 (n := l.length) (by omega) p m c us (by omega) (by omega) hus h1 h63 hbytes fun v' w' r u hb => hk v' w' ⟨vs ++ us, r, fun b hx => (hb b hx).elim (g2 b) fun h => by omega, ?_⟩ u hb
  exact tysAt_keep u (fun b hx => hx.2) (fun b hlt hx => ⟨hx.1, fun hx' => (hb b hx').elim hx.2 fun h => by omega⟩) (g3.append hts)
end Go.Ty
