/- Joined by program of: A1, A2, A3, A4, A5, A6, A7, A8, A9, Aa, Pu. -/
import Derived.Test.YtdbkclnlfibgdaaGreatDoorWh
import Derived.Test.YtdbkclnlfibgdaaGreatDoorWi
import Derived.Test.YtdbkclnlfibgdaaGreatDoorWe
import Derived.Test.YtdbkclnlfibgdaaGreatDoorWg
import Derived.Test.YtdbkclnlfibgdaaGreatDoorWf
import Derived.Lib.LaidU8T
set_option maxRecDepth 100000
set_option maxHeartbeats 4000000
namespace Go.Proofs.YtdbkclnlfibgdaaGreatDoor
open Go.SX Go.Ty Go.MapKept Go.RowKit Go.Tx
mutual
def lsz : Wt -> Nat
  | .nil => 0
  | .mk _ _ _ _ _ l r => 1 + lsz r + lszs l
def lszs : List Wt -> Nat
  | [] => 0
  | a :: l => lsz a + lszs l
end
theorem lszs_app (l m : List Wt) : lszs (l ++ m) = lszs l + lszs m := by
  induction l with
  | nil => simp [lszs]
  | cons a l ih => simp only [List.cons_append, lszs, ih]; omega
theorem lszs_one (x : Wt) : lszs [x] = lsz x := by simp [lszs]
theorem lsz_mk {k a : Int} {al nm : ByteArray} {ns : List ByteArray} {xs : List Wt} {r : Wt} : lsz (.mk k a al nm ns xs r) = 1 + lsz r + lszs xs := by simp [lsz]
theorem lsz_nil : lsz .nil = 0 := by simp [lsz]
inductive Wok (lo : Int) : Wt -> Prop
  | mk (k a : Int) (al nm : ByteArray) (ns : List ByteArray) (xs : List Wt) (r : Wt) (h1 : lo <= a) (h2 : ∀ n ∈ ns, NameB n) (h3 : ∀ x ∈ xs, Wok lo x) (h4 : r ≠ .nil -> Wok lo r) (h5 : k = 8 -> r ≠ .nil) : Wok lo (.mk k a al nm ns xs r)
theorem Wok.xsz {lo : Int} {t : Wt} (h : Wok lo t) : xsz t + 1 <= 2 * lsz t := by
  induction h with
  | mk k a al nm ns xs r h1 h2 h3 h4 h5 i3 i4 =>
    have hl : xszs xs <= 2 * lszs xs := by
      clear h3
      induction xs with
      | nil => simp [xszs]
      | cons x l ih =>
        have := i3 x (by simp); have := ih fun y hy => i3 y (by simp [hy]); simp only [xszs, lszs]; omega
    have hr : Go.Tx.xsz r <= 2 * lsz r := by
      cases r with
      | nil => simp [Go.Tx.xsz]
      | mk k' a' al' nm' ns' xs' r' => have := i4 (by simp); omega
    rw [lsz_mk]; simp only [Go.Tx.xsz]; omega
section
variable {ts : List Tok} {lo : Int} {i0 : Nat}
def Toks (ts : List Tok) (lo : Int) (i0 : Nat) : Prop := ∀ i t, ts[i]? = some t -> i0 <= i -> lo <= (t.at_ : Int) /\ (t.kind = 1 -> NameB t.text)
def SelfOk (lo : Int) (i0 : Nat) (self : Nat -> Nat -> Option (Wt × Nat)) : Prop := ∀ a d x a1, i0 <= a -> self a d = some (x, a1) -> Wok lo x /\ a + lsz x <= a1
theorem leaf_ok {a k : Int} {al nm : ByteArray} (h : lo <= a) (h8 : k ≠ 8) : Wok lo (.mk k a al nm [] [] .nil) := .mk _ _ _ _ _ _ _ h (fun _ h => by cases h) (fun _ h => by cases h) (fun h => absurd rfl h) (fun h => absurd h h8)
theorem leaf_lsz {a k : Int} {al nm : ByteArray} : lsz (.mk k a al nm [] [] .nil) = 1 := by simp [lsz, lszs]
theorem namedF_wok (T : Toks ts lo i0) {a : Nat} {x : Wt} {a1 : Nat} (ha : i0 <= a) (e : namedF ts a = some (x, a1)) : Wok lo x /\ a + lsz x <= a1 := by
  unfold namedF at e; split at e
  . rename_i t q ht hq; have h1 := (T a t ht ha).1; split at e
    . split at e
      . split at e
        . split at e
          . simp only [Option.some.injEq, Prod.mk.injEq] at e; obtain ⟨rfl, rfl⟩ := e; exact ⟨leaf_ok h1 (by decide), by rw [leaf_lsz]; omega⟩
          . cases e
        . cases e
      . simp only [Option.some.injEq, Prod.mk.injEq] at e; obtain ⟨rfl, rfl⟩ := e; exact ⟨leaf_ok h1 (by decide), by rw [leaf_lsz]; omega⟩
    . cases e
  . cases e
theorem lstF_wok {σ : Type} {E : σ -> Nat -> Option (Wt × Nat × σ)} {en : ByteArray} {I : σ -> Prop} (hinc : ∀ st a x a1 st', E st a = some (x, a1, st') -> a < a1)
    (hE : ∀ st a x a1 st', i0 <= a -> I st -> E st a = some (x, a1, st') -> Wok lo x /\ a + lsz x <= a1 /\ I st') :
    ∀ (f a : Nat) (st : σ) (xs ys : List Wt) (a' : Nat) (st' : σ), i0 <= a -> I st -> (∀ x ∈ xs, Wok lo x) -> lstF ts E en f a st xs = some (ys, a', st') -> (∀ y ∈ ys, Wok lo y) /\ a + lszs ys <= a' + lszs xs /\ I st'
  | 0, _, _, _, _, _, _, _, _, _, e => by cases e
  | f + 1, a, st, xs, ys, a', st', ha, hI, hx, e => by
    unfold lstF at e; split at e
    . cases e
    rename_i x a1 st1 he; have hi := hinc _ _ _ _ _ he; obtain ⟨k1, k2, k3⟩ := hE _ _ _ _ _ ha hI he
    have hx' : ∀ y ∈ xs ++ [x], Wok lo y := fun y hy => by
      rcases List.mem_append.1 hy with h | h
      . exact hx y h
      . rw [List.mem_singleton.1 h]; exact k1
    split at e
    . cases e
    split at e
    . obtain ⟨j1, j2, j3⟩ := lstF_wok hinc hE f (a1 + 1) st1 (xs ++ [x]) ys a' st' (by omega) k3 hx' e; rw [lszs_app, lszs_one] at j2; exact ⟨j1, by omega, j3⟩
    . split at e
      . simp only [Option.some.injEq, Prod.mk.injEq] at e; obtain ⟨rfl, rfl, rfl⟩ := e; rw [lszs_app, lszs_one]; exact ⟨hx', by omega, k3⟩
      . cases e
theorem lstA_wok {σ : Type} {E : σ -> Nat -> Option (Wt × Nat × σ)} {en : ByteArray} {I : σ -> Prop} (hinc : ∀ st a x a1 st', E st a = some (x, a1, st') -> a < a1)
    (hE : ∀ st a x a1 st', i0 <= a -> I st -> E st a = some (x, a1, st') -> Wok lo x /\ a + lsz x <= a1 /\ I st') {a : Nat} {st : σ} {ys : List Wt} {a' : Nat} {st' : σ} (ha : i0 <= a) (hI : I st)
    (e : lstA ts E en a st = some (ys, a', st')) : (∀ y ∈ ys, Wok lo y) /\ a + lszs ys <= a' /\ I st' := by
  unfold lstA at e; split at e
  . cases e
  split at e
  . simp only [Option.some.injEq, Prod.mk.injEq] at e; obtain ⟨rfl, rfl, rfl⟩ := e; exact ⟨fun _ h => (by cases h), by simp [lszs], hI⟩
  . obtain ⟨j1, j2, j3⟩ := lstF_wok hinc hE _ _ _ _ _ _ _ ha hI (fun _ h => by cases h) e; exact ⟨j1, by simpa [lszs] using j2, j3⟩
theorem oneS_wok (T : Toks ts lo i0) {self : Nat -> Nat -> Option (Wt × Nat)} (hinc : Inc self) (hs : SelfOk lo i0 self) {a d : Nat} {x : Wt} {a1 : Nat} (ha : i0 <= a) (e : oneS ts self a d = some (x, a1)) : Wok lo x /\ a + lsz x <= a1 := by
  unfold oneS at e; split at e
  . cases e
  rename_i t ht; have h1 := (T a t ht ha).1; split at e
  . rename_i hpl; split at e
    . simp only [Option.some.injEq, Prod.mk.injEq] at e; obtain ⟨rfl, rfl⟩ := e; refine ⟨leaf_ok h1 ?_, by rw [leaf_lsz]; omega⟩; unfold plainF
      repeat (first | (split; · decide) | decide)
    . cases e
  split at e
  . split at e
    . cases e
    rename_i x2 a2 hx; obtain ⟨k1, k2⟩ := hs _ _ _ _ (by omega) hx; split at e
    . cases e
    split at e
    . simp only [Option.some.injEq, Prod.mk.injEq] at e; obtain ⟨rfl, rfl⟩ := e; exact ⟨k1, by omega⟩
    . cases e
  split at e
  . split at e
    . cases e
    rename_i xs a2 ns hl; simp only [Option.some.injEq, Prod.mk.injEq] at e; obtain ⟨rfl, rfl⟩ := e
    obtain ⟨j1, j2, j3⟩ := lstA_wok (lo := lo) (i0 := i0) (I := fun ns => ∀ n ∈ ns, NameB n) (fun st b y b1 st' h => fieldE_inc hinc h) (fun st b y b1 st' hb hI he => by
      unfold fieldE at he; split at he
      . cases he
      split at he
      . rename_i t1 c1 ht1 hc1; split at he
        . rename_i hk1; split at he
          . split at he
            . rename_i x2 a2 hx; simp only [Option.some.injEq, Prod.mk.injEq] at he; obtain ⟨rfl, rfl, rfl⟩ := he; obtain ⟨k1, k2⟩ := hs _ _ _ _ (by omega) hx; refine ⟨k1, by omega, fun n hn => ?_⟩; rcases List.mem_append.1 hn with h | h
              . exact hI n h
              . rw [List.mem_singleton.1 h]; exact (T b t1 ht1 hb).2 hk1
            . cases he
          . cases he
        . cases he
      . cases he) (by omega) (fun _ h => by cases h) hl
    exact ⟨.mk _ _ _ _ _ _ _ h1 j3 j1 (fun h => absurd rfl h) (fun h => absurd h (by decide)), by rw [lsz_mk, lsz_nil]; omega⟩
  split at e
  . split at e
    . cases e
    split at e
    . split at e
      . cases e
      rename_i xs a2 u hl; split at e
      . cases e
      split at e
      . split at e
        . cases e
        rename_i x2 a3 hx; simp only [Option.some.injEq, Prod.mk.injEq] at e; obtain ⟨rfl, rfl⟩ := e
        obtain ⟨j1, j2, _⟩ := lstA_wok (lo := lo) (i0 := i0) (I := fun _ => True) (fun st b y b1 st' h => argE_inc hinc h) (fun st b y b1 st' hb _ he => by
          unfold argE at he; split at he
          . rename_i x3 a4 hx3; simp only [Option.some.injEq, Prod.mk.injEq] at he; obtain ⟨rfl, rfl, _⟩ := he; obtain ⟨k1, k2⟩ := hs _ _ _ _ hb hx3; exact ⟨k1, k2, trivial⟩
          . cases he) (by omega) trivial hl
        obtain ⟨k1, k2⟩ := hs _ _ _ _ (by omega) hx; refine ⟨.mk _ _ _ _ _ _ _ h1 (fun _ h => by cases h) j1 (fun _ => k1) fun _ h => ?_, by rw [lsz_mk]; omega⟩; rw [h] at k1; cases k1
      . cases e
    . cases e
  . exact namedF_wok T ha e
theorem barsF_wok {one : Nat -> Option (Wt × Nat)} (hinc : ∀ a x a1, one a = some (x, a1) -> a < a1) (h : ∀ a x a1, i0 <= a -> one a = some (x, a1) -> Wok lo x /\ a + lsz x <= a1) : ∀ (f a : Nat) (acc l : List Wt) (a' : Nat), i0 <= a -> (∀ x ∈ acc, Wok lo x) ->
    barsF ts one f a acc = some (l, a') -> (∀ x ∈ l, Wok lo x) /\ a + lszs l + l.length <= a' + lszs acc + acc.length
  | 0, _, _, _, _, _, _, e => by cases e
  | f + 1, a, acc, l, a', ha, hx, e => by
    unfold barsF at e; split at e
    . cases e
    split at e
    . split at e
      . cases e
      rename_i x a1 he; have hi := hinc _ _ _ he; obtain ⟨k1, k2⟩ := h _ _ _ (by omega) he
      obtain ⟨j1, j2⟩ := barsF_wok hinc h f a1 (acc ++ [x]) l a' (by omega) (fun y hy => by
        rcases List.mem_append.1 hy with h | h
        . exact hx y h
        . rw [List.mem_singleton.1 h]; exact k1) e
      rw [lszs_app, lszs_one, List.length_append, List.length_singleton] at j2; exact ⟨j1, by omega⟩
    . simp only [Option.some.injEq, Prod.mk.injEq] at e; obtain ⟨rfl, rfl⟩ := e; exact ⟨hx, by omega⟩
theorem typS_wok (T : Toks ts lo i0) {self : Nat -> Nat -> Option (Wt × Nat)} (hinc : Inc self) (hs : SelfOk lo i0 self) : SelfOk lo i0 (typS ts self) := fun a d x a1 ha e => by
  unfold typS at e; split at e
  . cases e
  split at e
  . cases e
  rename_i t ht; have h1 := (T a t ht ha).1; split at e
  . cases e
  rename_i x1 a2 hx1; have hi := oneS_inc hinc hx1; obtain ⟨k1, k2⟩ := oneS_wok T hinc hs ha hx1; split at e
  . cases e
  rename_i l a3 hl; simp only [Option.some.injEq, Prod.mk.injEq] at e; obtain ⟨rfl, rfl⟩ := e; obtain ⟨j1, j2⟩ := barsF_wok (fun a x a1 h => oneS_inc hinc h) (fun a x a1 ha h => oneS_wok T hinc hs ha h) _ _ _ _ _ (by omega) (fun y hy => by rw [List.mem_singleton.1 hy]; exact k1) hl; rw [lszs_one, List.length_singleton] at j2; split
  . rename_i hl1; have := barsF_inc (ts := ts) (fun a x a1 h => oneS_inc hinc h) _ _ _ _ _ hl; exact ⟨k1, by omega⟩
  . rename_i hl1
    have hl0 : l.length ≠ 0 := fun h0 => by
      have : ∀ (f a : Nat) (acc l : List Wt) (a' : Nat), barsF ts (fun a => oneS ts self a (d + 1)) f a acc = some (l, a') -> acc.length <= l.length := by
        intro f
        induction f with
        | zero => intro a acc l a' e; cases e
        | succ f ih =>
          intro a acc l a' e; unfold barsF at e; split at e
          . cases e
          split at e
          . split at e
            . cases e
            have := ih _ _ _ _ e; rw [List.length_append] at this; omega
          . simp only [Option.some.injEq, Prod.mk.injEq] at e; obtain ⟨rfl, rfl⟩ := e; exact Nat.le_refl _
      have := this _ _ _ _ _ hl; simp at this; omega
    exact ⟨.mk _ _ _ _ _ _ _ h1 (fun _ h => by cases h) j1 (fun h => absurd rfl h) (fun h => absurd h (by decide)), by rw [lsz_mk, lsz_nil]; omega⟩
theorem typF_wok (T : Toks ts lo i0) : ∀ f, SelfOk lo i0 (typF ts f)
  | 0 => fun _ _ _ _ _ e => by cases e
  | f + 1 => typS_wok T (typF_inc ts f) (typF_wok T f)
end
def SNames (S : Sc) (N : List ByteArray) : Prop := ∀ x y t, nameF S x y = some t -> ∃ nm ∈ N, t = .mk 6 nm [] [] .nil
def NamesOk (N : List ByteArray) : Prop := ∀ nm ∈ N, namedL (txt nm) = true
theorem check_tk {k : Int} (h1 : 1 <= k) (h5 : k <= 5) : check (tk k) = 0 := by
  obtain rfl | rfl | rfl | rfl | rfl : k = 1 \/ k = 2 \/ k = 3 \/ k = 4 \/ k = 5 := by omega
  all_goals decide
theorem check_named {nm : ByteArray} (h : namedL (txt nm) = true) : check (.mk 6 nm [] [] .nil) = 0 := by
  refine check_iff.2 ⟨?_, by simp [size, sizes]⟩; simp [may, mays, h, T.isNil]
theorem size_tk {k : Int} : size (tk k) = 1 := by simp [size, sizes]
theorem size_mk {k : Int} {nm : ByteArray} {ns : List ByteArray} {ta : List T} {r : T} : size (.mk k nm ns ta r) = 1 + sizes ta + size r := by simp [size]
theorem res_check {S : Sc} {N : List ByteArray} (hS : SNames S N) (hN : NamesOk N) (t : Wt) : check (resF S t).1 = 0 := by
  have c1 : check (tk 1) = 0 := check_tk (by omega) (by omega)
  cases t with
  | nil => exact c1
  | mk k a al nm ns xs r =>
    unfold resF; split
    . rename_i h; exact check_tk (by omega) (by omega)
    split
    . split
      . rename_i t h; obtain ⟨nm', hm, rfl⟩ := hS _ _ _ h; exact check_named (hN _ hm)
      . exact c1
    split
    . split
      . exact c1
      . rename_i h2; split
        . exact c1
        . rename_i h3; have h0 : (recF ns (resFs S xs).1).2 = 0 := by rcases recF_e ns (resFs S xs).1 with h | h | h <;> first | exact h | exact absurd h h2 | exact absurd h h3
          exact (recF_ok h0).1
    split
    . split
      . rename_i h0; exact (funF_ok h0).1
      . exact c1
    split
    . split
      . rename_i h0; exact (unionF_ok h0).1
      . exact c1
    . exact c1
theorem resFs_dg {S : Sc} {l : List Wt} {d : Dg} (h : d ∈ (resFs S l).2) : ∃ a ∈ l, d ∈ (resF S a).2 := by
  induction l with
  | nil => unfold resFs at h; cases h
  | cons a l ih =>
    unfold resFs at h; rcases List.mem_append.1 h with h | h
    . exact ⟨a, by simp, h⟩
    . obtain ⟨b, hb, e⟩ := ih h; exact ⟨b, by simp [hb], e⟩
theorem res_lo {S : Sc} {lo : Int} {t : Wt} (h : Wok lo t) : ∀ d ∈ (resF S t).2, lo <= d.1 := by
  induction h with
  | mk k a al nm ns xs r h1 h2 h3 h4 h5 i3 i4 =>
    have hx : ∀ d ∈ (resFs S xs).2, lo <= d.1 := fun d hd => by
      obtain ⟨b, hb, e⟩ := resFs_dg hd; exact i3 b hb d e
    have hr : ∀ d ∈ (resF S r).2, lo <= d.1 := fun d hd => by
      cases r with
      | nil => unfold resF at hd; cases hd
      | mk => exact i4 (by simp) d hd
    have one : ∀ (l : List Dg) (c : Int), (∀ d ∈ l, lo <= d.1) -> ∀ d ∈ l ++ [(a, c)], lo <= d.1 := fun l c hl d hd => by
      rcases List.mem_append.1 hd with h | h
      . exact hl d h
      . rw [List.mem_singleton.1 h]; exact h1
    have no : ∀ d ∈ ([] : List Dg), lo <= d.1 := fun d hd => by cases hd
    unfold resF; split
    . exact no
    split
    . split
      . exact no
      . exact one [] 5 no
    split
    . split
      . exact one _ _ hx
      . split
        . exact one _ _ hx
        . exact hx
    have hb : ∀ d ∈ (resFs S xs).2 ++ (resF S r).2, lo <= d.1 := fun d hd => by
      rcases List.mem_append.1 hd with h | h
      . exact hx d h
      . exact hr d h
    split
    . split
      . exact hb
      . exact one _ _ hb
    split
    . split
      . exact hx
      . exact one _ _ hx
    . exact no
theorem sizes_perm {l m : List T} (h : l.Perm m) : sizes l = sizes m := by
  induction h with
  | nil => rfl
  | cons x _ ih => simp only [sizes, ih]
  | swap x y l => simp only [sizes]; omega
  | trans _ _ h1 h2 => exact h1.trans h2
theorem insT_sizes (t : T) (l : List T) : sizes (insT t l) <= size t + sizes l := by
  induction l with
  | nil => simp [insT, sizes]
  | cons u l ih =>
    unfold insT; split
    . simp only [sizes]; omega
    split
    . simp only [sizes]; omega
    . simp only [sizes]; omega
theorem foldT_sizes (l m : List T) : sizes (l.foldl (fun m t => insT t m) m) <= sizes m + sizes l := by
  induction l generalizing m with
  | nil => simp [sizes]
  | cons t l ih =>
    have := ih (insT t m); have := insT_sizes t m; simp only [List.foldl_cons, sizes]; omega
theorem flatT_sizes (l : List T) : sizes (flatT l) <= sizes l := by
  induction l with
  | nil => simp [flatT, sizes]
  | cons t l ih =>
    have e : flatT (t :: l) = (if t.kind = 9 then t.args else [t]) ++ flatT l := by simp [flatT]
    rw [e, sizes_append]; simp only [sizes]; split
    . have : sizes t.args <= size t := by
        cases t with
        | nil => simp [T.args, sizes]
        | mk k nm ns ta r => rw [size_mk]; simp only [T.args]; omega
      omega
    . simp only [sizes]; omega
theorem outT_sizes (l : List T) : sizes (outT l) <= sizes l := by
  have h1 := foldT_sizes (flatT l) []; have h2 := flatT_sizes l; unfold outT; simp only [sizes] at h1; omega
theorem rec_size {ns : List ByteArray} {ta : List T} (h : (recF ns ta).2 = 0) : size (recF ns ta).1 = 1 + sizes ta := by
  obtain ⟨_, hl, _, hn, _, e⟩ := recF_ok h; rw [e, size_mk]; have hp := (names_sorted hl hn).2; have := sizes_perm (hp.map (·.2)); rw [(fst_zip hl).2] at this; rw [this]; simp [size]
theorem res_size {S : Sc} {N : List ByteArray} (hS : SNames S N) {lo : Int} {t : Wt} (h : Wok lo t) : (resF S t).2 = [] -> size (resF S t).1 <= lsz t := by
  induction h with
  | mk k a al nm ns xs r h1 h2 h3 h4 h5 i3 i4 =>
    have hx : (resFs S xs).2 = [] -> sizes (resFs S xs).1 <= lszs xs := by
      clear h3
      induction xs with
      | nil => intro _; simp [resFs, sizes]
      | cons x l ih =>
        intro e; unfold resFs at e ⊢; obtain ⟨e1, e2⟩ := List.append_eq_nil_iff.1 e; have := i3 x (by simp) e1; have := ih (fun y hy => i3 y (by simp [hy])) e2; simp only [sizes, lszs]; omega
    rw [lsz_mk]; have one : ∀ c, size (tk c) <= 1 + lsz r + lszs xs := fun c => by rw [size_tk]; omega
    unfold resF; split
    . intro _; exact one _
    split
    . split
      . rename_i t ht; obtain ⟨nm', _, rfl⟩ := hS _ _ _ ht; intro _; rw [size_mk]; simp only [sizes, size]; omega
      . intro _; exact one _
    split
    . split
      . intro _; exact one _
      . rename_i hh2; split
        . intro _; exact one _
        . rename_i hh3; have h0 : (recF ns (resFs S xs).1).2 = 0 := by rcases recF_e ns (resFs S xs).1 with h | h | h <;> first | exact h | exact absurd h hh2 | exact absurd h hh3
          intro e; have := hx e; show size (recF ns (resFs S xs).1).1 <= _; rw [rec_size h0]; omega
    split
    . rename_i h8; split
      . rename_i h0; intro e; obtain ⟨e1, e2⟩ := List.append_eq_nil_iff.1 e; have := hx e1; have := i4 (h5 h8) e2; show size (funF (resFs S xs).1 (resF S r).1).1 <= _; rw [(funF_ok h0).2.2.2, size_mk]; omega
      . intro _; exact one _
    split
    . split
      . rename_i h0; intro e; have := hx e; have ho := outT_sizes (resFs S xs).1; show size (unionF (resFs S xs).1).1 <= _; rcases (unionF_ok h0).2.2.2 with ⟨_, e⟩ | ⟨_, ⟨t, e, e2⟩ | ⟨_, e⟩⟩
        . rw [e]; exact one 1
        . rw [e2]; rw [e] at ho; simp only [sizes] at ho; omega
        . rw [e, size_mk]; simp only [size]; omega
      . intro _; exact one _
    . intro _; exact one _
def lVn : ByteArray := ByteArray.mk #[108, 46, 86]
abbrev Kx := Int × ByteArray
inductive Lxs : List UInt8 -> List Kx -> List UInt8 -> Prop
  | nil (l : List UInt8) : Lxs l [] l
  | sp {l : List UInt8} {ts : List Kx} {r : List UInt8} (h : Lxs l ts r) : Lxs (32 :: l) ts r
  | tok {l : List UInt8} {k : Int} {x : ByteArray} {n : Nat} {ts : List Kx} {r : List UInt8} (h : tokF l = some (k, x, n)) (h0 : ∀ c, l.head? = some c -> c ≠ 32 /\ c ≠ 9 /\ c ≠ 10 /\ c ≠ 13 /\ c ≠ 35) (hr : Lxs (l.drop n) ts r) : Lxs l ((k, x) :: ts) r
theorem Lxs.lex {l r : List UInt8} {ts : List Kx} (h : Lxs l ts r) (hr : r = []) : ∀ (s : List UInt8) (a f : Nat), s.drop a = l -> l.length < f -> ∃ toks, lexF s f a = some toks /\ toks.map (fun t => (t.kind, t.text)) = ts /\ toks.length <= l.length := by
  induction h with
  | nil l =>
    subst hr; intro s a f hd hf
    cases f with
    | zero => simp at hf
    | succ f => exact ⟨[], by unfold lexF; rw [hd], rfl, Nat.le_refl _⟩
  | @sp l ts r h ih =>
    intro s a f hd hf
    cases f with
    | zero => simp at hf
    | succ f =>
      obtain ⟨toks, e, k1, k2⟩ := ih hr s (a + 1) f (by rw [<- List.drop_drop, hd]; rfl) (by simp at hf; omega); refine ⟨toks, ?_, k1, by simp; omega⟩; unfold lexF; rw [hd]; simpa using e
  | @tok l k x n ts r h h0 hr' ih =>
    intro s a f hd hf; obtain ⟨n1, n2⟩ := tokF_len h
    cases f with
    | zero => simp at hf
    | succ f =>
      obtain ⟨toks, e, k1, k2⟩ := ih hr s (a + n) f (by rw [<- List.drop_drop, hd]) (by rw [List.length_drop]; omega)
      cases l with
      | nil => simp at n2; omega
      | cons c l =>
        obtain ⟨z1, z2, z3, z4, z5⟩ := h0 c rfl; refine ⟨⟨k, x, 0, a⟩ :: toks, ?_, by simp [k1], by rw [List.length_drop] at k2; simp at k2 n2 ⊢; omega⟩; unfold lexF; rw [hd]; dsimp only; rw [if_neg (by simp [z1, z2, z3, z4]), if_neg z5, h]; dsimp only; rw [e]; rfl
theorem Lxs.name {l r : List UInt8} {ts : List Kx} (h : Lxs l ts r) : ∀ y ∈ ts, y.1 = 1 -> NameB y.2 := by
  induction h with
  | nil l => intro y hy; cases hy
  | sp _ ih => exact ih
  | tok h h0 _ ih =>
    intro y hy; rcases List.mem_cons.1 hy with rfl | hy
    . exact (tokF_T (a := 0) h).name
    . exact ih y hy
def nmC (c : UInt8) : Bool := letter c || digit c
theorem takeWhile_run {f : UInt8 -> Bool} {x r : List UInt8} (hx : x.all f = true) (hr : hd (fun c => !f c) r) : (x ++ r).takeWhile f = x := by
  induction x with
  | nil =>
    cases r with
    | nil => rfl
    | cons c r =>
      have := hr c rfl; simp only [Bool.not_eq_true'] at this; simp [List.takeWhile_cons, this]
  | cons c x ih =>
    simp only [List.all_cons, Bool.and_eq_true] at hx; simp only [List.cons_append, List.takeWhile_cons, hx.1, if_true, ih hx.2]
theorem tok_word {c : UInt8} {w r : List UInt8} (hc : letter c = true) (hw : w.all nmC = true) (hl : w.length < 24) (hr : hd (fun c => !nmC c) r) : tokF (c :: (w ++ r)) = some (if memB (bs (c :: w)) kwL then 2 else 1, bs (c :: w), (c :: w).length) := by
  have e : (c :: (w ++ r)).takeWhile (fun c => letter c || digit c) = c :: w := by
    have := takeWhile_run (f := nmC) (x := c :: w) (r := r) (by simp [hw, nmC, hc]) hr; exact this
  unfold tokF; dsimp only; rw [if_pos hc, e, if_pos (by simp; omega)]
section signs
variable (r : List UInt8)
end signs
section
variable {ts : List Tok} {a : Nat}
def AtT (ts : List Tok) (a : Nat) (l : List Kx) : Prop := ∀ (i : Nat) (k : Int) (x : ByteArray), l[i]? = some (k, x) -> ∃ t, ts[a + i]? = some t /\ t.kind = k /\ t.text = x
theorem AtT.left {l m : List Kx} (h : AtT ts a (l ++ m)) : AtT ts a l := fun i k x e => h i k x (by
  have := (List.getElem?_eq_some_iff.1 e).1; rw [List.getElem?_append_left this]; exact e)
theorem AtT.right {l m : List Kx} (h : AtT ts a (l ++ m)) : AtT ts (a + l.length) m := fun i k x e => by
  obtain ⟨t, h1, h2⟩ := h (l.length + i) k x (by rw [List.getElem?_append_right (by omega)]; simpa using e); exact ⟨t, by rw [Nat.add_assoc]; exact h1, h2⟩
theorem AtT.head {k : Int} {x : ByteArray} {l : List Kx} (h : AtT ts a ((k, x) :: l)) : ∃ t, ts[a]? = some t /\ t.kind = k /\ t.text = x := h 0 k x rfl
theorem AtT.tail {y : Kx} {l : List Kx} (h : AtT ts a (y :: l)) : AtT ts (a + 1) l := fun i k x e => by
  obtain ⟨t, h1, h2⟩ := h (i + 1) k x e; exact ⟨t, by rw [<- h1]; congr 1; omega, h2⟩
end
section
variable {S : Sc} {ts : List Tok}
end
section
variable {S : Sc}
end
def One (toks : List Tok) (c : Dc) : Prop := ∃ a' t, declF toks toks.length 0 0 = some (c, a') /\ toks[a']? = some t /\ t.kind = 0
theorem lds_err {w : World} {a : Addr} {v0 : Value} (h : w.cell? a = some v0) : Lds Tryz.prog 71 w a v0 := by
  have key : (∃ v', w.cell? a = some v' /\ v' = v0) = ldVC Tryz.prog 71 w a (fun v => v = v0) := by kernel_rfl
  obtain ⟨v, rfl, hr⟩ := semR_out (ldVC_sound (of_eq ⟨_, h, rfl⟩ key)); exact hr w rfl
section
variable {w0 : World} {tv : Value} {toks : List Tok}
theorem decl_z (P : P0 w0 tv toks) (G : Good toks) (hl : toks.length <= 900000) {d : Nat} (hd : d <= 1000) {w : World} {a : Nat} {K R : KV} (Z : Pz w0 tv w a d) (ha : a < toks.length) (hy : isW toks[a] [wType] = true)
    (hk : ∀ (q : Option Addr) w' a' c, a < a' -> a' < toks.length -> declF toks toks.length a d = some (c, a') -> Pz w0 tv w' a' d -> Upd (· = w0.heap.size) w w' -> DcAt (From w.heap.size) w' (.pointer q) c -> K (.pointer q) w')
    (hr : declF toks toks.length a d = none -> ∀ v w', Gave w0 tv (· = w0.heap.size) w d v w' -> R v w') :
    callX Tryz.prog 43 #[.pointer (some ⟨w0.heap.size, 0, none⟩)] w K R := by
  cases hF : declF toks toks.length a d with
  | none =>
    refine decl_w P G hl hd Z ha (fun q w' a' h1 h2 Z' u h => ?_) (hr hF); obtain ⟨c, e, _⟩ := h hy; rw [hF] at e; cases e
  | some r =>
    obtain ⟨c, a1⟩ := r; have h1 := declF_inc hF; have hF' := hF; refine decl_c P hl Z hF fun w' q Z' hD u' => hk q w' a1 c h1 ?_ hF' Z' u' hD
    have hni : isW toks[a] [wImport] = false := by
      cases h : isW toks[a] [wImport] with
      | false => rfl
      | true =>
        unfold isW memB at h hy; simp only [List.any_cons, List.any_nil, Bool.or_false, Bool.and_eq_true, decide_eq_true_eq] at h hy; exact absurd (h.2.symm.trans hy.2) (by decide)
    unfold declF at hF; rw [List.getElem?_eq_getElem ha] at hF; dsimp only at hF; rw [if_neg (by rw [hni]; simp), if_pos hy] at hF; split at hF
    case h_2 => cases hF
    split at hF
    case isFalse => cases hF
    split at hF
    case isFalse => cases hF
    split at hF
    . rename_i x a2 hx; simp only [Option.some.injEq, Prod.mk.injEq] at hF; have := typF_in toks _ _ _ _ _ hx; omega
    . cases hF
def Sofar (toks : List Tok) (a : Nat) (vs : List Value) (sl : Value) (n0 : Nat) (w' : World) : Prop :=
  (vs = [] /\ a = 0) \/ (∃ q c, vs = [.pointer q] /\ declF toks toks.length 0 0 = some (c, a) /\ DcAt (fun b => n0 < b /\ ¬ InRow sl b) w' (.pointer q) c) \/ (2 <= vs.length /\ ¬ ∃ c, One toks c)
theorem Sofar.upd {a : Nat} {vs : List Value} {sl : Value} {n0 : Nat} {w w' : World} {X : Nat -> Prop} (h : Sofar toks a vs sl n0 w) (u : Upd X w w') (hn : ∀ b, n0 < b /\ ¬ InRow sl b -> ¬ X b) : Sofar toks a vs sl n0 w' := by
  rcases h with h | ⟨q, c, h1, h2, h3⟩ | h
  . exact .inl h
  . exact .inr (.inl ⟨q, c, h1, h2, h3.upd u hn⟩)
  . exact .inr (.inr h)
theorem Sofar.two {a : Nat} {vs : List Value} {sl : Value} {n0 : Nat} {w : World} (h : Sofar toks a vs sl n0 w) {t : Tok} (ht : toks[a]? = some t) (hk : t.kind ≠ 0) (hv : vs ≠ []) : ¬ ∃ c, One toks c := by
  rcases h with h | ⟨q, c, h1, h2, h3⟩ | h
  . exact absurd h.1 hv
  . rintro ⟨c', a', t', e, ht', h0⟩; rw [h2] at e; cases e; rw [ht] at ht'; cases ht'; exact hk h0
  . exact h.2
end
theorem Parse_t {w : World} {s : ByteArray} {PT : List Tok -> Prop} {F : Prop} (hP : ∀ toks, PT toks -> Good toks /\ toks.length <= 900000 /\ ∃ t, toks[0]? = some t /\ isW t [wType] = true)
    (hLex : ∀ (w1 : World) (K : KV), Upd No w w1 -> (∀ w' v toks, PT toks -> RowAt w' 114 4 v (tokCells toks) -> (∀ b, InRow v b -> w1.heap.size <= b) -> Upd No w1 w' -> K (.tuple #[v, .nilIface]) w') ->
      (∀ w' v, F -> Flt v -> Upd No w1 w' -> K (.tuple #[.slice none 0 0, v]) w') -> callC Tryz.prog 40 #[.string s] w1 K)
    {K R : KV}
    (hk : ∀ w' c toks b p cap, PT toks -> One toks c -> w'.cell? p = some (.pointer b) -> DcAt (From w.heap.size) w' (.pointer b) c -> Upd No w w' -> K (.tuple #[.slice (some p) 1 cap, .nilIface]) w')
    (hn : ∀ w' toks p n cap, PT toks -> (¬ ∃ c, One toks c) -> n ≠ 1 -> Upd No w w' -> K (.tuple #[.slice p n cap, .nilIface]) w')
    (hf : ∀ w' q, (F \/ ∃ toks, PT toks /\ ¬ ∃ c, One toks c) -> Upd No w w' -> K (.tuple #[.slice none 0 0, .iface 106 (.pointer q)]) w') :
    callX Tryz.prog 24 #[.string s] w K R := by
  refine Parse_text _ _ _ _ (newC_mk fun w1 B1 u1 s1 => newC_mk fun w3 B3 u3 s3 => hLex w3 _ (up u1 u3) ?_ ?_)
  rotate_left
  . rintro w5 v hF ⟨q, e⟩ u5; subst e; have b0 := (B1.upd u3 id).upd u5 id; have b2 := B3.upd u5 id; have z5 := u5.size; refine ⟨none, 0, 0, _, rfl, ?_⟩; simp only [oneC]; refine stC_mk b2 (by simp) fun w10 B10 u10 s10 => ⟨_, B10.cell rfl, .bool true, ⟨true, rfl, brC_tt rfl (drawC_mk fun w14 u14 _ => ?_)⟩, fun w' e => by cases e; exact neq_flt _ _ _⟩; have b10 := b0.upd u10 (by omega); refine ⟨fun w' => Blk w' w1.heap.size #[.iface 106 (.pointer q)] 71, .iface 106 (.pointer q), (B10.upd u14 id).cell rfl, fun w17 h => lds_err (h.cell rfl), stC_mk (b10.upd u14 id) (by simp) fun w18 B18 u18 _ => ⟨(B10.upd u14 id).upd u18 (by omega), ?_⟩, trivial⟩; refine ⟨?_, trivial⟩; simp only [oneC]; refine stC_mk ((B10.upd u14 id).upd u18 (by omega)) (by simp) fun w19 B19 u19 _ => ⟨_, _, _, (B18.upd u19 (by omega)).cell rfl, _, B19.cell rfl, hf w19 q (.inl hF) ?_⟩; exact ((((up (up u1 u3) u5).trans u10 fun x hx (e : x = _) => by omega).trans u14 fun _ _ h => h).trans u18 fun x hx (e : x = _) => by omega).trans u19 fun x hx (e : x = _) => by omega
  intro w5 v toks hPT rowT ownT u5; obtain ⟨G, hl, t0, ht0, hy0⟩ := hP toks hPT; have hl0 : 0 < toks.length := (List.getElem?_eq_some_iff.1 ht0).1; obtain ⟨pt, nt, ct, rfl, hnt, _⟩ := rowT.shape; refine ⟨pt, nt, ct, _, rfl, ?_⟩; have b0 := (B1.upd u3 id).upd u5 id; have b2 := B3.upd u5 id; simp only [oneC]; refine stC_mk b2 (by simp) fun w10 B10 u10 s10 => ⟨_, B10.cell rfl, .bool false, ⟨false, rfl, brC_ff rfl (newC_mk fun w25 B25 u25 s25 => ?_)⟩, fun w' e => by cases e; exact neq_nil _ _⟩; have b10 := b0.upd u10 (by omega); have z5 := u5.size; have P : P0 w10 (.slice pt nt ct) toks := ⟨rowT.upd u10 fun b hb e => by have := ownT b hb; have := row_type rowT b2 (by rw [<- e]; exact hb); exact absurd this (by decide), by omega⟩; have Z25 : Pz w10 (.slice pt nt ct) w25 0 0 := ⟨u25.no, B25⟩; have U10 : Upd No w w10 := (up (up u1 u3) u5).trans u10 fun x hx (e : x = _) => by omega
  have z10 := U10.size; have w1lt := B10.lt; have nTok : ¬ InRow (.slice pt nt ct) w.heap.size := fun h => by have := ownT _ h; omega
  refine ⟨fun w' => ∃ a p n c vs, Pz w10 (.slice pt nt ct) w' a 0 /\ a < toks.length /\ Blk w' w.heap.size #[.slice p n c] 57 /\ Blk w' w1.heap.size #[.nilIface] 71 /\ RowAt w' 51 1 (.slice p n c) vs /\ (∀ b, InRow (.slice p n c) b -> w10.heap.size < b) /\
      Sofar toks a vs (.slice p n c) w10.heap.size w' /\ vs.length <= a /\ Upd No w w', fun w' => toks.length + 1 - atOf w' w10.heap.size, ?_, ?_⟩
  . exact ⟨0, none, 0, 0, [], Z25, hl0, b10.upd u25 id, B10.upd u25 id, RowAt.nil _ _ _, fun b hb => (no_in b hb).elim, .inl ⟨rfl, rfl⟩, Nat.zero_le _, up U10 u25⟩
  rintro w28 ⟨a, p, n, c, vs, Z28, hat, c0, c2, row, rowN, hds, hva, U28⟩ _; have ht : toks[a]? = some toks[a] := List.getElem?_eq_getElem hat; refine next_c P Z28 ht fun w31 u31 => ⟨_, _, _, _, rfl, brC_intro (fun hk0 => ?_) fun hk0 => ?_⟩
  . have hk0 : toks[a].kind ≠ 0 := by simpa using hk0
    refine drawC_mk fun w36 u36 _ => ⟨fun w' => Blk w' w.heap.size #[.slice p n c] 57, p, n, c, ((c0.upd u31 id).upd u36 id).cell rfl, fun w41 h => lds_decls (h.cell rfl), ?_, trivial⟩; have U36 := up u31 u36; have Z36 := Z28.keep U36; have z36 := U36.size; have nk : ∀ b, w10.heap.size < b -> ¬ b = w10.heap.size := fun b hb e => by omega
    have out : ∀ v w', (¬ ∃ c, One toks c) -> Gave w10 (.slice pt nt ct) (· = w10.heap.size) w36 0 v w' -> defP Tryz.prog (Deferred.mk (Target.fn (Fn.func 41) #[.pointer (some (Addr.mk w.heap.size 0 none)), .pointer (some (Addr.mk w1.heap.size 0 none))]) #[]) v w' (fun w55 => ∃ p56, ∃ k57, ∃ k58, w55.cell? (Addr.mk w.heap.size 0 none) = some (.slice p56 k57 k58) /\ ∃ v59, w55.cell? (Addr.mk w1.heap.size 0 none) = some v59 /\ K (.tuple #[.slice p56 k57 k58, v59]) w55) R := by
      intro v w' hno g; obtain ⟨q, rfl⟩ := g.v; refine ⟨_, _, _, _, rfl, rfl, (parseD_rec (((c0.upd u31 id).upd u36 id).upd g.u (by omega)) (((c2.upd u31 id).upd u36 id).upd g.u (by omega)) (by omega)).mono ?_⟩; rintro e u' w2 ⟨rfl, rfl, D0, D2, uD⟩; exact ⟨⟨_, rfl⟩, .inl ⟨rfl, _, _, _, D0.cell rfl, _, D2.cell rfl, hf w2 q (.inr ⟨toks, hPT, hno⟩) (((up U28 U36).trans g.u fun x hx (e : x = _) => by omega).trans uD fun x hx e => by rcases e with e | e <;> omega)⟩⟩
    have nxt : ∀ (q : Option Addr) w43 a1, a < a1 -> a1 < toks.length -> Pz w10 (.slice pt nt ct) w43 a1 0 -> Upd (· = w10.heap.size) w36 w43 -> (vs = [] -> ∃ c, declF toks toks.length 0 0 = some (c, a1) /\ DcAt (From w36.heap.size) w43 (.pointer q) c) ->
        (Blk w43 w.heap.size #[.slice p n c] 57 /\ (newC w43 (Obj.cells #[.pointer q] 51) fun k45 w46 => Blk w46 w.heap.size #[.slice p n c] 57 /\ (runC Tryz.prog (Builtin.append_ #[57, 57] 57 #[.slice p n c, .slice (some (Addr.mk k45 0 none)) 1 1]) w46 fun v47 w48 => ∃ p49, ∃ k50, ∃ k51, v47 = .slice p49 k50 k51 /\ (stC w48 (Addr.mk w.heap.size 0 none) (.slice p49 k50 k51) fun w52 =>
          (∃ a p n c vs, Pz w10 (.slice pt nt ct) w52 a 0 /\ a < toks.length /\ Blk w52 w.heap.size #[.slice p n c] 57 /\ Blk w52 w1.heap.size #[.nilIface] 71 /\ RowAt w52 51 1 (.slice p n c) vs /\ (∀ b, InRow (.slice p n c) b -> w10.heap.size < b) /\
      Sofar toks a vs (.slice p n c) w10.heap.size w52 /\ vs.length <= a /\ Upd No w w52) /\ toks.length + 1 - atOf w52 w10.heap.size < toks.length + 1 - atOf w28 w10.heap.size) /\ True) /\ True) /\ True) := by
      intro q w43 a1 ha1 ha1l Z43 u43 hdc; refine ⟨(c0.upd U36 id).upd u43 (by omega), newC_mk fun w46 B46 u46 s46 => ⟨((c0.upd U36 id).upd u43 (by omega)).upd u46 id, ?_, trivial⟩, trivial⟩; have z43 := u43.size; have row46 := ((row.upd U36 fun _ _ h => h).upd u43 fun b hb => nk b (rowN b hb)).upd u46 fun _ _ h => h; have hnr := row_cap row46; refine grow_row elemDc (n0 := w10.heap.size) ⟨row46, fun b hb => by have := rowN b hb; omega, hnr.1, hnr.2⟩ (by have := Z36.lt; omega) (row_one B46) (by intro u hu; simp at hu; subst hu; rfl) (by omega) (by simp; omega) fun p' n' c' w48 o48 _ hin48 u48 => ?_; have c48 := (((c0.upd U36 id).upd u43 (by omega)).upd u46 id).upd u48 (fun h => by have := rowN _ h; omega); have e48 := (((c2.upd U36 id).upd u43 (by omega)).upd u46 id).upd u48 (fun h => by have := rowN _ h; omega)
      have rowN48 : ∀ b, InRow (.slice p' n' c') b -> w10.heap.size < b := fun b hb => by
        rcases hin48 b hb with h | h
        . exact rowN b h
        . have := Z28.lt; omega
      refine ⟨stC_mk c48 (by simp) fun w52 B52 u52 _ => ⟨⟨a1, p', n', c', vs ++ [.pointer q], ?_, ha1l, B52, e48.upd u52 (by omega), o48.row.upd u52 (fun b hb e => by have := rowN48 b hb; omega), rowN48, ?_, by simp; omega, ?_⟩, ?_⟩, trivial⟩
      . exact ⟨((Z43.keep u46).up.trans u48 fun y hy h => by have := rowN y h; omega).trans u52 fun y hy (e : y = _) => e ▸ nTok, ((Z43.keep u46).blk.upd u48 fun h => by have := rowN _ h; omega).upd u52 (by omega)⟩
      . by_cases hv : vs = []
        . obtain ⟨dc, e, hd⟩ := hdc hv; refine .inr (.inl ⟨q, dc, by rw [hv]; rfl, e, ?_⟩); refine DcAt.upd ?_ u52 fun b hb e => by have := hb.1; omega
          have h1 : DcAt (fun b => w36.heap.size <= b /\ b < w43.heap.size) w46 (.pointer q) dc := (hd.mono (G := fun b => w36.heap.size <= b /\ b < w43.heap.size) fun b hlt hb => ⟨hb, hlt⟩).upd u46 fun _ _ h => h
          exact (h1.upd u48 fun b hb h => by have := row.lt h; omega).mono fun b _ hb => ⟨by have := Z36.lt; omega, fun h => by
            rcases hin48 b h with h2 | h2
            . have := row.lt h2; omega
            . have := u46.size; omega⟩
        . refine .inr (.inr ⟨?_, hds.two ht hk0 hv⟩); have : 0 < vs.length := List.length_pos_iff.2 hv; simp; omega
      . exact ((((up U28 U36).trans u43 fun y hy (e : y = _) => by omega).trans u46 fun _ _ h => h).trans u48 fun y hy h => by have := rowN y h; omega).trans u52 fun y hy (e : y = _) => by omega
      . have zz : Pz w10 (.slice pt nt ct) w52 a1 0 := ⟨((Z43.keep u46).up.trans u48 fun y hy h => by have := rowN y h; omega).trans u52 fun y hy (e : y = _) => e ▸ nTok, ((Z43.keep u46).blk.upd u48 fun h => by have := rowN _ h; omega).upd u52 (by omega)⟩; rw [zz.at_, Z28.at_]; omega
    by_cases hv : vs = []
    . have ha0 : a = 0 := by
        rcases hds with h | ⟨q, c, h1, _⟩ | h
        . exact h.2
        . rw [h1] at hv; cases hv
        . have := h.1; rw [hv] at this; simp at this
      subst ha0
      have hy : isW toks[0] [wType] = true := by
        have : toks[0] = t0 := by rw [ht0] at ht; cases ht; rfl
        rw [this]; exact hy0
      refine decl_z P G hl (by omega) Z36 hat hy (fun q w43 a1 dc h1 h2 hF Z43 u43 hD => ⟨q, rfl, ?_⟩) fun hF v w' g => out v w' (fun ⟨c, a', t, e, _⟩ => by rw [hF] at e; cases e) g; exact nxt q w43 a1 h1 h2 Z43 u43 fun _ => ⟨dc, hF, hD⟩
    . refine decl_w P G hl (by omega) Z36 hat (fun q w43 a1 h1 h2 Z43 u43 _ => ⟨q, rfl, ?_⟩) fun v w' g => out v w' (hds.two ht hk0 hv) g; exact nxt q w43 a1 h1 h2 Z43 u43 fun h => absurd h hv
  . have hk0 : toks[a].kind = 0 := by simpa using hk0
    have d0 := c0.upd u31 id; have d2 := c2.upd u31 id; refine ⟨p, n, c, d0.cell rfl, stC_mk d0 (by simp) fun w63 B63 u63 _ => stC_mk (d2.upd u63 (by omega)) (by simp) fun w64 B64 u64 _ => ?_⟩; have b64 := B63.upd u64 (by omega); refine ⟨_, _, _, _, rfl, rfl, (parseD_idle _ _ w64).mono ?_⟩; rintro e u w65 ⟨rfl, rfl, rfl⟩; refine ⟨⟨_, rfl⟩, rfl, _, _, _, b64.cell rfl, _, B64.cell rfl, ?_⟩; have U64 : Upd No w w65 := ((up U28 u31).trans u63 fun y hy (e : y = _) => by omega).trans u64 fun y hy (e : y = _) => by omega
    have row64 := ((row.upd u31 fun _ _ h => h).upd u63 fun b hb e => by have := rowN b hb; omega).upd u64 fun b hb e => by have := rowN b hb; omega
    have S64 := ((hds.upd u31 fun _ _ h => h).upd u63 fun b hb (e : b = _) => by have := hb.1; omega).upd u64 fun b hb (e : b = _) => by have := hb.1; omega
    obtain ⟨p', n', c', e, hnn, _⟩ := row64.shape; cases e; rcases S64 with ⟨_, ha0⟩ | ⟨q, dc, hv, hF, hD⟩ | ⟨h2, hno⟩
    . subst ha0; have : toks[0] = t0 := by rw [ht0] at ht; cases ht; rfl
      rw [this] at hk0; exact absurd hk0 (isW_kind hy0)
    . subst hv; have : n = 1 := by simp at hnn; omega
      subst this; obtain ⟨g0, o0, rfl, hc⟩ := row64.get (j := 0) (by simp); exact hk w65 dc toks q _ _ hPT ⟨a, _, hF, ht, hk0⟩ hc (hD.mono fun b _ hb => (show w.heap.size <= b by have := hb.1; omega)) U64
    . exact hn w65 toks _ _ _ hPT hno (by omega) U64
section
variable {w : World} {K : KV}
theorem written_t {x : ByteArray} (hx : x.size <= 90000) {PT : List Tok -> Prop} {F : Prop} (hP : ∀ toks, PT toks -> Good toks /\ toks.length <= 900000 /\ ∃ t, toks[0]? = some t /\ isW t [wType] = true)
    (hLex : ∀ (w1 : World) (K : KV), Upd No w w1 -> (∀ w' v toks, PT toks -> RowAt w' 114 4 v (tokCells toks) -> (∀ b, InRow v b -> w1.heap.size <= b) -> Upd No w1 w' -> K (.tuple #[v, .nilIface]) w') ->
      (∀ w' v, F -> Flt v -> Upd No w1 w' -> K (.tuple #[.slice none 0 0, v]) w') -> callC Tryz.prog 40 #[.string (typeX ++ x)] w1 K)
    (hk : ∀ w' c toks q, PT toks -> One toks c -> XAt idx (From 0) w' (.pointer q) c.t -> Upd No w w' -> K (.pointer q) w')
    (hn : ∀ w', (F \/ ∃ toks, PT toks /\ ¬ ∃ c, One toks c) -> Upd No w w' -> K (.pointer none) w') :
    callC Tryz.prog 9 #[.string x] w K := by
  refine written_text _ _ _ ⟨by omega, callC_ofX (Parse_t hP hLex (fun w1 c toks b p cap hPT h1 hc hD u1 => ?_) (fun w1 toks p n cap hPT h1 hne u1 => ?_) fun w1 q hh u1 => ?_)⟩
  . obtain ⟨b', tvv, e, _, hB, hX⟩ := hD; cases e; obtain ⟨q, rfl⟩ := x_ptr hX; refine ⟨_, _, _, _, rfl, fun w' => w' = w1, ?_, fun bb w' => bb = false /\ w' = w1, ?_, ?_⟩
    . rintro w' rfl _; exact ⟨by omega, by omega, ptrC_some ⟨_, by simpa [addr_add_zero] using hc, ptrC_some ⟨_, by rw [add_mk]; exact hB.cell rfl, hk _ c toks _ hPT h1 (hX.mono fun b _ _ => Nat.zero_le b) u1⟩⟩⟩
    . rintro bb w' ⟨rfl, rfl⟩ _; exact brC_ff rfl rfl
    . exact ⟨_, ⟨_, rfl, brC_ff rfl ⟨rfl, rfl⟩⟩, fun w' e => by cases e; exact neq_nil _ _⟩
  . refine ⟨_, _, _, _, rfl, fun _ => False, fun _ h => h.elim, fun bb w' => bb = true /\ w' = w1, ?_, ?_⟩
    . rintro bb w' ⟨rfl, rfl⟩ _; exact brC_tt rfl (hn _ (.inr ⟨toks, hPT, h1⟩) u1)
    . exact ⟨_, ⟨_, rfl, brC_ff rfl ⟨by simp; omega, rfl⟩⟩, fun w' e => by cases e; exact neq_nil _ _⟩
  . refine ⟨_, _, _, _, rfl, fun _ => False, fun _ h => h.elim, fun bb w' => bb = true /\ w' = w1, ?_, ?_⟩
    . rintro bb w' ⟨rfl, rfl⟩ _; exact brC_tt rfl (hn _ hh u1)
    . exact ⟨_, ⟨_, rfl, brC_tt rfl ⟨rfl, rfl⟩⟩, fun w' e => by cases e; exact neq_flt _ _ _⟩
end
def bX' : ByteArray := ByteArray.mk #[88]
def q0 : Tok := ⟨2, wType, 0, 0⟩
def q1 : Tok := ⟨1, bX', 0, 5⟩
def q2 : Tok := ⟨5, wEq, 0, 7⟩
def Late (t : Tok) : Prop := t.kind ≠ 0 /\ 9 <= t.at_ /\ (t.kind = 1 -> NameB t.text)
def Jx (a : Nat) (ts : List Tok) : Prop := (a = 0 /\ ts = []) \/ (a = 4 /\ ts = [q0]) \/ (a = 5 /\ ts = [q0]) \/ (a = 6 /\ ts = [q0, q1]) \/ (a = 7 /\ ts = [q0, q1]) \/ (a = 8 /\ ts = [q0, q1, q2]) \/ (9 <= a /\ ∃ ts', ts = q0 :: q1 :: q2 :: ts' /\ ∀ t ∈ ts', Late t)
theorem txt_typeX (x : ByteArray) : txt (typeX ++ x) = 116 :: 121 :: 112 :: 101 :: 32 :: 88 :: 32 :: 61 :: 32 :: txt x := by
  cases x; simp [txt, typeX]
theorem tokF_type (r : List UInt8) : tokF (116 :: 121 :: 112 :: 101 :: 32 :: r) = some (2, wType, 4) := by
  have h := tok_word (c := 116) (w := [121, 112, 101]) (r := 32 :: r) (by decide) (by decide) (by decide) (fun c e => by cases e; decide); rw [show memB (bs (116 :: [121, 112, 101])) kwL = true by decide +kernel] at h; exact h
theorem tokF_X (r : List UInt8) : tokF (88 :: 32 :: r) = some (1, bX', 1) := by
  have h := tok_word (c := 88) (w := []) (r := 32 :: r) (by decide) (by decide) (by decide) (fun c e => by cases e; decide); rw [show memB (bs (88 :: [])) kwL = false by decide +kernel] at h; exact h
theorem tokF_eq (r : List UInt8) : tokF (61 :: 32 :: r) = some (5, wEq, 1) := by kernel_rfl
theorem jx (x : ByteArray) : LxJ (typeX ++ x) Jx where
  z := .inl ⟨rfl, rfl⟩
  sp a ts c hc hs hJ := by
    rw [txt_typeX] at hc; rcases hJ with ⟨rfl, rfl⟩ | ⟨rfl, rfl⟩ | ⟨rfl, rfl⟩ | ⟨rfl, rfl⟩ | ⟨rfl, rfl⟩ | ⟨rfl, rfl⟩ | ⟨h, ts', rfl, hl⟩
    . cases hc; rcases hs with h | h | h | h <;> exact absurd h (by decide)
    . exact .inr (.inr (.inl ⟨rfl, rfl⟩))
    . cases hc; rcases hs with h | h | h | h <;> exact absurd h (by decide)
    . exact .inr (.inr (.inr (.inr (.inl ⟨rfl, rfl⟩))))
    . cases hc; rcases hs with h | h | h | h <;> exact absurd h (by decide)
    . exact .inr (.inr (.inr (.inr (.inr (.inr ⟨Nat.le_refl _, [], rfl, fun _ h => by cases h⟩)))))
    . exact .inr (.inr (.inr (.inr (.inr (.inr ⟨by omega, ts', rfl, hl⟩)))))
  rm a a' ts hc ha hJ := by
    rw [txt_typeX] at hc; rcases hJ with ⟨rfl, rfl⟩ | ⟨rfl, rfl⟩ | ⟨rfl, rfl⟩ | ⟨rfl, rfl⟩ | ⟨rfl, rfl⟩ | ⟨rfl, rfl⟩ | ⟨h, ts', rfl, hl⟩
    . cases hc
    . cases hc
    . cases hc
    . cases hc
    . cases hc
    . cases hc
    . exact .inr (.inr (.inr (.inr (.inr (.inr ⟨by omega, ts', rfl, hl⟩)))))
  tk a a' ts t c hc hs hT ha ha' hF hJ := by
    rw [txt_typeX] at hc hF; rcases hJ with ⟨rfl, rfl⟩ | ⟨rfl, rfl⟩ | ⟨rfl, rfl⟩ | ⟨rfl, rfl⟩ | ⟨rfl, rfl⟩ | ⟨rfl, rfl⟩ | ⟨h, ts', rfl, hl⟩
    . obtain ⟨rfl, rfl⟩ := hF _ _ _ (tokF_type _); exact .inr (.inl ⟨rfl, rfl⟩)
    . cases hc; exact absurd rfl hs.1
    . obtain ⟨rfl, rfl⟩ := hF _ _ _ (tokF_X _); exact .inr (.inr (.inr (.inl ⟨rfl, rfl⟩)))
    . cases hc; exact absurd rfl hs.1
    . obtain ⟨rfl, rfl⟩ := hF _ _ _ (tokF_eq _); exact .inr (.inr (.inr (.inr (.inr (.inl ⟨rfl, rfl⟩)))))
    . cases hc; exact absurd rfl hs.1
    . refine .inr (.inr (.inr (.inr (.inr (.inr ⟨by omega, ts' ++ [t], rfl, fun y hy => ?_⟩))))); rcases List.mem_append.1 hy with h' | h'
      . exact hl y h'
      . rw [List.mem_singleton.1 h']; exact ⟨hT.kind, by rw [hT.at_]; exact h, hT.name⟩
def PT9 (n : Nat) (toks : List Tok) : Prop := ∃ ts, toks = q0 :: q1 :: q2 :: (ts ++ [⟨0, .empty, 0, 9 + n⟩]) /\ (∀ t ∈ ts, Late t) /\ ts.length <= n + 9
theorem pt9 {n : Nat} (hn : n <= 90000) {toks : List Tok} (h : PT9 n toks) : Good toks /\ toks.length <= 900000 /\ ∃ t, toks[0]? = some t /\ isW t [wType] = true := by
  obtain ⟨ts, rfl, _, hl⟩ := h; refine ⟨good_end (ts := q0 :: q1 :: q2 :: ts) rfl, by simp; omega, q0, rfl, by decide⟩
theorem size_typeX (x : ByteArray) : (typeX ++ x).size = 9 + x.size := by rw [ByteArray.size_append]; rfl
theorem lex9 {w : World} (g : Gu w) {x : ByteArray} (hx : x.size <= 90000) (w1 : World) (K : KV) (u : Upd No w w1)
    (hk : ∀ w' v toks, PT9 x.size toks -> RowAt w' 114 4 v (tokCells toks) -> (∀ b, InRow v b -> w1.heap.size <= b) -> Upd No w1 w' -> K (.tuple #[v, .nilIface]) w')
    (hf : ∀ w' v, True -> Flt v -> Upd No w1 w' -> K (.tuple #[.slice none 0 0, v]) w') : callC Tryz.prog 40 #[.string (typeX ++ x)] w1 K := by
  have hsz := size_typeX x; refine callC_ofXR (Lex_t (g.keep u) (by omega) (jx x) (fun w' v toks hJ hl hr ho hu => hk w' v _ ?_ hr ho hu) fun w' v hv hu => hf w' v trivial hv hu); rcases hJ with ⟨h, _⟩ | ⟨h, _⟩ | ⟨h, _⟩ | ⟨h, _⟩ | ⟨h, _⟩ | ⟨h, _⟩ | ⟨_, ts', rfl, hl'⟩
  . omega
  . omega
  . omega
  . omega
  . omega
  . omega
  . exact ⟨ts', by rw [hsz]; rfl, hl', by rw [hsz] at hl; simp only [List.length_cons] at hl; omega⟩
theorem declF_typ {toks : List Tok} {t0 t1 t2 : Tok} (h0 : toks[0]? = some t0) (h1 : toks[1]? = some t1) (h2 : toks[2]? = some t2) (k0 : isW t0 [wImport] = false) (k0' : isW t0 [wType] = true) (k1 : t1.kind = 1) (k2 : isW t2 [wEq] = true) (fu : Nat) :
    declF toks fu 0 0 = match typF toks fu 3 0 with
      | some (x, a1) => some (⟨2, t0.at_, t1.text, .empty, x⟩, a1)
      | none => none := by
  unfold declF; rw [h0]; dsimp only; rw [if_neg (by rw [k0]; simp), if_pos k0', show toks[0 + 1]? = some t1 from h1, show toks[0 + 2]? = some t2 from h2]; dsimp only; rw [if_pos k1, if_pos k2]; rfl
theorem one9 {n : Nat} {toks : List Tok} {c : Dc} (h : PT9 n toks) (h1 : One toks c) : Wok 9 c.t /\ lsz c.t <= n + 20 := by
  obtain ⟨ts, rfl, hl, hn⟩ := h; obtain ⟨a', t, e, ht, _⟩ := h1; rw [declF_typ (t0 := q0) (t1 := q1) (t2 := q2) rfl rfl rfl (by decide) (by decide) rfl (by decide)] at e; split at e
  . rename_i x a1 hx; cases e
    have T : Toks (q0 :: q1 :: q2 :: (ts ++ [⟨0, .empty, 0, 9 + n⟩])) 9 3 := fun i t ht hi => by
      obtain ⟨j, rfl⟩ : ∃ j, i = j + 3 := ⟨i - 3, by omega⟩; have ht : (ts ++ [(⟨0, .empty, 0, 9 + n⟩ : Tok)])[j]? = some t := ht; rcases List.mem_append.1 (List.mem_of_getElem? ht) with h | h
      . exact ⟨by have := (hl t h).2.1; omega, (hl t h).2.2⟩
      . rw [List.mem_singleton.1 h]; exact ⟨by show (9 : Int) <= ((9 + n : Nat) : Int); omega, fun h => absurd h (show ¬ (0 : Int) = 1 by decide)⟩
    obtain ⟨k1, k2⟩ := typF_wok T _ _ _ _ _ (Nat.le_refl 3) hx; refine ⟨k1, ?_⟩; have := (List.getElem?_eq_some_iff.1 ht).1; simp at this; show lsz x <= _; omega
  . cases e
theorem lszs_take {l : List Wt} {i : Nat} (hi : i < l.length) : lszs (l.take (i + 1)) = lszs (l.take i) + lsz l[i] := by
  rw [List.take_succ_eq_append_getElem hi, lszs_app, lszs_one]
theorem lszs_take_le (l : List Wt) (i : Nat) : lszs (l.take i) <= lszs l := by
  have := lszs_app (l.take i) (l.drop i); rw [List.take_append_drop] at this; omega
theorem lsz_get {l : List Wt} {i : Nat} (hi : i < l.length) : lszs (l.take i) + lsz l[i] <= lszs l := by
  rw [<- lszs_take hi]; exact lszs_take_le _ _
theorem lsize_c : ∀ (t : Wt) (w : World) (x : Option Addr) (K : KV), XAt idx (From 0) w (.pointer x) t -> lsz t <= 1000000 -> (∀ w', Upd No w w' -> K (.int .i64 ((lsz t : Nat) : Int)) w') -> callC Tryz.prog 13 #[.pointer x] w K := by
  refine Go.Tx.ind ?_ ?_
  . intro w x K hX _ hk; have e : (Value.pointer x) = .pointer none := hX; injection e with e; subst e; have h := hk w (Upd.refl _ _); rw [lsz_nil] at h; exact lsize_text _ _ _ (brC_tt rfl h)
  . intro k a al nm ns xs r ha hr w x K hX hl hk; obtain ⟨b, p, n, c, p', n', c', q, rfl, hB, _, _, hR, hXr⟩ := x_open hX; rw [lsz_mk] at hl hk; obtain ⟨hn, hnc, hcm, hget⟩ := hR.get; simp only [maxLen] at hcm; refine lsize_text _ _ _ (brC_ff rfl (ptrC_some ⟨q, by rw [add_mk]; exact hB.cell rfl, hr w q _ hXr (by omega) fun w3 u3 => ⟨_, rfl, ?_⟩⟩)); refine ⟨fun m j w' => ∃ i : Nat, j = i /\ i <= xs.length /\ m = ((1 + lsz r + lszs (xs.take i) : Nat) : Int) /\ Upd No w w', fun _ j _ => (xs.length - j).toNat, ⟨0, rfl, Nat.zero_le _, ?_, u3⟩, ?_⟩
    . rw [Go.SX.wrap_small (by omega) (by omega)]; simp [lszs]
    rintro m j w9 ⟨i, rfl, hi, rfl, u9⟩ _; refine ptrC_some ⟨p', n', c', by rw [add_mk]; exact (hB.upd u9 id).cell rfl, brC_intro (fun hlt => ?_) fun hge => ?_⟩
    . have hlt : i < xs.length := by have := of_decide_eq_true hlt; omega
      have hsum := lsz_get hlt; refine ptrC_some ⟨p', n', c', by rw [add_mk]; exact (hB.upd u9 id).cell rfl, by omega, by omega, ?_⟩; obtain ⟨g, o, v, rfl, hc, hx⟩ := hget i xs[i] (List.getElem?_eq_getElem hlt); obtain ⟨q2, rfl⟩ := x_ptr hx; refine ptrC_some ⟨q2, by rw [add_mk, Int.toNat_natCast, Nat.mul_one]; exact cell_keep hc u9, ha xs[i] (List.getElem_mem hlt) w9 q2 _ (hx.keep u9) (by omega) fun w22 u22 => ⟨_, rfl, ⟨i + 1, ?_, hlt, ?_, up u9 u22⟩, ?_⟩⟩
      . rw [wrap_succ (by omega)]
      . rw [Go.SX.wrap_small (by omega) (by omega), lszs_take hlt]; omega
      . dsimp only; rw [wrap_succ (by omega)]; omega
    . have hie : i = xs.length := by have := of_decide_eq_false hge; omega
      subst hie; rw [List.take_length]; have h := hk w9 u9; rw [show ((1 + lsz r + lszs xs : Nat) : Int) = ((1 + lsz r + lszs xs : Nat) : Int) from rfl] at h; exact h
def sNames (S : Sc) (N : List ByteArray) : Bool := (S.owns.all fun x => memB (S.path ++ dotB ++ x.1) N) && (S.als.all fun a => !a.2.dark && a.2.types.all fun e => memB (a.2.path ++ dotB ++ e.1) N)
theorem snames_of {S : Sc} {N : List ByteArray} (h : sNames S N = true) : SNames S N := by
  unfold sNames at h; rw [Bool.and_eq_true, List.all_eq_true, List.all_eq_true] at h; intro x y t ht; unfold nameF at ht; split at ht
  . split at ht
    . rename_i hy; cases ht; refine ⟨_, ?_, rfl⟩; unfold ownF at hy
      cases e : S.owns.find? fun x => x.1 = y with
      | none => rw [e] at hy; cases hy
      | some z =>
        have h1 := List.find?_some e; have h2 := h.1 z (List.mem_of_find?_eq_some e); rw [<- of_decide_eq_true h1]; exact memB_iff.1 h2
    . cases ht
  . split at ht
    . cases ht
    . rename_i a ha; unfold alF at ha
      cases e : S.als.find? fun z => z.1 = x with
      | none => rw [e] at ha; cases ha
      | some z =>
        rw [e] at ha; cases ha; have h2 := h.2 z (List.mem_of_find?_eq_some e); rw [Bool.and_eq_true, List.all_eq_true] at h2; split at ht
        . rename_i hd; rw [hd] at h2; cases h2.1
        . split at ht
          . rename_i hy; cases ht; obtain ⟨e', he', hl⟩ := expF_mem hy; refine ⟨_, ?_, rfl⟩; have h3 := h2.2 e' he'
            have : e'.1 = y := by
              have h4 : (e'.1.toList == y.toList) = true := by rw [hl]; exact beq_self_eq_true _
              rw [beq_bytes] at h4; exact of_decide_eq_true h4
            rw [<- this]; exact memB_iff.1 h3
          . cases ht
def bU' : ByteArray := ByteArray.mk #[109, 46, 85]
def bT' : ByteArray := ByteArray.mk #[109, 46, 84]
def src3 : ByteArray := ByteArray.mk #[105, 109, 112, 111, 114, 116, 32, 34, 108, 34, 32, 97, 115, 32, 117, 32, 116, 121, 112, 101, 32, 84, 32, 61, 32, 123, 97, 58, 32, 84, 125, 32, 116, 121, 112, 101, 32, 85, 32, 61, 32, 84]
theorem src3_ok : (parseA src3).isSome = true /\ dsOkB (dsOf src3) = true /\ clsB (dsOf src3) = true := by decide +kernel
def S3 : Sc := (scOf src3).1
def N3 : List ByteArray := [bT', bU', lVn]
theorem S3_names : sNames S3 N3 = true /\ S3.path = bM := by decide +kernel
theorem N3_ok : NamesOk N3 := by
  intro nm h; have : N3.all (fun nm => namedL (txt nm)) = true := by decide +kernel
  exact List.all_eq_true.1 this nm h
theorem cut_size (x : ByteArray) (n : Nat) : (x.extract 0 n).size <= n := by rw [ByteArray.size_extract]; omega
theorem wok_ptr {lo : Int} {t : Wt} (h : Wok lo t) {F : Nat -> Prop} {w : World} {q : Option Addr} (hX : XAt idx F w (.pointer q) t) : q.isNone = false := by
  cases h with
  | mk k a al nm ns xs r _ _ _ _ _ =>
    obtain ⟨b, _, _, _, _, _, _, _, rfl, _⟩ := x_open hX; rfl
theorem nmay_c {w : World} {x : ByteArray} {K : KV} (g : Gu w) (hk : ∀ w', Upd No w w' -> K (.bool true) w') : callC Tryz.prog 3 #[.string x] w K := by
  refine may_text _ _ _ (works_c g.g fun w1 u1 => ⟨_, rfl, brC_ff rfl ?_⟩); refine scope_c (cl := cl1) (s := src3) (g.g.keep u1) (by decide) (parse_of src3_ok.1) (dsOk_of src3_ok.2.1) (cls_of src3_ok.2.2) fun q p n c w4 hS hrow0 okS u4 => ⟨_, _, _, _, _, rfl, ?_⟩; have hS : ScAt w4 q S3 := hS; have okS : ScOk S3 := okS; refine ⟨by omega, by split <;> omega, by split <;> omega, ?_⟩
  have hcut : (x.extract 0 (Int.toNat (if 2000 < (x.size : Int) then 2000 else (x.size : Int)))).size <= 2000 := by
    refine Nat.le_trans (cut_size _ _) ?_; split <;> omega
  generalize x.extract 0 (Int.toNat (if 2000 < (x.size : Int) then 2000 else (x.size : Int))) = y at hcut; have U4 := up u1 u4; refine written_t (x := y) (by omega) (PT := PT9 y.size) (F := True) (fun toks h => pt9 (by omega) h) (fun w1 K u hk hf => lex9 (g.keep U4) (by omega) w1 K u hk hf) (fun w11 cd toks q12 hPT h1 hX u11 => ?_) fun w11 _ u11 => ?_
  rotate_left
  . refine ⟨none, rfl, fun _ => False, fun _ h => h.elim, fun b w' => b = true /\ w' = w11, ?_, brC_ff rfl ⟨rfl, rfl⟩⟩; rintro b w' ⟨rfl, rfl⟩ _; exact brC_tt rfl (hk _ (up U4 u11))
  obtain ⟨hw, hsz⟩ := one9 hPT h1; have hxs := hw.xsz; have hp := wok_ptr hw hX; refine ⟨q12, rfl, fun w' => w' = w11, ?_, fun b w' => b = false /\ w' = w11, ?_, brC_ff rfl ⟨hp, rfl⟩⟩
  rotate_left
  . rintro b w' ⟨rfl, rfl⟩ _; exact brC_ff rfl rfl
  rintro w' rfl _; refine Resolve_c (hS.keep u11) okS hX (by omega) fun q18 v w17 ht hrow own u17 => ?_; obtain ⟨p19, n20, c21, rfl, hn20, _, _⟩ := hrow.shape; rw [dgCells_len] at hn20; have hn20 : n20 = (resF S3 cd.t).2.length := by omega
  have hdg := res_told S3 cd.t; refine ⟨_, _, _, _, rfl, c_check ht fun w23 u23 => ⟨_, rfl, brC_ff (by rw [res_check (snames_of S3_names.1) N3_ok]; rfl) ?_⟩⟩; have hrow := hrow.upd u23 fun _ _ h => h; have U23 := up (up (up U4 u11) u17) u23; refine ⟨fun m w' => ∃ i : Nat, m = i /\ i <= n20 /\ Upd No w23 w', fun m _ => (n20 - m).toNat, ⟨0, rfl, Nat.zero_le _, Upd.refl _ _⟩, ?_⟩; rintro m w28 ⟨i, rfl, hi, u28⟩ _; refine brC_intro (fun hlt => ?_) fun hge => ?_
  . have hlt : i < n20 := by have := of_decide_eq_true hlt; omega
    have hlt' : i < (resF S3 cd.t).2.length := by omega
    obtain ⟨_, _, g0, o0, rfl, c1, c2, _⟩ := dg_get (hrow.upd u28 fun _ _ h => h) (List.getElem?_eq_getElem hlt'); have hlo := res_lo (S := S3) hw _ (List.getElem_mem hlt'); refine ⟨fun w' => Upd No w23 w', fun w31 u31 _ => ⟨⟨i + 1, by rw [wrap_succ (by omega)], hlt, u31⟩, by dsimp only; rw [wrap_succ (by omega)]; omega⟩, fun b w' => b = false /\ Upd No w23 w', ?_, by omega, by omega, ptrC_some ⟨S3.path, by rw [add_mk, Int.toNat_natCast]; exact c1, brC_ff ?_ ⟨by omega, by omega, ptrC_some ⟨_, by rw [add_mk, add_mk, Int.toNat_natCast]; exact c2, decide_eq_false (by omega), u28⟩⟩⟩⟩
    . rintro b w' ⟨rfl, u'⟩ _; exact brC_ff rfl u'
    . exact n_tt (tl_eq S3_names.2)
  . have U28 := up U23 u28; refine brC_intro (fun _ => hk _ U28) fun hz => ?_; have hz : n20 = 0 := by have := of_decide_eq_false hz; omega
    have h0 : (resF S3 cd.t).2 = [] := List.eq_nil_of_length_eq_zero (by omega); have hle := res_size (snames_of S3_names.1) hw h0; refine c_size (ht.keep (up u23 u28)) fun w42 u42 => ⟨_, rfl, lsize_c cd.t w42 q12 _ (hX.keep (up (up u17 u23) (up u28 u42))) (by omega) fun w45 u45 => ⟨_, rfl, ?_⟩⟩; rw [decide_eq_true (by omega)]; exact hk _ (up U28 (up u42 u45))
theorem One.eq {toks : List Tok} {c c' : Dc} (h : One toks c) (h' : One toks c') : c = c' := by
  obtain ⟨a, t, e, _⟩ := h; obtain ⟨a', t', e', _⟩ := h'; rw [e] at e'; cases e'; rfl
end Go.Proofs.YtdbkclnlfibgdaaGreatDoor
namespace Go.Proofs.YtdbkclnlfibgdaaGreatDoor
open Go.ChangeShapes Go.WideShapes Go.ChangeAt Go.RowKit Go.SX
theorem first_eq : (Rows.laid_unicode_utf8_first : DataW Unit) = Lib.firstData := by kernel_rfl
theorem accept_eq : (Rows.laid_unicode_utf8_acceptRanges : DataW Unit) = Lib.acceptData := by kernel_rfl
theorem gu_of {W : World} (h : laidMetH Tryz.prog Rows.namesDarkRow.laid W) : Gu W := by
  refine ⟨gl_of h, ?_⟩; have h1 := h.filter (fun x => x.1 == "unicode/utf8.first" || x.1 == "unicode/utf8.acceptRanges")
  have h2 : laidMetH Tryz.prog [("unicode/utf8.acceptRanges", Rows.laid_unicode_utf8_acceptRanges), ("unicode/utf8.first", Rows.laid_unicode_utf8_first)] W := by
    have e : (Rows.namesDarkRow.laid.filter fun x => x.1 == "unicode/utf8.first" || x.1 == "unicode/utf8.acceptRanges") = [("unicode/utf8.acceptRanges", Rows.laid_unicode_utf8_acceptRanges), ("unicode/utf8.first", Rows.laid_unicode_utf8_first)] := by kernel_rfl
    rw [<- e]; exact h1
  rw [first_eq, accept_eq, MakeChecks.laidMetH_plain _ _ _ (by kernel_rfl)] at h2; exact utf8Tabs_of_readsT { Tryz.drL with } ⟨by kernel_rfl, by kernel_rfl, by kernel_rfl, by kernel_rfl, by kernel_rfl, by kernel_rfl, by kernel_rfl⟩ (Lib.laidMet.reads h2 (.tail _ (.head _))) (Lib.laidMet.reads h2 (.head _))
end Go.Proofs.YtdbkclnlfibgdaaGreatDoor
