/- Joined by program of: A1, A2, A3, A4, A5, A6, A7, A8, A9, Aa, Pu. -/
import Derived.Test.YtdbkclnlfibgdaaGreatDoorWh
import Derived.Test.YtdbkclnlfibgdaaGreatDoorWi
import Derived.Test.YtdbkclnlfibgdaaGreatDoorWe
import Derived.Test.YtdbkclnlfibgdaaGreatDoorWg
import Derived.Test.YtdbkclnlfibgdaaGreatDoorWf
import Derived.Lib.LaidU8T
set_option maxRecDepth 100000
set_option maxHeartbeats 4000000
namespace Go.Proofs.YtdbkclnlfibgdaaGreatDoor
open Go.SX Go.Ty Go.MapKept Go.RowKit Go.Tx
mutual
def lsz : Wt -> Nat
  | .nil => 0
  | .mk _ _ _ _ _ l r => 1 + lsz r + lszs l
def lszs : List Wt -> Nat
  | [] => 0
  | a :: l => lsz a + lszs l
end
theorem lszs_app (l m : List Wt) : lszs (l ++ m) = lszs l + lszs m := by
  induction l with
  | nil => simp [lszs]
  | cons a l ih => simp only [List.cons_append, lszs, ih]; omega
theorem lszs_one (x : Wt) : lszs [x] = lsz x := by simp [lszs]
theorem lsz_mk {k a : Int} {al nm : ByteArray} {ns : List ByteArray} {xs : List Wt} {r : Wt} : lsz (.mk k a al nm ns xs r) = 1 + lsz r + lszs xs := by simp [lsz]
theorem lsz_nil : lsz .nil = 0 := by simp [lsz]
inductive Wok (lo : Int) : Wt -> Prop
  | mk (k a : Int) (al nm : ByteArray) (ns : List ByteArray) (xs : List Wt) (r : Wt) (h1 : lo <= a) (h2 : ∀ n ∈ ns, NameB n) (h3 : ∀ x ∈ xs, Wok lo x) (h4 : r ≠ .nil -> Wok lo r) (h5 : k = 8 -> r ≠ .nil) : Wok lo (.mk k a al nm ns xs r)
theorem Wok.xsz {lo : Int} {t : Wt} (h : Wok lo t) : xsz t + 1 <= 2 * lsz t := by
  induction h with
  | mk k a al nm ns xs r h1 h2 h3 h4 h5 i3 i4 =>
    have hl : xszs xs <= 2 * lszs xs := by
      clear h3
      induction xs with
      | nil => simp [xszs]
      | cons x l ih =>
        have := i3 x (by simp); have := ih fun y hy => i3 y (by simp [hy]); simp only [xszs, lszs]; omega
    have hr : Go.Tx.xsz r <= 2 * lsz r := by
      cases r with
      | nil => simp [Go.Tx.xsz]
      | mk k' a' al' nm' ns' xs' r' => have := i4 (by simp); omega
    rw [lsz_mk]; simp only [Go.Tx.xsz]; omega
section
variable {ts : List Tok} {lo : Int} {i0 : Nat}
def Toks (ts : List Tok) (lo : Int) (i0 : Nat) : Prop := ∀ i t, ts[i]? = some t -> i0 <= i -> lo <= (t.at_ : Int) /\ (t.kind = 1 -> NameB t.text)
def SelfOk (lo : Int) (i0 : Nat) (self : Nat -> Nat -> Option (Wt × Nat)) : Prop := ∀ a d x a1, i0 <= a -> self a d = some (x, a1) -> Wok lo x /\ a + lsz x <= a1
theorem leaf_ok {a k : Int} {al nm : ByteArray} (h : lo <= a) (h8 : k ≠ 8) : Wok lo (.mk k a al nm [] [] .nil) := .mk _ _ _ _ _ _ _ h (fun _ h => by cases h) (fun _ h => by cases h) (fun h => absurd rfl h) (fun h => absurd h h8)
theorem leaf_lsz {a k : Int} {al nm : ByteArray} : lsz (.mk k a al nm [] [] .nil) = 1 := by simp [lsz, lszs]
theorem namedF_wok (T : Toks ts lo i0) {a : Nat} {x : Wt} {a1 : Nat} (ha : i0 <= a) (e : namedF ts a = some (x, a1)) : Wok lo x /\ a + lsz x <= a1 := by
  unfold namedF at e; split at e
  . rename_i t q ht hq; have h1 := (T a t ht ha).1; split at e
    . split at e
      . split at e
        . split at e
          . simp only [Option.some.injEq, Prod.mk.injEq] at e; obtain ⟨rfl, rfl⟩ := e; exact ⟨leaf_ok h1 (by decide), by rw [leaf_lsz]; omega⟩
          . cases e
        . cases e
      . simp only [Option.some.injEq, Prod.mk.injEq] at e; obtain ⟨rfl, rfl⟩ := e; exact ⟨leaf_ok h1 (by decide), by rw [leaf_lsz]; omega⟩
    . cases e
  . cases e
theorem lstF_wok {σ : Type} {E : σ -> Nat -> Option (Wt × Nat × σ)} {en : ByteArray} {I : σ -> Prop} (hinc : ∀ st a x a1 st', E st a = some (x, a1, st') -> a < a1)
    (hE : ∀ st a x a1 st', i0 <= a -> I st -> E st a = some (x, a1, st') -> Wok lo x /\ a + lsz x <= a1 /\ I st') :
    ∀ (f a : Nat) (st : σ) (xs ys : List Wt) (a' : Nat) (st' : σ), i0 <= a -> I st -> (∀ x ∈ xs, Wok lo x) -> lstF ts E en f a st xs = some (ys, a', st') -> (∀ y ∈ ys, Wok lo y) /\ a + lszs ys <= a' + lszs xs /\ I st'
  | 0, _, _, _, _, _, _, _, _, _, e => by cases e
  | f + 1, a, st, xs, ys, a', st', ha, hI, hx, e => by
    unfold lstF at e; split at e
    . cases e
    rename_i x a1 st1 he; have hi := hinc _ _ _ _ _ he; obtain ⟨k1, k2, k3⟩ := hE _ _ _ _ _ ha hI he
    have hx' : ∀ y ∈ xs ++ [x], Wok lo y := fun y hy => by
      rcases List.mem_append.1 hy with h | h
      . exact hx y h
      . rw [List.mem_singleton.1 h]; exact k1
    split at e
    . cases e
    split at e
    . obtain ⟨j1, j2, j3⟩ := lstF_wok hinc hE f (a1 + 1) st1 (xs ++ [x]) ys a' st' (by omega) k3 hx' e; rw [lszs_app, lszs_one] at j2; exact ⟨j1, by omega, j3⟩
    . split at e
      . simp only [Option.some.injEq, Prod.mk.injEq] at e; obtain ⟨rfl, rfl, rfl⟩ := e; rw [lszs_app, lszs_one]; exact ⟨hx', by omega, k3⟩
      . cases e
theorem lstA_wok {σ : Type} {E : σ -> Nat -> Option (Wt × Nat × σ)} {en : ByteArray} {I : σ -> Prop} (hinc : ∀ st a x a1 st', E st a = some (x, a1, st') -> a < a1)
    (hE : ∀ st a x a1 st', i0 <= a -> I st -> E st a = some (x, a1, st') -> Wok lo x /\ a + lsz x <= a1 /\ I st') {a : Nat} {st : σ} {ys : List Wt} {a' : Nat} {st' : σ} (ha : i0 <= a) (hI : I st)
    (e : lstA ts E en a st = some (ys, a', st')) : (∀ y ∈ ys, Wok lo y) /\ a + lszs ys <= a' /\ I st' := by
  unfold lstA at e; split at e
  . cases e
  split at e
  . simp only [Option.some.injEq, Prod.mk.injEq] at e; obtain ⟨rfl, rfl, rfl⟩ := e; exact ⟨fun _ h => (by cases h), by simp [lszs], hI⟩
  . obtain ⟨j1, j2, j3⟩ := lstF_wok hinc hE _ _ _ _ _ _ _ ha hI (fun _ h => by cases h) e; exact ⟨j1, by simpa [lszs] using j2, j3⟩
theorem oneS_wok (T : Toks ts lo i0) {self : Nat -> Nat -> Option (Wt × Nat)} (hinc : Inc self) (hs : SelfOk lo i0 self) {a d : Nat} {x : Wt} {a1 : Nat} (ha : i0 <= a) (e : oneS ts self a d = some (x, a1)) : Wok lo x /\ a + lsz x <= a1 := by
  unfold oneS at e; split at e
  . cases e
  rename_i t ht; have h1 := (T a t ht ha).1; split at e
  . rename_i hpl; split at e
    . simp only [Option.some.injEq, Prod.mk.injEq] at e; obtain ⟨rfl, rfl⟩ := e; refine ⟨leaf_ok h1 ?_, by rw [leaf_lsz]; omega⟩; unfold plainF
      repeat (first | (split; · decide) | decide)
    . cases e
  split at e
  . split at e
    . cases e
    rename_i x2 a2 hx; obtain ⟨k1, k2⟩ := hs _ _ _ _ (by omega) hx; split at e
    . cases e
    split at e
    . simp only [Option.some.injEq, Prod.mk.injEq] at e; obtain ⟨rfl, rfl⟩ := e; exact ⟨k1, by omega⟩
    . cases e
  split at e
  . split at e
    . cases e
    rename_i xs a2 ns hl; simp only [Option.some.injEq, Prod.mk.injEq] at e; obtain ⟨rfl, rfl⟩ := e
    obtain ⟨j1, j2, j3⟩ := lstA_wok (lo := lo) (i0 := i0) (I := fun ns => ∀ n ∈ ns, NameB n) (fun st b y b1 st' h => fieldE_inc hinc h) (fun st b y b1 st' hb hI he => by
      unfold fieldE at he; split at he
      . cases he
      split at he
      . rename_i t1 c1 ht1 hc1; split at he
        . rename_i hk1; split at he
          . split at he
            . rename_i x2 a2 hx; simp only [Option.some.injEq, Prod.mk.injEq] at he; obtain ⟨rfl, rfl, rfl⟩ := he; obtain ⟨k1, k2⟩ := hs _ _ _ _ (by omega) hx; refine ⟨k1, by omega, fun n hn => ?_⟩; rcases List.mem_append.1 hn with h | h
              . exact hI n h
              . rw [List.mem_singleton.1 h]; exact (T b t1 ht1 hb).2 hk1
            . cases he
          . cases he
        . cases he
      . cases he) (by omega) (fun _ h => by cases h) hl
    exact ⟨.mk _ _ _ _ _ _ _ h1 j3 j1 (fun h => absurd rfl h) (fun h => absurd h (by decide)), by rw [lsz_mk, lsz_nil]; omega⟩
  split at e
  . split at e
    . cases e
    split at e
    . split at e
      . cases e
      rename_i xs a2 u hl; split at e
      . cases e
      split at e
      . split at e
        . cases e
        rename_i x2 a3 hx; simp only [Option.some.injEq, Prod.mk.injEq] at e; obtain ⟨rfl, rfl⟩ := e
        obtain ⟨j1, j2, _⟩ := lstA_wok (lo := lo) (i0 := i0) (I := fun _ => True) (fun st b y b1 st' h => argE_inc hinc h) (fun st b y b1 st' hb _ he => by
          unfold argE at he; split at he
          . rename_i x3 a4 hx3; simp only [Option.some.injEq, Prod.mk.injEq] at he; obtain ⟨rfl, rfl, _⟩ := he; obtain ⟨k1, k2⟩ := hs _ _ _ _ hb hx3; exact ⟨k1, k2, trivial⟩
          . cases he) (by omega) trivial hl
        obtain ⟨k1, k2⟩ := hs _ _ _ _ (by omega) hx; refine ⟨.mk _ _ _ _ _ _ _ h1 (fun _ h => by cases h) j1 (fun _ => k1) fun _ h => ?_, by rw [lsz_mk]; omega⟩; rw [h] at k1; cases k1
      . cases e
    . cases e
  . exact namedF_wok T ha e
theorem barsF_wok {one : Nat -> Option (Wt × Nat)} (hinc : ∀ a x a1, one a = some (x, a1) -> a < a1) (h : ∀ a x a1, i0 <= a -> one a = some (x, a1) -> Wok lo x /\ a + lsz x <= a1) : ∀ (f a : Nat) (acc l : List Wt) (a' : Nat), i0 <= a -> (∀ x ∈ acc, Wok lo x) ->
    barsF ts one f a acc = some (l, a') -> (∀ x ∈ l, Wok lo x) /\ a + lszs l + l.length <= a' + lszs acc + acc.length
  | 0, _, _, _, _, _, _, e => by cases e
  | f + 1, a, acc, l, a', ha, hx, e => by
    unfold barsF at e; split at e
    . cases e
    split at e
    . split at e
      . cases e
      rename_i x a1 he; have hi := hinc _ _ _ he; obtain ⟨k1, k2⟩ := h _ _ _ (by omega) he
      obtain ⟨j1, j2⟩ := barsF_wok hinc h f a1 (acc ++ [x]) l a' (by omega) (fun y hy => by
        rcases List.mem_append.1 hy with h | h
        . exact hx y h
        . rw [List.mem_singleton.1 h]; exact k1) e
      rw [lszs_app, lszs_one, List.length_append, List.length_singleton] at j2; exact ⟨j1, by omega⟩
    . simp only [Option.some.injEq, Prod.mk.injEq] at e; obtain ⟨rfl, rfl⟩ := e; exact ⟨hx, by omega⟩
theorem typS_wok (T : Toks ts lo i0) {self : Nat -> Nat -> Option (Wt × Nat)} (hinc : Inc self) (hs : SelfOk lo i0 self) : SelfOk lo i0 (typS ts self) := fun a d x a1 ha e => by
  unfold typS at e; split at e
  . cases e
  split at e
  . cases e
  rename_i t ht; have h1 := (T a t ht ha).1; split at e
  . cases e
  rename_i x1 a2 hx1; have hi := oneS_inc hinc hx1; obtain ⟨k1, k2⟩ := oneS_wok T hinc hs ha hx1; split at e
  . cases e
  rename_i l a3 hl; simp only [Option.some.injEq, Prod.mk.injEq] at e; obtain ⟨rfl, rfl⟩ := e; obtain ⟨j1, j2⟩ := barsF_wok (fun a x a1 h => oneS_inc hinc h) (fun a x a1 ha h => oneS_wok T hinc hs ha h) _ _ _ _ _ (by omega) (fun y hy => by rw [List.mem_singleton.1 hy]; exact k1) hl; rw [lszs_one, List.length_singleton] at j2; split
  . rename_i hl1; have := barsF_inc (ts := ts) (fun a x a1 h => oneS_inc hinc h) _ _ _ _ _ hl; exact ⟨k1, by omega⟩
  . rename_i hl1
    have hl0 : l.length ≠ 0 := fun h0 => by
      have : ∀ (f a : Nat) (acc l : List Wt) (a' : Nat), barsF ts (fun a => oneS ts self a (d + 1)) f a acc = some (l, a') -> acc.length <= l.length := by
        intro f
        induction f with
        | zero => intro a acc l a' e; cases e
        | succ f ih =>
          intro a acc l a' e; unfold barsF at e; split at e
          . cases e
          split at e
          . split at e
            . cases e
            have := ih _ _ _ _ e; rw [List.length_append] at this; omega
          . simp only [Option.some.injEq, Prod.mk.injEq] at e; obtain ⟨rfl, rfl⟩ := e; exact Nat.le_refl _
      have := this _ _ _ _ _ hl; simp at this; omega
    exact ⟨.mk _ _ _ _ _ _ _ h1 (fun _ h => by cases h) j1 (fun h => absurd rfl h) (fun h => absurd h (by decide)), by rw [lsz_mk, lsz_nil]; omega⟩
theorem typF_wok (T : Toks ts lo i0) : ∀ f, SelfOk lo i0 (typF ts f)
  | 0 => fun _ _ _ _ _ e => by cases e
  | f + 1 => typS_wok T (typF_inc ts f) (typF_wok T f)
end
def SNames (S : Sc) (N : List ByteArray) : Prop := ∀ x y t, nameF S x y = some t -> ∃ nm ∈ N, t = .mk 6 nm [] [] .nil
def NamesOk (N : List ByteArray) : Prop := ∀ nm ∈ N, namedL (txt nm) = true
theorem check_tk {k : Int} (h1 : 1 <= k) (h5 : k <= 5) : check (tk k) = 0 := by
  obtain rfl | rfl | rfl | rfl | rfl : k = 1 \/ k = 2 \/ k = 3 \/ k = 4 \/ k = 5 := by omega
  all_goals decide
theorem check_named {nm : ByteArray} (h : namedL (txt nm) = true) : check (.mk 6 nm [] [] .nil) = 0 := by
  refine check_iff.2 ⟨?_, by simp [size, sizes]⟩; simp [may, mays, h, T.isNil]
theorem size_mk {k : Int} {nm : ByteArray} {ns : List ByteArray} {ta : List T} {r : T} : size (.mk k nm ns ta r) = 1 + sizes ta + size r := by simp [size]
theorem res_check {S : Sc} {N : List ByteArray} (hS : SNames S N) (hN : NamesOk N) (t : Wt) : check (resF S t).1 = 0 := by
  have c1 : check (tk 1) = 0 := check_tk (by omega) (by omega)
  cases t with
  | nil => exact c1
  | mk k a al nm ns xs r =>
    unfold resF; split
    . rename_i h; exact check_tk (by omega) (by omega)
    split
    . split
      . rename_i t h; obtain ⟨nm', hm, rfl⟩ := hS _ _ _ h; exact check_named (hN _ hm)
      . exact c1
    split
    . split
      . exact c1
      . rename_i h2; split
        . exact c1
        . rename_i h3; have h0 : (recF ns (resFs S xs).1).2 = 0 := by rcases recF_e ns (resFs S xs).1 with h | h | h <;> first | exact h | exact absurd h h2 | exact absurd h h3
          exact (recF_ok h0).1
    split
    . split
      . rename_i h0; exact (funF_ok h0).1
      . exact c1
    split
    . split
      . rename_i h0; exact (unionF_ok h0).1
      . exact c1
    . exact c1
inductive Nk (N : List ByteArray) : T -> Prop
  | mk (k : Int) (nm : ByteArray) (ns : List ByteArray) (ta : List T) (r : T) (h1 : k = 6 -> nm ∈ N) (h2 : ∀ n ∈ ns, NameB n) (h3 : ∀ a ∈ ta, Nk N a) (h4 : r ≠ .nil -> Nk N r) : Nk N (.mk k nm ns ta r)
theorem nk_tk {N : List ByteArray} {k : Int} (h : k ≠ 6) : Nk N (tk k) := .mk _ _ _ _ _ (fun e => absurd e h) (fun _ h => by cases h) (fun _ h => by cases h) fun h => absurd rfl h
theorem Nk.args {N : List ByteArray} {t : T} (h : Nk N t) : ∀ a ∈ t.args, Nk N a := by
  cases h with
  | mk k nm ns ta r h1 h2 h3 h4 => exact h3
theorem res_nk {S : Sc} {N : List ByteArray} (hS : SNames S N) {lo : Int} {t : Wt} (h : Wok lo t) : Nk N (resF S t).1 := by
  induction h with
  | mk k a al nm ns xs r h1 h2 h3 h4 h5 i3 i4 =>
    have hx : ∀ t ∈ (resFs S xs).1, Nk N t := fun t ht => by
      obtain ⟨b, hb, rfl⟩ := resFs_mem ht; exact i3 b hb
    have n1 : Nk N (tk 1) := nk_tk (by omega); have nn : ∀ n ∈ ([] : List ByteArray), NameB n := fun _ h => by cases h
    unfold resF; split
    . exact nk_tk (by omega)
    split
    . split
      . rename_i t ht; obtain ⟨nm', hm, rfl⟩ := hS _ _ _ ht; exact .mk _ _ _ _ _ (fun _ => hm) nn (fun _ h => by cases h) fun h => absurd rfl h
      . exact n1
    split
    . split
      . exact n1
      . rename_i hh2; split
        . exact n1
        . rename_i hh3; have h0 : (recF ns (resFs S xs).1).2 = 0 := by rcases recF_e ns (resFs S xs).1 with h | h | h <;> first | exact h | exact absurd h hh2 | exact absurd h hh3
          show Nk N (recF ns (resFs S xs).1).1; obtain ⟨_, hl, _, hn, _, e⟩ := recF_ok h0; have hp := (names_sorted hl hn).2; rw [e]; refine .mk _ _ _ _ _ (fun e => absurd e (by decide)) (fun n hn' => ?_) (fun u hu => ?_) fun h => absurd rfl h
          . obtain ⟨x, hx', rfl⟩ := List.mem_map.1 hn'; exact h2 _ (List.of_mem_zip (hp.mem_iff.1 hx')).1
          . obtain ⟨x, hx', rfl⟩ := List.mem_map.1 hu; exact hx _ (List.of_mem_zip (hp.mem_iff.1 hx')).2
    split
    . rename_i h8; split
      . rename_i h0; show Nk N (funF (resFs S xs).1 (resF S r).1).1; rw [(funF_ok h0).2.2.2]; exact .mk _ _ _ _ _ (fun e => absurd e (by decide)) nn hx fun _ => i4 (h5 h8)
      . exact n1
    split
    . split
      . rename_i h0; show Nk N (unionF (resFs S xs).1).1
        have ho : ∀ u ∈ outT (resFs S xs).1, Nk N u := fun u hu => by
          obtain ⟨b, hb, hu⟩ := List.mem_flatMap.1 ((outT_spec _).2.1 u hu); split at hu
          . exact (hx b hb).args u hu
          . obtain rfl : u = b := by simpa using hu
            exact hx u hb
        rcases (unionF_ok h0).2.2.2 with ⟨_, e⟩ | ⟨_, ⟨t, e, e2⟩ | ⟨_, e⟩⟩
        . rw [e]; exact n1
        . rw [e2]; exact ho t (by rw [e]; simp)
        . rw [e]; exact .mk _ _ _ _ _ (fun e => absurd e (by decide)) nn ho fun h => absurd rfl h
      . exact n1
    . exact n1
def lVn : ByteArray := ByteArray.mk #[108, 46, 86]
abbrev Kx := Int × ByteArray
def tlT (s : Kx) (l : List (List Kx)) : List Kx := (l.map (s :: ·)).flatten
def sepT (s : Kx) : List (List Kx) -> List Kx
  | [] => []
  | x :: l => x ++ tlT s l
mutual
def ptk : T -> List Kx
  | .nil => []
  | .mk k _ ns ta r =>
    if k = 6 then [(1, bL), (5, wDot), (1, bV)]
    else if k = 7 then (5, wLb) :: (sepT (5, wComma) (List.zipWith (fun n t => (1, n) :: (5, wColon) :: t) ns (ptks ta)) ++ [(5, wRb)])
    else if k = 8 then (2, wFn) :: (5, wLp) :: (sepT (5, wComma) (ptks ta) ++ (5, wRp) :: (5, wArrow) :: ptk r)
    else if k = 9 then sepT (5, wBar) (List.zipWith (fun a t => if a.kind = 8 then (5, wLp) :: (t ++ [(5, wRp)]) else t) ta (ptks ta))
    else [(2, bs (word k))]
def ptks : List T -> List (List Kx)
  | [] => []
  | t :: l => ptk t :: ptks l
end
theorem ptks_map (l : List T) : ptks l = l.map ptk := by
  induction l with
  | nil => rfl
  | cons t l ih => simp [ptks, ih]
def fieldT (x : ByteArray × T) : List Kx := (1, x.1) :: (5, wColon) :: ptk x.2
def partT (a : T) : List Kx := if a.kind = 8 then (5, wLp) :: (ptk a ++ [(5, wRp)]) else ptk a
theorem ptk_basic {k : Int} (h5 : k <= 5) : ptk (.mk k .empty [] [] .nil) = [(2, bs (word k))] := by
  rw [ptk, if_neg (by omega), if_neg (by omega), if_neg (by omega), if_neg (by omega)]
theorem ptk_name (nm : ByteArray) : ptk (.mk 6 nm [] [] .nil) = [(1, bL), (5, wDot), (1, bV)] := by rw [ptk, if_pos rfl]
theorem ptk_rec (ns : List ByteArray) (ta : List T) : ptk (.mk 7 .empty ns ta .nil) = (5, wLb) :: (sepT (5, wComma) ((ns.zip ta).map fieldT) ++ [(5, wRb)]) := by
  rw [ptk, if_neg (by omega), if_pos rfl, ptks_map, List.zipWith_map_right]; rw [List.zip, List.map_zipWith]; rfl
theorem ptk_fun (ta : List T) (r : T) : ptk (.mk 8 .empty [] ta r) = (2, wFn) :: (5, wLp) :: (sepT (5, wComma) (ta.map ptk) ++ (5, wRp) :: (5, wArrow) :: ptk r) := by
  rw [ptk, if_neg (by omega), if_neg (by omega), if_pos rfl, ptks_map]
theorem ptk_union (ta : List T) : ptk (.mk 9 .empty [] ta .nil) = sepT (5, wBar) (ta.map partT) := by
  rw [ptk, if_neg (by omega), if_neg (by omega), if_neg (by omega), if_pos rfl, ptks_map, List.zipWith_map_right]
  congr 1
  induction ta with
  | nil => rfl
  | cons a l ih => simp [ih, partT]
inductive Lxs : List UInt8 -> List Kx -> List UInt8 -> Prop
  | nil (l : List UInt8) : Lxs l [] l
  | sp {l : List UInt8} {ts : List Kx} {r : List UInt8} (h : Lxs l ts r) : Lxs (32 :: l) ts r
  | tok {l : List UInt8} {k : Int} {x : ByteArray} {n : Nat} {ts : List Kx} {r : List UInt8} (h : tokF l = some (k, x, n)) (h0 : ∀ c, l.head? = some c -> c ≠ 32 /\ c ≠ 9 /\ c ≠ 10 /\ c ≠ 13 /\ c ≠ 35) (hr : Lxs (l.drop n) ts r) : Lxs l ((k, x) :: ts) r
theorem Lxs.trans {l m r : List UInt8} {ts us : List Kx} (h : Lxs l ts m) (k : Lxs m us r) : Lxs l (ts ++ us) r := by
  induction h with
  | nil l => exact k
  | sp _ ih => exact .sp (ih k)
  | tok h h0 _ ih => exact .tok h h0 (ih k)
theorem Lxs.lex {l r : List UInt8} {ts : List Kx} (h : Lxs l ts r) (hr : r = []) : ∀ (s : List UInt8) (a f : Nat), s.drop a = l -> l.length < f -> ∃ toks, lexF s f a = some toks /\ toks.map (fun t => (t.kind, t.text)) = ts /\ toks.length <= l.length := by
  induction h with
  | nil l =>
    subst hr; intro s a f hd hf
    cases f with
    | zero => simp at hf
    | succ f => exact ⟨[], by unfold lexF; rw [hd], rfl, Nat.le_refl _⟩
  | @sp l ts r h ih =>
    intro s a f hd hf
    cases f with
    | zero => simp at hf
    | succ f =>
      obtain ⟨toks, e, k1, k2⟩ := ih hr s (a + 1) f (by rw [<- List.drop_drop, hd]; rfl) (by simp at hf; omega); refine ⟨toks, ?_, k1, by simp; omega⟩; unfold lexF; rw [hd]; simpa using e
  | @tok l k x n ts r h h0 hr' ih =>
    intro s a f hd hf; obtain ⟨n1, n2⟩ := tokF_len h
    cases f with
    | zero => simp at hf
    | succ f =>
      obtain ⟨toks, e, k1, k2⟩ := ih hr s (a + n) f (by rw [<- List.drop_drop, hd]) (by rw [List.length_drop]; omega)
      cases l with
      | nil => simp at n2; omega
      | cons c l =>
        obtain ⟨z1, z2, z3, z4, z5⟩ := h0 c rfl; refine ⟨⟨k, x, 0, a⟩ :: toks, ?_, by simp [k1], by rw [List.length_drop] at k2; simp at k2 n2 ⊢; omega⟩; unfold lexF; rw [hd]; dsimp only; rw [if_neg (by simp [z1, z2, z3, z4]), if_neg z5, h]; dsimp only; rw [e]; rfl
theorem Lxs.name {l r : List UInt8} {ts : List Kx} (h : Lxs l ts r) : ∀ y ∈ ts, y.1 = 1 -> NameB y.2 := by
  induction h with
  | nil l => intro y hy; cases hy
  | sp _ ih => exact ih
  | tok h h0 _ ih =>
    intro y hy; rcases List.mem_cons.1 hy with rfl | hy
    . exact (tokF_T (a := 0) h).name
    . exact ih y hy
def nmC (c : UInt8) : Bool := letter c || digit c
theorem letter_out {c : UInt8} (h : letter c = true) : c ≠ 32 /\ c ≠ 9 /\ c ≠ 10 /\ c ≠ 13 /\ c ≠ 35 := by
  refine ⟨?_, ?_, ?_, ?_, ?_⟩ <;> (rintro rfl; exact absurd h (by decide))
theorem takeWhile_run {f : UInt8 -> Bool} {x r : List UInt8} (hx : x.all f = true) (hr : hd (fun c => !f c) r) : (x ++ r).takeWhile f = x := by
  induction x with
  | nil =>
    cases r with
    | nil => rfl
    | cons c r =>
      have := hr c rfl; simp only [Bool.not_eq_true'] at this; simp [List.takeWhile_cons, this]
  | cons c x ih =>
    simp only [List.all_cons, Bool.and_eq_true] at hx; simp only [List.cons_append, List.takeWhile_cons, hx.1, if_true, ih hx.2]
theorem tok_word {c : UInt8} {w r : List UInt8} (hc : letter c = true) (hw : w.all nmC = true) (hl : w.length < 24) (hr : hd (fun c => !nmC c) r) : tokF (c :: (w ++ r)) = some (if memB (bs (c :: w)) kwL then 2 else 1, bs (c :: w), (c :: w).length) := by
  have e : (c :: (w ++ r)).takeWhile (fun c => letter c || digit c) = c :: w := by
    have := takeWhile_run (f := nmC) (x := c :: w) (r := r) (by simp [hw, nmC, hc]) hr; exact this
  unfold tokF; dsimp only; rw [if_pos hc, e, if_pos (by simp; omega)]
theorem lx_word {c : UInt8} {w r : List UInt8} {k : Int} (hc : letter c = true) (hw : w.all nmC = true) (hl : w.length < 24) (hr : hd (fun c => !nmC c) r) (hk : (if memB (bs (c :: w)) kwL then (2 : Int) else 1) = k) : Lxs (c :: (w ++ r)) [(k, bs (c :: w))] r := by
  have h := tok_word hc hw hl hr; rw [hk] at h; refine .tok h (fun x e => by cases e; exact letter_out hc) ?_; have e : (c :: (w ++ r)).drop (c :: w).length = r := by simp
  rw [e]; exact .nil r
theorem lx_name {x : ByteArray} {r : List UInt8} (h : NameB x) (hr : hd (fun c => !nmC c) r) : Lxs (txt x ++ r) [(1, x)] r := by
  obtain ⟨c, w, hc, hw, hl, rfl, hm⟩ := h; rw [txt_bs]; exact lx_word hc hw hl hr (by rw [hm]; rfl)
theorem nm_of_hA {r : List UInt8} (h : hd hA r) : hd (fun c => !nmC c) r := fun c e => by
  have := h c e; have h2 := nameC_bool c this; unfold nameC at h2; unfold nmC; simp only [Bool.or_eq_false_iff] at h2; simp [h2.1.1.1.1, h2.1.1.1.2]
section signs
variable (r : List UInt8)
theorem lx_comma : Lxs (44 :: 32 :: r) [(5, wComma)] r := .tok (n := 1) (by kernel_rfl) (fun x e => by cases e; decide) (.sp (.nil _))
theorem lx_colon : Lxs (58 :: 32 :: r) [(5, wColon)] r := .tok (n := 1) (by kernel_rfl) (fun x e => by cases e; decide) (.sp (.nil _))
theorem lx_bar : Lxs (32 :: 124 :: 32 :: r) [(5, wBar)] r := .sp (.tok (n := 1) (by kernel_rfl) (fun x e => by cases e; decide) (.sp (.nil _)))
theorem lx_lb : Lxs (123 :: r) [(5, wLb)] r := .tok (n := 1) (by kernel_rfl) (fun x e => by cases e; decide) (.nil _)
theorem lx_rb : Lxs (125 :: r) [(5, wRb)] r := .tok (n := 1) (by kernel_rfl) (fun x e => by cases e; decide) (.nil _)
theorem lx_lp : Lxs (40 :: r) [(5, wLp)] r := .tok (n := 1) (by kernel_rfl) (fun x e => by cases e; decide) (.nil _)
theorem lx_rp : Lxs (41 :: r) [(5, wRp)] r := .tok (n := 1) (by kernel_rfl) (fun x e => by cases e; decide) (.nil _)
theorem lx_arrow : Lxs (32 :: 45 :: 62 :: 32 :: r) [(5, wArrow)] r := .sp (.tok (n := 2) (by kernel_rfl) (fun x e => by cases e; decide) (.sp (.nil _)))
theorem lx_dotV : Lxs (46 :: 86 :: r) [(5, wDot)] (86 :: r) := .tok (n := 1) (by kernel_rfl) (fun x e => by cases e; decide) (.nil _)
end signs
theorem hd_c {c : UInt8} {r : List UInt8} (h : hA c = true) : hd hA (c :: r) := hd_cons h
theorem lx_rows {α : Type} (E : α -> List UInt8) (Q : α -> List Kx) (sep : List UInt8) (s : Kx) (hs : ∀ r, Lxs (sep ++ r) [s] r) (hh : ∀ r, hd hA (sep ++ r)) (l : List α) (h : ∀ x ∈ l, ∀ r, hd hA r -> Lxs (E x ++ r) (Q x) r) :
    ∀ r, hd hA r -> Lxs (join sep (l.map E) ++ r) (sepT s (l.map Q)) r := by
  cases l with
  | nil => intro r _; exact .nil r
  | cons x l =>
    intro r hr; rw [List.map_cons, join_cons, List.map_cons, sepT]
    have key : ∀ l : List α, (∀ x ∈ l, ∀ r, hd hA r -> Lxs (E x ++ r) (Q x) r) -> Lxs (((l.map E).map (sep ++ ·)).flatten ++ r) ((l.map Q).map (s :: ·)).flatten r /\ hd hA (((l.map E).map (sep ++ ·)).flatten ++ r) := by
      intro l
      induction l with
      | nil => intro _; exact ⟨.nil r, hr⟩
      | cons y l ih =>
        intro h; obtain ⟨k1, k2⟩ := ih fun z hz => h z (by simp [hz]); simp only [List.map_cons, List.flatten_cons, List.append_assoc, List.cons_append]; exact ⟨(hs _).trans ((h y (by simp) _ k2).trans k1), hh _⟩
    obtain ⟨k1, k2⟩ := key l fun z hz => h z (by simp [hz]); rw [List.append_assoc]; exact (h x (by simp) _ k2).trans k1
theorem lx_type : ∀ t : T, may t = true -> Nk [lVn] t -> ∀ r, hd hA r -> Lxs (write t ++ r) (ptk t) r := by
  refine Go.Ty.ind (fun h => by cases h) fun k nm ns ta r' ha hr' hm hn r hr => ?_
  cases hn with
  | mk _ _ _ _ _ n1 n2 n3 n4 =>
  cases Go.Ty.shape hm with
  | basic _ h1 h5 =>
    rw [write_basic h1 h5, ptk_basic h5]; obtain rfl | rfl | rfl | rfl | rfl : k = 1 \/ k = 2 \/ k = 3 \/ k = 4 \/ k = 5 := by omega
    . exact lx_word (c := 97) (w := [110, 121]) (by decide) (by decide) (by decide) (nm_of_hA hr) (by decide +kernel)
    . exact lx_word (c := 105) (w := [110, 116]) (by decide) (by decide) (by decide) (nm_of_hA hr) (by decide +kernel)
    . exact lx_word (c := 98) (w := [111, 111, 108]) (by decide) (by decide) (by decide) (nm_of_hA hr) (by decide +kernel)
    . exact lx_word (c := 115) (w := [116, 114]) (by decide) (by decide) (by decide) (nm_of_hA hr) (by decide +kernel)
    . exact lx_word (c := 110) (w := [105, 108]) (by decide) (by decide) (by decide) (nm_of_hA hr) (by decide +kernel)
  | name _ _ =>
    have e := List.mem_singleton.1 (n1 rfl); subst e; rw [write_name, ptk_name]; show Lxs (108 :: ([] ++ 46 :: 86 :: r)) ([(1, bL)] ++ ([(5, wDot)] ++ [(1, bV)])) r; refine (lx_word (c := 108) (w := []) (k := 1) (by decide) (by decide) (by decide) (fun c e => by cases e; decide) (by decide +kernel)).trans ((lx_dotV r).trans ?_); exact lx_word (c := 86) (w := []) (k := 1) (r := r) (by decide) (by decide) (by decide) (nm_of_hA hr) (by decide +kernel)
  | record _ _ hl hf hri hma =>
    rw [write_rec, ptk_rec]; simp only [List.cons_append, List.append_assoc, List.nil_append]; refine (lx_lb _).trans ((lx_rows (fun x : ByteArray × T => txt x.1 ++ 58 :: 32 :: write x.2) fieldT [44, 32] (5, wComma) lx_comma (fun _ => hd_c (by decide)) (ns.zip ta) (fun x hx r hr => ?_) _ (hd_c (by decide))).trans (lx_rb r)); obtain ⟨x1, x2⟩ := List.of_mem_zip hx; simp only [List.append_assoc, List.cons_append, List.nil_append]; exact (lx_name (n2 _ x1) (fun c e => by cases e; decide)).trans ((lx_colon _).trans (ha _ x2 (hma _ x2) (n3 _ x2) r hr))
  | fn _ _ hma hmr =>
    rw [write_fun, ptk_fun]; simp only [List.cons_append, List.append_assoc, List.nil_append]; have hrn : r' ≠ .nil := fun e => by rw [e] at hmr; cases hmr
    have h1 : Lxs (102 :: 110 :: 40 :: (join [44, 32] (ta.map write) ++ 41 :: 32 :: 45 :: 62 :: 32 :: (write r' ++ r))) [(2, wFn)] _ := lx_word (c := 102) (w := [110]) (k := 2) (by decide) (by decide) (by decide) (fun c e => by cases e; decide) (by decide +kernel); refine h1.trans ((lx_lp _).trans ((lx_rows write ptk [44, 32] (5, wComma) lx_comma (fun _ => hd_c (by decide)) ta (fun x hx r hr => ha x hx (hma x hx) (n3 x hx) r hr) _ (hd_c (by decide))).trans ((lx_rp _).trans ((lx_arrow _).trans (hr' hmr (n4 hrn) r hr)))))
  | union _ hl hk hri hma =>
    rw [write_union, ptk_union]; refine lx_rows _ partT [32, 124, 32] (5, wBar) lx_bar (fun _ => hd_c (by decide)) ta (fun x hx r hr => ?_) r hr; unfold inPar partT; split
    . simp only [List.cons_append, List.append_assoc, List.nil_append]; exact (lx_lp _).trans ((ha x hx (hma x hx) (n3 x hx) _ (hd_c (by decide))).trans (lx_rp r))
    . exact ha x hx (hma x hx) (n3 x hx) r hr
section
variable {ts : List Tok} {a : Nat}
def AtT (ts : List Tok) (a : Nat) (l : List Kx) : Prop := ∀ (i : Nat) (k : Int) (x : ByteArray), l[i]? = some (k, x) -> ∃ t, ts[a + i]? = some t /\ t.kind = k /\ t.text = x
theorem AtT.left {l m : List Kx} (h : AtT ts a (l ++ m)) : AtT ts a l := fun i k x e => h i k x (by
  have := (List.getElem?_eq_some_iff.1 e).1; rw [List.getElem?_append_left this]; exact e)
theorem AtT.right {l m : List Kx} (h : AtT ts a (l ++ m)) : AtT ts (a + l.length) m := fun i k x e => by
  obtain ⟨t, h1, h2⟩ := h (l.length + i) k x (by rw [List.getElem?_append_right (by omega)]; simpa using e); exact ⟨t, by rw [Nat.add_assoc]; exact h1, h2⟩
theorem AtT.head {k : Int} {x : ByteArray} {l : List Kx} (h : AtT ts a ((k, x) :: l)) : ∃ t, ts[a]? = some t /\ t.kind = k /\ t.text = x := h 0 k x rfl
theorem AtT.tail {y : Kx} {l : List Kx} (h : AtT ts a (y :: l)) : AtT ts (a + 1) l := fun i k x e => by
  obtain ⟨t, h1, h2⟩ := h (i + 1) k x e; exact ⟨t, by rw [<- h1]; congr 1; omega, h2⟩
end
theorem isW_of {t : Tok} {k : Int} {x : ByteArray} (hk : t.kind = k) (hx : t.text = x) (l : List ByteArray) : isW t l = ((k == 2 || k == 5) && memB x l) := by unfold isW; rw [hk, hx]
theorem isW_nm {t : Tok} (hk : t.kind = 1) (l : List ByteArray) : isW t l = false := by unfold isW; rw [hk]; rfl
theorem memB_one {x y : ByteArray} : memB x [y] = decide (x = y) := by simp [memB]
section
variable {S : Sc} {ts : List Tok}
def Aft (ts : List Tok) (b : Nat) : Prop := ∃ t, ts[b]? = some t /\ isW t [wBar] = false
def TyB (S : Sc) (u : T) : Prop := ∀ (ts : List Tok) (f a d : Nat), AtT ts a (ptk u) -> Aft ts (a + (ptk u).length) -> (ptk u).length <= f ->
  (∃ x, typF ts f a d = some (x, a + (ptk u).length) /\ resF S x = (u, [])) \/ (typF ts f a d = none /\ 40 < d + size u)
def TyO (S : Sc) (u : T) : Prop := u.kind ≠ 9 -> ∀ (ts : List Tok) (g a d : Nat), AtT ts a (ptk u) -> (∃ t, ts[a + (ptk u).length]? = some t /\ (u.kind = 8 -> isW t [wBar] = false)) -> (ptk u).length <= g + 1 ->
  (∃ x, oneS ts (typF ts g) a d = some (x, a + (ptk u).length) /\ resF S x = (u, [])) \/ (oneS ts (typF ts g) a d = none /\ 41 < d + size u)
theorem sepT_two (s : Kx) (x y : List Kx) (l : List (List Kx)) : sepT s (x :: y :: l) = x ++ s :: sepT s (y :: l) := by simp [sepT, tlT]
theorem tlT_cons (s : Kx) (x : List Kx) (l : List (List Kx)) : tlT s (x :: l) = s :: (x ++ tlT s l) := by simp [tlT]
theorem tlT_len {s : Kx} (l : List (List Kx)) : l.length <= (tlT s l).length := by
  induction l with
  | nil => simp
  | cons z l ih => simp only [tlT_cons, List.length_append, List.length_cons]; omega
theorem tlT_mem {s : Kx} {x : List Kx} {l : List (List Kx)} (h : x ∈ l) : x.length <= (tlT s l).length := by
  induction l with
  | nil => cases h
  | cons z l ih =>
    simp only [tlT_cons, List.length_append, List.length_cons]; rcases List.mem_cons.1 h with rfl | h
    . omega
    . have := ih h; omega
theorem resFs_cons (x : Wt) (l : List Wt) : resFs S (x :: l) = ((resF S x).1 :: (resFs S l).1, (resF S x).2 ++ (resFs S l).2) := by rw [resFs]
theorem sepT_mem {s : Kx} {l : List (List Kx)} {x : List Kx} (h : x ∈ l) : x.length <= (sepT s l).length := by
  cases l with
  | nil => cases h
  | cons y l =>
    rw [sepT, List.length_append]; rcases List.mem_cons.1 h with rfl | h
    . omega
    . have := tlT_mem (s := s) h; omega
theorem sepT_len {s : Kx} (l : List (List Kx)) : l.length <= (sepT s l).length + 1 := by
  cases l with
  | nil => simp
  | cons y l =>
    rw [sepT, List.length_append]; have := tlT_len (s := s) l; simp only [List.length_cons]; omega
theorem lst_at {α σ : Type} {E : σ -> Nat -> Option (Wt × Nat × σ)} {en : ByteArray} (hen : en ≠ wComma) (hbr : en ≠ wBar) {Q : α -> List Kx} {val : α -> T} {stt : Nat -> σ} {d : Nat} (items : List α)
    (hE : ∀ i y, items[i]? = some y -> ∀ a, AtT ts a (Q y) -> Aft ts (a + (Q y).length) -> (∃ x, E (stt i) a = some (x, a + (Q y).length, stt (i + 1)) /\ resF S x = (val y, [])) \/ (E (stt i) a = none /\ 40 < d + size (val y))) :
    ∀ (l : List α) (y : α) (i f a : Nat) (acc : List Wt), items.drop i = y :: l -> AtT ts a (sepT (5, wComma) ((y :: l).map Q) ++ [(5, en)]) -> l.length < f ->
      (∃ xs, lstF ts E en f a (stt i) acc = some (acc ++ xs, a + (sepT (5, wComma) ((y :: l).map Q)).length + 1, stt items.length) /\ resFs S xs = ((y :: l).map val, [])) \/ (lstF ts E en f a (stt i) acc = none /\ ∃ z ∈ y :: l, 40 < d + size (val z))
  | [], y, i, f, a, acc, hd, hA, hf => by
    cases f with
    | zero => simp at hf
    | succ f =>
      have hi : items[i]? = some y := by
        have := congrArg (fun l => l[0]?) hd; simpa using this
      have hlen : i + 1 = items.length := by
        have := congrArg List.length hd; simp at this; omega
      have e : sepT (5, wComma) (([y] : List α).map Q) = Q y := by simp [sepT, tlT]
      rw [e] at hA ⊢; obtain ⟨q, hq, hk, hx⟩ := hA.right.head; have w1 : isW q [wComma] = false := by rw [isW_of hk hx, memB_one, decide_eq_false hen]; rfl
      have w2 : isW q [wBar] = false := by rw [isW_of hk hx, memB_one, decide_eq_false hbr]; rfl
      have w3 : isW q [en] = true := by rw [isW_of hk hx, memB_one, decide_eq_true rfl]; rfl
      rcases hE i y hi a hA.left ⟨q, hq, w2⟩ with ⟨x, e1, e2⟩ | ⟨e1, e2⟩
      . refine .inl ⟨[x], ?_, ?_⟩
        . unfold lstF; rw [e1]; dsimp only; rw [hq]; dsimp only; rw [w1, w3, hlen]; rfl
        . rw [resFs_cons, e2]; simp [resFs]
      . refine .inr ⟨?_, y, by simp, e2⟩; unfold lstF; rw [e1]
  | z :: l, y, i, f, a, acc, hd, hA, hf => by
    cases f with
    | zero => simp at hf
    | succ f =>
      have hi : items[i]? = some y := by
        have := congrArg (fun l => l[0]?) hd; simpa using this
      have hd' : items.drop (i + 1) = z :: l := by rw [<- List.drop_drop, hd]; rfl
      have e : sepT (5, wComma) ((y :: z :: l).map Q) = Q y ++ (5, wComma) :: sepT (5, wComma) ((z :: l).map Q) := by
        rw [List.map_cons, List.map_cons, sepT_two]
      rw [e, List.append_assoc] at hA; rw [e]; have hR := hA.right; obtain ⟨q, hq, hk, hx⟩ := hR.head; have w1 : isW q [wComma] = true := by rw [isW_of hk hx]; rfl
      have w2 : isW q [wBar] = false := by rw [isW_of hk hx]; decide
      rcases hE i y hi a hA.left ⟨q, hq, w2⟩ with ⟨x, e1, e2⟩ | ⟨e1, e2⟩
      . have step : ∀ acc, lstF ts E en (f + 1) a (stt i) acc = lstF ts E en f (a + (Q y).length + 1) (stt (i + 1)) (acc ++ [x]) := fun acc => by
          rw [lstF]; rw [e1]; dsimp only; rw [hq]; dsimp only; rw [w1]; rfl
        rw [step]; rcases lst_at hen hbr items hE l z (i + 1) f _ (acc ++ [x]) hd' hR.tail (by simp at hf; omega) with ⟨xs, j1, j2⟩ | ⟨j1, j2⟩
        . refine .inl ⟨x :: xs, ?_, ?_⟩
          . rw [j1]; simp only [List.append_assoc, List.singleton_append, List.length_append, List.length_cons]
            congr 3
            omega
          . rw [resFs_cons, e2, j2]; simp
        . obtain ⟨z', hz', h⟩ := j2; exact .inr ⟨j1, z', by simp at hz' ⊢; exact .inr hz', h⟩
      . refine .inr ⟨?_, y, by simp, e2⟩; rw [lstF]; rw [e1]
def PartOk (S : Sc) (ts : List Tok) (g D : Nat) (m : T) : Prop := ∀ a, AtT ts a (partT m) -> (∃ t, ts[a + (partT m).length]? = some t) -> (∃ x, oneS ts (typF ts g) a D = some (x, a + (partT m).length) /\ resF S x = (m, [])) \/ (oneS ts (typF ts g) a D = none /\ 40 < D + size m)
theorem bars_at {g D : Nat} : ∀ (ms : List T), (∀ m ∈ ms, PartOk S ts g D m) -> ∀ (f a : Nat) (acc : List Wt), AtT ts a (tlT (5, wBar) (ms.map partT)) -> Aft ts (a + (tlT (5, wBar) (ms.map partT)).length) -> ms.length < f ->
    (∃ xs, barsF ts (fun a => oneS ts (typF ts g) a D) f a acc = some (acc ++ xs, a + (tlT (5, wBar) (ms.map partT)).length) /\ resFs S xs = (ms, [])) \/ (barsF ts (fun a => oneS ts (typF ts g) a D) f a acc = none /\ ∃ m ∈ ms, 40 < D + size m)
  | [], _, f, a, acc, _, hn, hf => by
    cases f with
    | zero => simp at hf
    | succ f =>
      obtain ⟨t, ht, hb⟩ := hn; refine .inl ⟨[], ?_, by simp [resFs]⟩; rw [barsF]; rw [show ts[a]? = some t from ht]; dsimp only; rw [hb]; simp [tlT]
  | m :: ms, hM, f, a, acc, hA, hn, hf => by
    cases f with
    | zero => simp at hf
    | succ f =>
      simp only [List.map_cons, tlT_cons, List.length_cons, List.length_append] at hA hn ⊢; obtain ⟨q, hq, hk, hx⟩ := hA.head; have w1 : isW q [wBar] = true := by rw [isW_of hk hx]; rfl
      have hP := hA.tail; have hR := hP.right
      have hex : ∃ t, ts[a + 1 + (partT m).length]? = some t := by
        cases ms with
        | nil =>
          obtain ⟨t, ht, _⟩ := hn; exact ⟨t, by rw [<- ht]; congr 1; simp [tlT]; omega⟩
        | cons m2 ms =>
          simp only [List.map_cons, tlT_cons] at hR; obtain ⟨t, ht, _⟩ := hR.head; exact ⟨t, ht⟩
      rcases hM m (by simp) (a + 1) hP.left hex with ⟨x, e1, e2⟩ | ⟨e1, e2⟩
      . have step : barsF ts (fun a => oneS ts (typF ts g) a D) (f + 1) a acc = barsF ts (fun a => oneS ts (typF ts g) a D) f (a + 1 + (partT m).length) (acc ++ [x]) := by
          rw [barsF]; rw [hq]; dsimp only; rw [w1, e1]; rfl
        rw [step]
        have hn' : Aft ts (a + 1 + (partT m).length + (tlT (5, wBar) (ms.map partT)).length) := by
          obtain ⟨t, ht, hb⟩ := hn; exact ⟨t, by rw [<- ht]; congr 1; omega, hb⟩
        rcases bars_at ms (fun m' h => hM m' (by simp [h])) f _ (acc ++ [x]) hR hn' (by simp at hf; omega) with ⟨xs, j1, j2⟩ | ⟨j1, m', hm', h⟩
        . refine .inl ⟨x :: xs, ?_, ?_⟩
          . rw [j1]; simp only [List.append_assoc, List.singleton_append]
            congr 2
            omega
          . rw [resFs_cons, e2, j2]; simp
        . exact .inr ⟨j1, m', by simp [hm'], h⟩
      . refine .inr ⟨?_, m, by simp, e2⟩; rw [barsF]; rw [hq]; dsimp only; rw [w1, e1]; rfl
theorem ptk_head : ∀ u : T, may u = true -> ∃ k x l, ptk u = (k, x) :: l /\ x ≠ wRp := by
  refine Go.Ty.ind (fun h => by cases h) fun k nm ns ta r' ha hr' hm => ?_
  cases Go.Ty.shape hm with
  | basic _ h1 h5 =>
    refine ⟨_, _, _, ptk_basic h5, ?_⟩; obtain rfl | rfl | rfl | rfl | rfl : k = 1 \/ k = 2 \/ k = 3 \/ k = 4 \/ k = 5 := by omega
    all_goals decide +kernel
  | name _ _ => exact ⟨_, _, _, ptk_name _, by decide⟩
  | record _ _ hl hf hri hma => exact ⟨_, _, _, ptk_rec _ _, by decide⟩
  | fn _ _ hma hmr => exact ⟨_, _, _, ptk_fun _ _, by decide⟩
  | union _ hl hk hri hma =>
    cases ta with
    | nil => simp at hl
    | cons b l =>
      rw [ptk_union, List.map_cons, sepT]; unfold partT; split
      . exact ⟨_, _, _, rfl, by decide⟩
      . obtain ⟨k, x, l', e, h⟩ := ha b (by simp) (hma b (by simp)); rw [e]; exact ⟨_, _, _, rfl, h⟩
end
theorem recF_self {ns : List ByteArray} {ta : List T} (hc : check (.mk 7 .empty ns ta .nil) = 0) : recF ns ta = (.mk 7 .empty ns ta .nil, 0) := by
  obtain ⟨hm, h60⟩ := check_iff.1 hc
  cases Go.Ty.shape hm with
  | basic _ h1 h5 => exact absurd h5 (by decide)
  | record _ _ hl hf hri hma =>
  have hp := Go.Ty.rising_iff.1 hri
  have hn : ns.Nodup := by
    rw [List.pairwise_map] at hp; exact hp.imp fun {a b} h e => by subst e; exact lt_irr h
  have ha : ∀ a ∈ ta, check a = 0 := fun a h => check_iff.2 ⟨hma a h, by have := size_arg (k := 7) (nm := .empty) (ns := ns) (r := .nil) h; omega⟩; have hz := fst_zip hl
  have hs : SortedP (ns.zip ta) := by
    have h2 : ((ns.zip ta).map (·.1)).Pairwise fun x y => txt x < txt y := by
      rw [hz.1]; rw [List.pairwise_map] at hp; exact hp
    rwa [List.pairwise_map] at h2
  unfold recF; rw [if_pos ⟨hl, allOk_iff.2 ha, hf, hn⟩, sortP_eq (List.Perm.refl _) hs (by rw [hz.1]; exact hn), hz.1, hz.2]; unfold fits; rw [if_neg (by omega)]
theorem funF_self {ta : List T} {r : T} (hc : check (.mk 8 .empty [] ta r) = 0) : funF ta r = (.mk 8 .empty [] ta r, 0) := by
  obtain ⟨hm, h60⟩ := check_iff.1 hc
  cases Go.Ty.shape hm with
  | basic _ h1 h5 => exact absurd h5 (by decide)
  | fn _ _ hma hmr =>
  have ha : ∀ a ∈ ta, check a = 0 := fun a h => check_iff.2 ⟨hma a h, by have := size_arg (k := 8) (nm := .empty) (ns := []) (r := r) h; omega⟩; have hr : check r = 0 := check_iff.2 ⟨hmr, by rw [size_mk] at h60; omega⟩; unfold funF fits; rw [allOk_iff.2 ha, hr]; simp only [beq_self_eq_true, Bool.and_self, if_true]; rw [if_neg (by omega)]
theorem unionF_self {ta : List T} (hc : check (.mk 9 .empty [] ta .nil) = 0) (hd : ∀ a ∈ ta, dotted a = true) : unionF ta = (.mk 9 .empty [] ta .nil, 0) := by
  obtain ⟨hm, h60⟩ := check_iff.1 hc
  cases Go.Ty.shape hm with
  | basic _ h1 h5 => exact absurd h5 (by decide)
  | union _ hl hk hri hma =>
  have ha : ∀ a ∈ ta, check a = 0 := fun a h => check_iff.2 ⟨hma a h, by have := size_arg (k := 9) (nm := .empty) (ns := []) (r := .nil) h; omega⟩; have hg : ∀ a ∈ ta, good a := fun a h => ⟨hma a h, hd a h⟩
  have hflat : flatT ta = ta := by
    clear hc hm h60 hl hri hma ha hg hd
    induction ta with
    | nil => rfl
    | cons a l ih =>
      have := ih fun b hb => hk b (by simp [hb]); unfold flatT at this ⊢; rw [List.flatMap_cons, this, if_neg (hk a (by simp)).1]; rfl
  have hs : SortedT ta := by
    have := Go.Ty.rising_iff.1 hri
    rwa [List.pairwise_map] at this
  have hout : outT ta = ta := sortedT_ext (outT_spec ta).1 hs fun x => by rw [out_iff (tells_good hg), hflat]
  have hne : ta ≠ [] := fun e => by rw [e] at hl; simp at hl
  rw [unionF_eq hne (allOk_iff.2 ha), if_neg (by simpa using fun a h => (hk a h).2), hout, unionOf_big (by omega)]; unfold fits; rw [if_neg (by omega)]
theorem nk_dotted : ∀ t : T, Nk [lVn] t -> dotted t = true := by
  refine Go.Ty.ind (fun _ => rfl) fun k nm ns ta r ha hr h => ?_
  cases h with
  | mk _ _ _ _ _ h1 h2 h3 h4 =>
  refine dotted_iff.2 ⟨fun e => ?_, fun a h => ha a h (h3 a h), ?_⟩
  . rw [List.mem_singleton.1 (h1 e)]; decide
  . cases r with
    | nil => rfl
    | mk => exact hr (h4 (by simp))
section
variable {S : Sc}
theorem resF_rec {xs : List Wt} {ta : List T} {ns : List ByteArray} {u : T} (h : resFs S xs = (ta, [])) (hr : recF ns ta = (u, 0)) (p : Int) (al nm : ByteArray) (r : Wt) : resF S (.mk 7 p al nm ns xs r) = (u, []) := by
  rw [resF, if_neg (by omega), if_neg (by omega), if_pos rfl, h]; dsimp only; rw [hr]; rfl
theorem resF_fun {xs : List Wt} {ta : List T} {x : Wt} {r u : T} (h : resFs S xs = (ta, [])) (h2 : resF S x = (r, [])) (hr : funF ta r = (u, 0)) (p : Int) (al nm : ByteArray) (ns : List ByteArray) : resF S (.mk 8 p al nm ns xs x) = (u, []) := by
  rw [resF, if_neg (by omega), if_neg (by omega), if_neg (by omega), if_pos rfl, h, h2]; dsimp only; rw [hr]; rfl
theorem resF_uni {xs : List Wt} {ta : List T} {u : T} (h : resFs S xs = (ta, [])) (hr : unionF ta = (u, 0)) (p : Int) (al nm : ByteArray) (ns : List ByteArray) (r : Wt) : resF S (.mk 9 p al nm ns xs r) = (u, []) := by
  rw [resF, if_neg (by omega), if_neg (by omega), if_neg (by omega), if_neg (by omega), if_pos rfl, h]; dsimp only; rw [hr]; rfl
theorem size_pos' {u : T} (h : may u = true) : 0 < size u := by
  cases u with
  | nil => cases h
  | mk k nm ns ta r => rw [size_mk]; omega
theorem ty_basic {k : Int} (h1 : 1 <= k) (h5 : k <= 5) : TyO S (tk k) := by
  intro _ ts g a d hA ⟨t9, h9, _⟩ hg; rw [ptk_basic h5] at hA h9 ⊢; obtain ⟨t, ht, hk, hx⟩ := hA.head; have hlt : a + 1 < ts.length := (List.getElem?_eq_some_iff.1 h9).1; refine .inl ⟨.mk (plainF t.text) t.at_ .empty .empty [] [] .nil, ?_, ?_⟩
  . have w : isW t plainL = true := by
      rw [isW_of hk hx]; obtain rfl | rfl | rfl | rfl | rfl : k = 1 \/ k = 2 \/ k = 3 \/ k = 4 \/ k = 5 := by omega
      all_goals decide +kernel
    unfold oneS; rw [ht]; dsimp only; rw [if_pos w, if_pos hlt]; rfl
  . rw [hx]; obtain rfl | rfl | rfl | rfl | rfl : k = 1 \/ k = 2 \/ k = 3 \/ k = 4 \/ k = 5 := by omega
    . rw [show plainF (bs (word 1)) = 5 by decide +kernel, resF]; rfl
    . rw [show plainF (bs (word 2)) = 1 by decide +kernel, resF]; rfl
    . rw [show plainF (bs (word 3)) = 2 by decide +kernel, resF]; rfl
    . rw [show plainF (bs (word 4)) = 3 by decide +kernel, resF]; rfl
    . rw [show plainF (bs (word 5)) = 4 by decide +kernel, resF]; rfl
theorem ty_name (hS : nameF S bL bV = some (.mk 6 lVn [] [] .nil)) : TyO S (.mk 6 lVn [] [] .nil) := by
  intro _ ts g a d hA ⟨t9, h9, _⟩ hg; rw [ptk_name] at hA h9 ⊢; obtain ⟨t, ht, hk, hx⟩ := hA.head; obtain ⟨q, hq, qk, qx⟩ := hA.tail.head; obtain ⟨v, hv, vk, vx⟩ := hA.tail.tail.head; refine .inl ⟨.mk 6 t.at_ t.text v.text [] [] .nil, ?_, ?_⟩
  . unfold oneS; rw [ht]; dsimp only; rw [isW_nm hk, isW_nm hk, isW_nm hk, isW_nm hk]; simp only [Bool.false_eq_true, if_false]; unfold namedF; rw [ht, hq]; dsimp only; rw [if_pos hk, if_pos (by rw [isW_of qk qx]; decide), show ts[a + 2]? = some v from hv, show ts[a + 3]? = some t9 from h9]; dsimp only; rw [if_pos vk]; rfl
  . rw [resF, if_neg (by omega), if_pos rfl, hx, vx, hS]
theorem ty_rec {ns : List ByteArray} {ta : List T} (hl : ns.length = ta.length) (h60 : ta.length <= 60) (hB : ∀ a ∈ ta, TyB S a) (hself : recF ns ta = (.mk 7 .empty ns ta .nil, 0)) : TyO S (.mk 7 .empty ns ta .nil) := by
  intro _ ts g a d hA ⟨t9, h9, _⟩ hg; rw [ptk_rec] at hA h9 hg ⊢; obtain ⟨t, ht, hk, hx⟩ := hA.head; have hT := hA.tail; have hz := fst_zip hl
  have one : oneS ts (typF ts g) a d = match lstA ts (fieldE ts (typF ts g) d) wRb (a + 1) [] with
      | none => none
      | some (xs, a1, ns) => some (.mk 7 t.at_ .empty .empty ns xs .nil, a1) := by
    unfold oneS; rw [ht]; dsimp only; rw [if_neg (by rw [isW_of hk hx]; decide +kernel), if_neg (by rw [isW_of hk hx]; decide), if_pos (by rw [isW_of hk hx]; decide)]; rfl
  rw [one]; have hsz : ∀ z ∈ ns.zip ta, size z.2 < size (.mk 7 .empty ns ta .nil) := fun z hzm => size_arg (List.of_mem_zip hzm).2; have hlen : ∀ z ∈ ns.zip ta, (fieldT z).length <= (sepT (5, wComma) ((ns.zip ta).map fieldT)).length := fun z hzm => sepT_mem (List.mem_map_of_mem hzm); simp only [List.length_cons, List.length_append, List.length_nil] at hg h9 ⊢; generalize hitems : ns.zip ta = items at *
  cases items with
  | nil =>
    have hns : ns = [] := by rw [<- hz.1]; rfl
    have has : ta = [] := by rw [<- hz.2]; rfl
    subst hns; subst has; obtain ⟨q, hq, qk, qx⟩ := hT.head; refine .inl ⟨.mk 7 t.at_ .empty .empty [] [] .nil, ?_, resF_rec (by simp [resFs]) hself _ _ _ _⟩; unfold lstA; rw [hq]; dsimp only; rw [if_pos (by rw [isW_of qk qx]; decide)]; rfl
  | cons y l =>
    have hq : ∃ q, ts[a + 1]? = some q /\ q.kind = 1 := by
      have h := hT; rw [List.map_cons, sepT] at h; unfold fieldT at h; obtain ⟨q, hq, qk, _⟩ := h.head; exact ⟨q, hq, qk⟩
    obtain ⟨q, hq, qk⟩ := hq
    have hlst : lstA ts (fieldE ts (typF ts g) d) wRb (a + 1) [] = lstF ts (fieldE ts (typF ts g) d) wRb (ts.length + 1) (a + 1) (ns.take 0) [] := by
      unfold lstA; rw [hq]; dsimp only; rw [isW_nm qk]; rfl
    rw [hlst]
    have hfu : l.length < ts.length + 1 := by
      have h1 := (List.getElem?_eq_some_iff.1 h9).1; have h2 := sepT_len (s := (5, wComma)) ((y :: l).map fieldT); simp only [List.length_map, List.length_cons] at h2; omega
    have key := lst_at (S := S) (E := fieldE ts (typF ts g) d) (en := wRb) (by decide) (by decide) (Q := fieldT) (val := fun x => x.2) (stt := fun i => ns.take i) (d := d) (y :: l) (fun i z hi b hb hf => ?_) l y 0 (ts.length + 1) (a + 1) [] rfl hT hfu
    . rcases key with ⟨xs, e1, e2⟩ | ⟨e1, z, hzm, e2⟩
      . rw [e1]
        have hn : ns.take (y :: l).length = ns := by
          rw [<- hz.1, <- List.length_map (f := fun x : ByteArray × T => x.1), List.take_length]
        refine .inl ⟨.mk 7 t.at_ .empty .empty ns xs .nil, ?_, resF_rec (by rw [e2, hz.2]) hself _ _ _ _⟩; dsimp only; rw [hn]; simp only [List.nil_append]
        congr 2
        omega
      . rw [e1]; have := hsz z hzm; exact .inr ⟨rfl, by omega⟩
    . have hzm : z ∈ y :: l := List.mem_of_getElem? hi
      have hnz : ns[i]? = some z.1 := by
        rw [<- hz.1, List.getElem?_map, hi]; rfl
      have hm : z.2 ∈ ta := by rw [<- hz.2]; exact List.mem_map_of_mem hzm
      have hzl := hlen z hzm; have hfl : (fieldT z).length = 2 + (ptk z.2).length := by simp [fieldT]; omega
      obtain ⟨t1, g1, k1, x1⟩ := AtT.head (k := 1) (x := z.1) (l := (5, wColon) :: ptk z.2) hb; obtain ⟨t2, g2, k2, x2⟩ := (AtT.tail (y := (1, z.1)) (l := (5, wColon) :: ptk z.2) hb).head; have hb3 : AtT ts (b + 2) (ptk z.2) := (AtT.tail (y := (1, z.1)) (l := (5, wColon) :: ptk z.2) hb).tail
      have hf3 : Aft ts (b + 2 + (ptk z.2).length) := by
        rw [hfl] at hf; rw [Nat.add_assoc]; exact hf
      have fe : fieldE ts (typF ts g) d (ns.take i) b = match typF ts g (b + 2) d with
          | some (x, a1) => some (x, a1, ns.take i ++ [t1.text])
          | none => none := by
        unfold fieldE; have h9 : ¬ 900000 < (ns.take i).length := by rw [List.length_take]; omega
        rw [if_neg h9, g1, show ts[b + 1]? = some t2 from g2]; dsimp only; rw [if_pos k1, if_pos (by rw [isW_of k2 x2]; decide)]; rfl
      rw [fe]; rcases hB z.2 hm ts g (b + 2) d hb3 hf3 (by omega) with ⟨x, e1, e2⟩ | ⟨e1, e2⟩
      . refine .inl ⟨x, ?_, e2⟩; rw [e1, hfl, x1]; dsimp only; have : ns.take (i + 1) = ns.take i ++ [z.1] := by rw [List.take_add_one, hnz]; rfl
        rw [this, Nat.add_assoc]
      . exact .inr ⟨by rw [e1], e2⟩
theorem ty_fun {ta : List T} {r : T} (hma : ∀ a ∈ ta, may a = true) (hB : ∀ a ∈ ta, TyB S a) (hBr : TyB S r) (hself : funF ta r = (.mk 8 .empty [] ta r, 0)) : TyO S (.mk 8 .empty [] ta r) := by
  intro _ ts g a d hA ⟨t9, h9, hb9⟩ hg; have hb9 := hb9 rfl; rw [ptk_fun] at hA h9 hg ⊢; obtain ⟨t, ht, hk, hx⟩ := hA.head; obtain ⟨q, hq, qk, qx⟩ := hA.tail.head; have hT : AtT ts (a + 2) (sepT (5, wComma) (ta.map ptk) ++ (5, wRp) :: (5, wArrow) :: ptk r) := hA.tail.tail
  have hT1 : AtT ts (a + 2) (sepT (5, wComma) (ta.map ptk) ++ [(5, wRp)]) := by
    rw [show (5, wRp) :: (5, wArrow) :: ptk r = [(5, wRp)] ++ (5, wArrow) :: ptk r from rfl, <- List.append_assoc] at hT; exact hT.left
  have hT2 := hT.right.tail; obtain ⟨v, hv, vk, vx⟩ := hT2.head; have hT3 := hT2.tail
  have one : oneS ts (typF ts g) a d = match lstA ts (argE (typF ts g) d) wRp (a + 2) () with
          | none => none
          | some (xs, a1, _) => match ts[a1]? with
            | none => none
            | some r => if isW r [wArrow] then match typF ts g (a1 + 1) d with
                | none => none
                | some (x, a2) => some (.mk 8 t.at_ .empty .empty [] xs x, a2)
              else none := by
    unfold oneS; rw [ht]; dsimp only; rw [if_neg (by rw [isW_of hk hx]; decide +kernel), if_neg (by rw [isW_of hk hx]; decide), if_neg (by rw [isW_of hk hx]; decide), if_pos (by rw [isW_of hk hx]; decide), hq]; dsimp only; rw [if_pos (by rw [isW_of qk qx]; decide)]; rfl
  rw [one]; have hsz : ∀ z ∈ ta, size z < size (.mk 8 .empty [] ta r) := fun z hzm => size_arg hzm; have hszr : size r < size (.mk 8 .empty [] ta r) := size_ret; have hlen : ∀ z ∈ ta, (ptk z).length <= (sepT (5, wComma) (ta.map ptk)).length := fun z hzm => sepT_mem (List.mem_map_of_mem hzm); simp only [List.length_cons, List.length_append] at hg h9 ⊢
  have rest : ∀ (xs : List Wt) (a1 : Nat), a1 = a + 2 + (sepT (5, wComma) (ta.map ptk)).length + 1 -> resFs S xs = (ta, []) ->
      (∃ x, (match ts[a1]? with
            | none => none
            | some r => if isW r [wArrow] then match typF ts g (a1 + 1) d with
                | none => none
                | some (x, a2) => some (Wt.mk 8 t.at_ .empty .empty [] xs x, a2)
              else none) = some (x, a + ((sepT (5, wComma) (ta.map ptk)).length + ((ptk r).length + 1 + 1) + 1 + 1)) /\ resF S x = (.mk 8 .empty [] ta r, [])) \/
      ((match ts[a1]? with
            | none => none
            | some r => if isW r [wArrow] then match typF ts g (a1 + 1) d with
                | none => none
                | some (x, a2) => some (Wt.mk 8 t.at_ .empty .empty [] xs x, a2)
              else none) = none /\ 41 < d + size (.mk 8 .empty [] ta r)) := by
    intro xs a1 ea hxs; subst ea; rw [hv]; dsimp only; rw [if_pos (by rw [isW_of vk vx]; decide)]; rcases hBr ts g _ d hT3 ⟨t9, by rw [<- h9]; congr 1; omega, hb9⟩ (by omega) with ⟨x, e1, e2⟩ | ⟨e1, e2⟩
    . rw [e1]; refine .inl ⟨.mk 8 t.at_ .empty .empty [] xs x, ?_, resF_fun hxs e2 hself _ _ _ _⟩; dsimp only
      congr 2
      omega
    . rw [e1]; exact .inr ⟨rfl, by omega⟩
  cases ta with
  | nil =>
    obtain ⟨z, hz, zk, zx⟩ := hT1.head
    have hlst : lstA ts (argE (typF ts g) d) wRp (a + 2) () = some ([], a + 2 + 1, ()) := by
      unfold lstA; rw [hz]; dsimp only; rw [if_pos (by rw [isW_of zk zx]; decide)]
    rw [hlst]; exact rest [] _ rfl (by simp [resFs])
  | cons y l =>
    have hq : ∃ q, ts[a + 2]? = some q /\ isW q [wRp] = false := by
      have h := hT1; obtain ⟨k, x, l', e, hne⟩ := ptk_head y (hma y (by simp)); rw [List.map_cons, sepT, e] at h; obtain ⟨q, hq, qk, qx⟩ := h.head; refine ⟨q, hq, ?_⟩; rw [isW_of qk qx, memB_one, decide_eq_false hne, Bool.and_false]
    obtain ⟨q, hq, qw⟩ := hq
    have hlst : lstA ts (argE (typF ts g) d) wRp (a + 2) () = lstF ts (argE (typF ts g) d) wRp (ts.length + 1) (a + 2) () [] := by
      unfold lstA; rw [hq]; dsimp only; rw [qw]; rfl
    rw [hlst]
    have hfu : l.length < ts.length + 1 := by
      have h1 := (List.getElem?_eq_some_iff.1 h9).1; have h2 := sepT_len (s := (5, wComma)) ((y :: l).map ptk); simp only [List.length_map, List.length_cons] at h2; omega
    have key := lst_at (S := S) (E := argE (typF ts g) d) (en := wRp) (by decide) (by decide) (Q := ptk) (val := fun x => x) (stt := fun _ => ()) (d := d) (y :: l) (fun i z hi b hb hf => ?_) l y 0 (ts.length + 1) (a + 2) [] rfl hT1 hfu
    . rcases key with ⟨xs, e1, e2⟩ | ⟨e1, z, hzm, e2⟩
      . rw [e1]; dsimp only; rw [List.nil_append]; exact rest xs _ rfl (by rw [e2, List.map_id'])
      . rw [e1]; have := hsz z hzm; exact .inr ⟨rfl, by omega⟩
    . have hzm : z ∈ y :: l := List.mem_of_getElem? hi; have := hlen z hzm; unfold argE; rcases hB z hzm ts g b d hb hf (by omega) with ⟨x, e1, e2⟩ | ⟨e1, e2⟩
      . exact .inl ⟨x, by rw [e1], e2⟩
      . exact .inr ⟨by rw [e1], e2⟩
theorem ptk_pos {u : T} (h : may u = true) : 0 < (ptk u).length := by
  obtain ⟨k, x, l, e, _⟩ := ptk_head u h; rw [e]; simp
theorem tyB_of {u : T} (hm : may u = true) (h9 : u.kind ≠ 9) (h : TyO S u) : TyB S u := by
  intro ts f a d hA ⟨t, ht, hb⟩ hf; have hp := ptk_pos hm; have hs := size_pos' hm
  cases f with
  | zero => omega
  | succ g =>
    obtain ⟨t0, ht0⟩ : ∃ t, ts[a]? = some t := ⟨_, List.getElem?_eq_getElem (by have := (List.getElem?_eq_some_iff.1 ht).1; omega)⟩; show (∃ x, typS ts (typF ts g) a d = some (x, a + (ptk u).length) /\ _) \/ (typS ts (typF ts g) a d = none /\ _); unfold typS
    by_cases hd : 40 <= d
    . rw [if_pos hd]; exact .inr ⟨rfl, by omega⟩
    rw [if_neg hd, ht0]; dsimp only; rcases h h9 ts g a (d + 1) hA ⟨t, ht, fun _ => hb⟩ hf with ⟨x, e1, e2⟩ | ⟨e1, e2⟩
    . rw [e1]; dsimp only
      have e3 : barsF ts (fun a => oneS ts (typF ts g) a (d + 1)) (ts.length + 1) (a + (ptk u).length) [x] = some ([x], a + (ptk u).length) := by
        rw [barsF, ht]; dsimp only; rw [hb]; rfl
      rw [e3]; exact .inl ⟨x, rfl, e2⟩
    . rw [e1]; exact .inr ⟨rfl, by omega⟩
theorem part_ok {ts : List Tok} {g D : Nat} {m : T} (hO : TyO S m) (hB : TyB S m) (h9 : m.kind ≠ 9) (hg : (partT m).length <= g + 1) : PartOk S ts g D m := by
  intro a hA ⟨t9, h9'⟩; unfold partT at hA h9' hg ⊢
  by_cases h8 : m.kind = 8
  . rw [if_pos h8] at hA h9' hg ⊢; obtain ⟨t, ht, hk, hx⟩ := hA.head; have hT := hA.tail; obtain ⟨q, hq, qk, qx⟩ := hT.right.head; simp only [List.length_cons, List.length_append, List.length_nil] at hg ⊢
    have one : oneS ts (typF ts g) a D = match typF ts g (a + 1) D with
      | none => none
      | some (x, a1) => match ts[a1]? with
        | none => none
        | some q => if isW q [wRp] then some (x, a1 + 1) else none := by
      unfold oneS; rw [ht]; dsimp only; rw [if_neg (by rw [isW_of hk hx]; decide +kernel), if_pos (by rw [isW_of hk hx]; decide)]; rfl
    rw [one]; rcases hB ts g (a + 1) D hT.left ⟨q, hq, by rw [isW_of qk qx]; decide⟩ (by omega) with ⟨x, e1, e2⟩ | ⟨e1, e2⟩
    . rw [e1]; dsimp only; rw [hq]; dsimp only; rw [if_pos (by rw [isW_of qk qx]; decide)]; refine .inl ⟨x, ?_, e2⟩
      congr 2
      omega
    . rw [e1]; exact .inr ⟨rfl, e2⟩
  . rw [if_neg h8] at hA h9' hg ⊢; rcases hO h9 ts g a D hA ⟨t9, h9', fun e => absurd e h8⟩ hg with h | ⟨e1, e2⟩
    . exact .inl h
    . exact .inr ⟨e1, by omega⟩
theorem ty_uni {ta : List T} (hl : 2 <= ta.length) (hk : ∀ a ∈ ta, a.kind ≠ 9) (hO : ∀ a ∈ ta, TyO S a) (hB : ∀ a ∈ ta, TyB S a) (hself : unionF ta = (.mk 9 .empty [] ta .nil, 0)) (hm : may (.mk 9 .empty [] ta .nil) = true) : TyB S (.mk 9 .empty [] ta .nil) := by
  intro ts f a d hA ⟨t, ht, hb⟩ hf; have hp := ptk_pos hm; have hs := size_pos' hm
  cases f with
  | zero => omega
  | succ g =>
    obtain ⟨t0, ht0⟩ : ∃ t, ts[a]? = some t := ⟨_, List.getElem?_eq_getElem (by have := (List.getElem?_eq_some_iff.1 ht).1; omega)⟩; show (∃ x, typS ts (typF ts g) a d = some (x, a + (ptk _).length) /\ _) \/ (typS ts (typF ts g) a d = none /\ _); unfold typS
    by_cases hd : 40 <= d
    . rw [if_pos hd]; exact .inr ⟨rfl, by omega⟩
    rw [if_neg hd, ht0]; dsimp only; have hsz : ∀ z ∈ ta, size z < size (.mk 9 .empty [] ta .nil) := fun z hzm => size_arg hzm
    have hP : ∀ m ∈ ta, PartOk S ts g (d + 1) m := fun m hmm => part_ok (hO m hmm) (hB m hmm) (hk m hmm) (by
      have := sepT_mem (s := (5, wBar)) (List.mem_map_of_mem (f := partT) hmm); rw [ptk_union] at hf; omega)
    rw [ptk_union] at hA ht hf ⊢
    cases ta with
    | nil => simp at hl
    | cons m ms =>
      rw [List.map_cons, sepT] at hA ht ⊢; rw [List.length_append] at ht ⊢; have hlt := (List.getElem?_eq_some_iff.1 ht).1; rcases hP m (by simp) a hA.left ⟨_, List.getElem?_eq_getElem (by omega)⟩ with ⟨x, e1, e2⟩ | ⟨e1, e2⟩
      . rw [e1]; dsimp only; have hml := tlT_len (s := (5, wBar)) (ms.map partT); rw [List.length_map] at hml; rcases bars_at ms (fun m' h => hP m' (by simp [h])) (ts.length + 1) _ [x] hA.right ⟨t, by rw [<- ht]; congr 1; omega, hb⟩ (by omega) with ⟨xs, j1, j2⟩ | ⟨j1, m', hm', h⟩
        . rw [j1]; dsimp only
          have hxl : xs.length = ms.length := by
            have := resFs_len S xs; rw [j2] at this; exact this.symm
          rw [if_neg (by simp only [List.length_append, List.length_cons, List.length_nil] at hl ⊢; omega)]; refine .inl ⟨.mk 9 t0.at_ .empty .empty [] ([x] ++ xs) .nil, ?_, resF_uni (xs := [x] ++ xs) (by rw [List.singleton_append, resFs_cons, e2, j2]; rfl) hself _ _ _ _ _⟩
          congr 2
          omega
        . rw [j1]; have := hsz m' (by simp [hm']); exact .inr ⟨rfl, by omega⟩
      . rw [e1]; have := hsz m (by simp); exact .inr ⟨rfl, by omega⟩
theorem ty_ok (hS : nameF S bL bV = some (.mk 6 lVn [] [] .nil)) : ∀ u : T, check u = 0 -> Nk [lVn] u -> TyO S u /\ TyB S u := by
  refine Go.Ty.ind (fun h => by cases h) fun k nm ns ta r ha hr hc hn => ?_; obtain ⟨hm, h60⟩ := check_iff.1 hc; have hca : ∀ a ∈ ta, may a = true -> check a = 0 := fun a h hma => check_iff.2 ⟨hma, by have := size_arg (k := k) (nm := nm) (ns := ns) (r := r) h; omega⟩; have nd := nk_dotted _ hn
  cases hn with
  | mk _ _ _ _ _ n1 n2 n3 n4 =>
  cases Go.Ty.shape hm with
  | basic _ h1 h5 => exact ⟨ty_basic h1 h5, tyB_of hm (by simp only [T.kind]; omega) (ty_basic h1 h5)⟩
  | name _ _ =>
    have e := List.mem_singleton.1 (n1 rfl); subst e; exact ⟨ty_name hS, tyB_of hm (by simp [T.kind]) (ty_name hS)⟩
  | record _ _ hl hf hri hma =>
    have h1 : ta.length <= 60 := by
      have := length_le_sizes (l := ta) fun a h => by
        have := hma a h
        cases a with
        | nil => cases this
        | mk => rfl
      rw [size_mk] at h60; omega
    have h := ty_rec (S := S) hl h1 (fun a h => (ha a h (hca a h (hma a h)) (n3 a h)).2) (recF_self hc); exact ⟨h, tyB_of hm (by simp [T.kind]) h⟩
  | fn _ _ hma hmr =>
    have hrn : r ≠ .nil := fun e => by rw [e] at hmr; cases hmr
    have hcr : check r = 0 := check_iff.2 ⟨hmr, by rw [size_mk] at h60; omega⟩; have h := ty_fun (S := S) hma (fun a h => (ha a h (hca a h (hma a h)) (n3 a h)).2) (hr hcr (n4 hrn)).2 (funF_self hc); exact ⟨h, tyB_of hm (by simp [T.kind]) h⟩
  | union _ hl hk hri hma =>
    refine ⟨fun h => absurd rfl h, ty_uni hl (fun a h => (hk a h).1) (fun a h => (ha a h (hca a h (hma a h)) (n3 a h)).1) (fun a h => (ha a h (hca a h (hma a h)) (n3 a h)).2) (unionF_self hc fun a h => ?_) hm⟩; exact (dotted_iff.1 nd).2.1 a h
end
def One (toks : List Tok) (c : Dc) : Prop := ∃ a' t, declF toks toks.length 0 0 = some (c, a') /\ toks[a']? = some t /\ t.kind = 0
theorem lds_err {w : World} {a : Addr} {v0 : Value} (h : w.cell? a = some v0) : Lds Tryz.prog 71 w a v0 := by
  have key : (∃ v', w.cell? a = some v' /\ v' = v0) = ldVC Tryz.prog 71 w a (fun v => v = v0) := by kernel_rfl
  obtain ⟨v, rfl, hr⟩ := semR_out (ldVC_sound (of_eq ⟨_, h, rfl⟩ key)); exact hr w rfl
section
variable {w0 : World} {tv : Value} {toks : List Tok}
theorem decl_z (P : P0 w0 tv toks) (G : Good toks) (hl : toks.length <= 900000) {d : Nat} (hd : d <= 1000) {w : World} {a : Nat} {K R : KV} (Z : Pz w0 tv w a d) (ha : a < toks.length) (hy : isW toks[a] [wType] = true)
    (hk : ∀ (q : Option Addr) w' a' c, a < a' -> a' < toks.length -> declF toks toks.length a d = some (c, a') -> Pz w0 tv w' a' d -> Upd (· = w0.heap.size) w w' -> DcAt (From w.heap.size) w' (.pointer q) c -> K (.pointer q) w')
    (hr : declF toks toks.length a d = none -> ∀ v w', Gave w0 tv (· = w0.heap.size) w d v w' -> R v w') :
    callX Tryz.prog 43 #[.pointer (some ⟨w0.heap.size, 0, none⟩)] w K R := by
  cases hF : declF toks toks.length a d with
  | none =>
    refine decl_w P G hl hd Z ha (fun q w' a' h1 h2 Z' u h => ?_) (hr hF); obtain ⟨c, e, _⟩ := h hy; rw [hF] at e; cases e
  | some r =>
    obtain ⟨c, a1⟩ := r; have h1 := declF_inc hF; have hF' := hF; refine decl_c P hl Z hF fun w' q Z' hD u' => hk q w' a1 c h1 ?_ hF' Z' u' hD
    have hni : isW toks[a] [wImport] = false := by
      cases h : isW toks[a] [wImport] with
      | false => rfl
      | true =>
        unfold isW memB at h hy; simp only [List.any_cons, List.any_nil, Bool.or_false, Bool.and_eq_true, decide_eq_true_eq] at h hy; exact absurd (h.2.symm.trans hy.2) (by decide)
    unfold declF at hF; rw [List.getElem?_eq_getElem ha] at hF; dsimp only at hF; rw [if_neg (by rw [hni]; simp), if_pos hy] at hF; split at hF
    case h_2 => cases hF
    split at hF
    case isFalse => cases hF
    split at hF
    case isFalse => cases hF
    split at hF
    . rename_i x a2 hx; simp only [Option.some.injEq, Prod.mk.injEq] at hF; have := typF_in toks _ _ _ _ _ hx; omega
    . cases hF
def Sofar (toks : List Tok) (a : Nat) (vs : List Value) (sl : Value) (n0 : Nat) (w' : World) : Prop :=
  (vs = [] /\ a = 0) \/ (∃ q c, vs = [.pointer q] /\ declF toks toks.length 0 0 = some (c, a) /\ DcAt (fun b => n0 < b /\ ¬ InRow sl b) w' (.pointer q) c) \/ (2 <= vs.length /\ ¬ ∃ c, One toks c)
theorem Sofar.upd {a : Nat} {vs : List Value} {sl : Value} {n0 : Nat} {w w' : World} {X : Nat -> Prop} (h : Sofar toks a vs sl n0 w) (u : Upd X w w') (hn : ∀ b, n0 < b /\ ¬ InRow sl b -> ¬ X b) : Sofar toks a vs sl n0 w' := by
  rcases h with h | ⟨q, c, h1, h2, h3⟩ | h
  . exact .inl h
  . exact .inr (.inl ⟨q, c, h1, h2, h3.upd u hn⟩)
  . exact .inr (.inr h)
theorem Sofar.two {a : Nat} {vs : List Value} {sl : Value} {n0 : Nat} {w : World} (h : Sofar toks a vs sl n0 w) {t : Tok} (ht : toks[a]? = some t) (hk : t.kind ≠ 0) (hv : vs ≠ []) : ¬ ∃ c, One toks c := by
  rcases h with h | ⟨q, c, h1, h2, h3⟩ | h
  . exact absurd h.1 hv
  . rintro ⟨c', a', t', e, ht', h0⟩; rw [h2] at e; cases e; rw [ht] at ht'; cases ht'; exact hk h0
  . exact h.2
end
theorem Parse_t {w : World} {s : ByteArray} {PT : List Tok -> Prop} {F : Prop} (hP : ∀ toks, PT toks -> Good toks /\ toks.length <= 900000 /\ ∃ t, toks[0]? = some t /\ isW t [wType] = true)
    (hLex : ∀ (w1 : World) (K : KV), Upd No w w1 -> (∀ w' v toks, PT toks -> RowAt w' 114 4 v (tokCells toks) -> (∀ b, InRow v b -> w1.heap.size <= b) -> Upd No w1 w' -> K (.tuple #[v, .nilIface]) w') ->
      (∀ w' v, F -> Flt v -> Upd No w1 w' -> K (.tuple #[.slice none 0 0, v]) w') -> callC Tryz.prog 40 #[.string s] w1 K)
    {K R : KV}
    (hk : ∀ w' c toks b p cap, PT toks -> One toks c -> w'.cell? p = some (.pointer b) -> DcAt (From w.heap.size) w' (.pointer b) c -> Upd No w w' -> K (.tuple #[.slice (some p) 1 cap, .nilIface]) w')
    (hn : ∀ w' toks p n cap, PT toks -> (¬ ∃ c, One toks c) -> n ≠ 1 -> Upd No w w' -> K (.tuple #[.slice p n cap, .nilIface]) w')
    (hf : ∀ w' q, (F \/ ∃ toks, PT toks /\ ¬ ∃ c, One toks c) -> Upd No w w' -> K (.tuple #[.slice none 0 0, .iface 106 (.pointer q)]) w') :
    callX Tryz.prog 24 #[.string s] w K R := by
  refine Parse_text _ _ _ _ (newC_mk fun w1 B1 u1 s1 => newC_mk fun w3 B3 u3 s3 => hLex w3 _ (up u1 u3) ?_ ?_)
  rotate_left
  . rintro w5 v hF ⟨q, e⟩ u5; subst e; have b0 := (B1.upd u3 id).upd u5 id; have b2 := B3.upd u5 id; have z5 := u5.size; refine ⟨none, 0, 0, _, rfl, ?_⟩; simp only [oneC]; refine stC_mk b2 (by simp) fun w10 B10 u10 s10 => ⟨_, B10.cell rfl, .bool true, ⟨true, rfl, brC_tt rfl (drawC_mk fun w14 u14 _ => ?_)⟩, fun w' e => by cases e; exact neq_flt _ _ _⟩; have b10 := b0.upd u10 (by omega); refine ⟨fun w' => Blk w' w1.heap.size #[.iface 106 (.pointer q)] 71, .iface 106 (.pointer q), (B10.upd u14 id).cell rfl, fun w17 h => lds_err (h.cell rfl), stC_mk (b10.upd u14 id) (by simp) fun w18 B18 u18 _ => ⟨(B10.upd u14 id).upd u18 (by omega), ?_⟩, trivial⟩; refine ⟨?_, trivial⟩; simp only [oneC]; refine stC_mk ((B10.upd u14 id).upd u18 (by omega)) (by simp) fun w19 B19 u19 _ => ⟨_, _, _, (B18.upd u19 (by omega)).cell rfl, _, B19.cell rfl, hf w19 q (.inl hF) ?_⟩; exact ((((up (up u1 u3) u5).trans u10 fun x hx (e : x = _) => by omega).trans u14 fun _ _ h => h).trans u18 fun x hx (e : x = _) => by omega).trans u19 fun x hx (e : x = _) => by omega
  intro w5 v toks hPT rowT ownT u5; obtain ⟨G, hl, t0, ht0, hy0⟩ := hP toks hPT; have hl0 : 0 < toks.length := (List.getElem?_eq_some_iff.1 ht0).1; obtain ⟨pt, nt, ct, rfl, hnt, _⟩ := rowT.shape; refine ⟨pt, nt, ct, _, rfl, ?_⟩; have b0 := (B1.upd u3 id).upd u5 id; have b2 := B3.upd u5 id; simp only [oneC]; refine stC_mk b2 (by simp) fun w10 B10 u10 s10 => ⟨_, B10.cell rfl, .bool false, ⟨false, rfl, brC_ff rfl (newC_mk fun w25 B25 u25 s25 => ?_)⟩, fun w' e => by cases e; exact neq_nil _ _⟩; have b10 := b0.upd u10 (by omega); have z5 := u5.size; have P : P0 w10 (.slice pt nt ct) toks := ⟨rowT.upd u10 fun b hb e => by have := ownT b hb; have := row_type rowT b2 (by rw [<- e]; exact hb); exact absurd this (by decide), by omega⟩; have Z25 : Pz w10 (.slice pt nt ct) w25 0 0 := ⟨u25.no, B25⟩; have U10 : Upd No w w10 := (up (up u1 u3) u5).trans u10 fun x hx (e : x = _) => by omega
  have z10 := U10.size; have w1lt := B10.lt; have nTok : ¬ InRow (.slice pt nt ct) w.heap.size := fun h => by have := ownT _ h; omega
  refine ⟨fun w' => ∃ a p n c vs, Pz w10 (.slice pt nt ct) w' a 0 /\ a < toks.length /\ Blk w' w.heap.size #[.slice p n c] 57 /\ Blk w' w1.heap.size #[.nilIface] 71 /\ RowAt w' 51 1 (.slice p n c) vs /\ (∀ b, InRow (.slice p n c) b -> w10.heap.size < b) /\
      Sofar toks a vs (.slice p n c) w10.heap.size w' /\ vs.length <= a /\ Upd No w w', fun w' => toks.length + 1 - atOf w' w10.heap.size, ?_, ?_⟩
  . exact ⟨0, none, 0, 0, [], Z25, hl0, b10.upd u25 id, B10.upd u25 id, RowAt.nil _ _ _, fun b hb => (no_in b hb).elim, .inl ⟨rfl, rfl⟩, Nat.zero_le _, up U10 u25⟩
  rintro w28 ⟨a, p, n, c, vs, Z28, hat, c0, c2, row, rowN, hds, hva, U28⟩ _; have ht : toks[a]? = some toks[a] := List.getElem?_eq_getElem hat; refine next_c P Z28 ht fun w31 u31 => ⟨_, _, _, _, rfl, brC_intro (fun hk0 => ?_) fun hk0 => ?_⟩
  . have hk0 : toks[a].kind ≠ 0 := by simpa using hk0
    refine drawC_mk fun w36 u36 _ => ⟨fun w' => Blk w' w.heap.size #[.slice p n c] 57, p, n, c, ((c0.upd u31 id).upd u36 id).cell rfl, fun w41 h => lds_decls (h.cell rfl), ?_, trivial⟩; have U36 := up u31 u36; have Z36 := Z28.keep U36; have z36 := U36.size; have nk : ∀ b, w10.heap.size < b -> ¬ b = w10.heap.size := fun b hb e => by omega
    have out : ∀ v w', (¬ ∃ c, One toks c) -> Gave w10 (.slice pt nt ct) (· = w10.heap.size) w36 0 v w' -> defP Tryz.prog (Deferred.mk (Target.fn (Fn.func 41) #[.pointer (some (Addr.mk w.heap.size 0 none)), .pointer (some (Addr.mk w1.heap.size 0 none))]) #[]) v w' (fun w55 => ∃ p56, ∃ k57, ∃ k58, w55.cell? (Addr.mk w.heap.size 0 none) = some (.slice p56 k57 k58) /\ ∃ v59, w55.cell? (Addr.mk w1.heap.size 0 none) = some v59 /\ K (.tuple #[.slice p56 k57 k58, v59]) w55) R := by
      intro v w' hno g; obtain ⟨q, rfl⟩ := g.v; refine ⟨_, _, _, _, rfl, rfl, (parseD_rec (((c0.upd u31 id).upd u36 id).upd g.u (by omega)) (((c2.upd u31 id).upd u36 id).upd g.u (by omega)) (by omega)).mono ?_⟩; rintro e u' w2 ⟨rfl, rfl, D0, D2, uD⟩; exact ⟨⟨_, rfl⟩, .inl ⟨rfl, _, _, _, D0.cell rfl, _, D2.cell rfl, hf w2 q (.inr ⟨toks, hPT, hno⟩) (((up U28 U36).trans g.u fun x hx (e : x = _) => by omega).trans uD fun x hx e => by rcases e with e | e <;> omega)⟩⟩
    have nxt : ∀ (q : Option Addr) w43 a1, a < a1 -> a1 < toks.length -> Pz w10 (.slice pt nt ct) w43 a1 0 -> Upd (· = w10.heap.size) w36 w43 -> (vs = [] -> ∃ c, declF toks toks.length 0 0 = some (c, a1) /\ DcAt (From w36.heap.size) w43 (.pointer q) c) ->
        (Blk w43 w.heap.size #[.slice p n c] 57 /\ (newC w43 (Obj.cells #[.pointer q] 51) fun k45 w46 => Blk w46 w.heap.size #[.slice p n c] 57 /\ (runC Tryz.prog (Builtin.append_ #[57, 57] 57 #[.slice p n c, .slice (some (Addr.mk k45 0 none)) 1 1]) w46 fun v47 w48 => ∃ p49, ∃ k50, ∃ k51, v47 = .slice p49 k50 k51 /\ (stC w48 (Addr.mk w.heap.size 0 none) (.slice p49 k50 k51) fun w52 =>
          (∃ a p n c vs, Pz w10 (.slice pt nt ct) w52 a 0 /\ a < toks.length /\ Blk w52 w.heap.size #[.slice p n c] 57 /\ Blk w52 w1.heap.size #[.nilIface] 71 /\ RowAt w52 51 1 (.slice p n c) vs /\ (∀ b, InRow (.slice p n c) b -> w10.heap.size < b) /\
      Sofar toks a vs (.slice p n c) w10.heap.size w52 /\ vs.length <= a /\ Upd No w w52) /\ toks.length + 1 - atOf w52 w10.heap.size < toks.length + 1 - atOf w28 w10.heap.size) /\ True) /\ True) /\ True) := by
      intro q w43 a1 ha1 ha1l Z43 u43 hdc; refine ⟨(c0.upd U36 id).upd u43 (by omega), newC_mk fun w46 B46 u46 s46 => ⟨((c0.upd U36 id).upd u43 (by omega)).upd u46 id, ?_, trivial⟩, trivial⟩; have z43 := u43.size; have row46 := ((row.upd U36 fun _ _ h => h).upd u43 fun b hb => nk b (rowN b hb)).upd u46 fun _ _ h => h; have hnr := row_cap row46; refine grow_row elemDc (n0 := w10.heap.size) ⟨row46, fun b hb => by have := rowN b hb; omega, hnr.1, hnr.2⟩ (by have := Z36.lt; omega) (row_one B46) (by intro u hu; simp at hu; subst hu; rfl) (by omega) (by simp; omega) fun p' n' c' w48 o48 _ hin48 u48 => ?_; have c48 := (((c0.upd U36 id).upd u43 (by omega)).upd u46 id).upd u48 (fun h => by have := rowN _ h; omega); have e48 := (((c2.upd U36 id).upd u43 (by omega)).upd u46 id).upd u48 (fun h => by have := rowN _ h; omega)
      have rowN48 : ∀ b, InRow (.slice p' n' c') b -> w10.heap.size < b := fun b hb => by
        rcases hin48 b hb with h | h
        . exact rowN b h
        . have := Z28.lt; omega
      refine ⟨stC_mk c48 (by simp) fun w52 B52 u52 _ => ⟨⟨a1, p', n', c', vs ++ [.pointer q], ?_, ha1l, B52, e48.upd u52 (by omega), o48.row.upd u52 (fun b hb e => by have := rowN48 b hb; omega), rowN48, ?_, by simp; omega, ?_⟩, ?_⟩, trivial⟩
      . exact ⟨((Z43.keep u46).up.trans u48 fun y hy h => by have := rowN y h; omega).trans u52 fun y hy (e : y = _) => e ▸ nTok, ((Z43.keep u46).blk.upd u48 fun h => by have := rowN _ h; omega).upd u52 (by omega)⟩
      . by_cases hv : vs = []
        . obtain ⟨dc, e, hd⟩ := hdc hv; refine .inr (.inl ⟨q, dc, by rw [hv]; rfl, e, ?_⟩); refine DcAt.upd ?_ u52 fun b hb e => by have := hb.1; omega
          have h1 : DcAt (fun b => w36.heap.size <= b /\ b < w43.heap.size) w46 (.pointer q) dc := (hd.mono (G := fun b => w36.heap.size <= b /\ b < w43.heap.size) fun b hlt hb => ⟨hb, hlt⟩).upd u46 fun _ _ h => h
          exact (h1.upd u48 fun b hb h => by have := row.lt h; omega).mono fun b _ hb => ⟨by have := Z36.lt; omega, fun h => by
            rcases hin48 b h with h2 | h2
            . have := row.lt h2; omega
            . have := u46.size; omega⟩
        . refine .inr (.inr ⟨?_, hds.two ht hk0 hv⟩); have : 0 < vs.length := List.length_pos_iff.2 hv; simp; omega
      . exact ((((up U28 U36).trans u43 fun y hy (e : y = _) => by omega).trans u46 fun _ _ h => h).trans u48 fun y hy h => by have := rowN y h; omega).trans u52 fun y hy (e : y = _) => by omega
      . have zz : Pz w10 (.slice pt nt ct) w52 a1 0 := ⟨((Z43.keep u46).up.trans u48 fun y hy h => by have := rowN y h; omega).trans u52 fun y hy (e : y = _) => e ▸ nTok, ((Z43.keep u46).blk.upd u48 fun h => by have := rowN _ h; omega).upd u52 (by omega)⟩; rw [zz.at_, Z28.at_]; omega
    by_cases hv : vs = []
    . have ha0 : a = 0 := by
        rcases hds with h | ⟨q, c, h1, _⟩ | h
        . exact h.2
        . rw [h1] at hv; cases hv
        . have := h.1; rw [hv] at this; simp at this
      subst ha0
      have hy : isW toks[0] [wType] = true := by
        have : toks[0] = t0 := by rw [ht0] at ht; cases ht; rfl
        rw [this]; exact hy0
      refine decl_z P G hl (by omega) Z36 hat hy (fun q w43 a1 dc h1 h2 hF Z43 u43 hD => ⟨q, rfl, ?_⟩) fun hF v w' g => out v w' (fun ⟨c, a', t, e, _⟩ => by rw [hF] at e; cases e) g; exact nxt q w43 a1 h1 h2 Z43 u43 fun _ => ⟨dc, hF, hD⟩
    . refine decl_w P G hl (by omega) Z36 hat (fun q w43 a1 h1 h2 Z43 u43 _ => ⟨q, rfl, ?_⟩) fun v w' g => out v w' (hds.two ht hk0 hv) g; exact nxt q w43 a1 h1 h2 Z43 u43 fun h => absurd h hv
  . have hk0 : toks[a].kind = 0 := by simpa using hk0
    have d0 := c0.upd u31 id; have d2 := c2.upd u31 id; refine ⟨p, n, c, d0.cell rfl, stC_mk d0 (by simp) fun w63 B63 u63 _ => stC_mk (d2.upd u63 (by omega)) (by simp) fun w64 B64 u64 _ => ?_⟩; have b64 := B63.upd u64 (by omega); refine ⟨_, _, _, _, rfl, rfl, (parseD_idle _ _ w64).mono ?_⟩; rintro e u w65 ⟨rfl, rfl, rfl⟩; refine ⟨⟨_, rfl⟩, rfl, _, _, _, b64.cell rfl, _, B64.cell rfl, ?_⟩; have U64 : Upd No w w65 := ((up U28 u31).trans u63 fun y hy (e : y = _) => by omega).trans u64 fun y hy (e : y = _) => by omega
    have row64 := ((row.upd u31 fun _ _ h => h).upd u63 fun b hb e => by have := rowN b hb; omega).upd u64 fun b hb e => by have := rowN b hb; omega
    have S64 := ((hds.upd u31 fun _ _ h => h).upd u63 fun b hb (e : b = _) => by have := hb.1; omega).upd u64 fun b hb (e : b = _) => by have := hb.1; omega
    obtain ⟨p', n', c', e, hnn, _⟩ := row64.shape; cases e; rcases S64 with ⟨_, ha0⟩ | ⟨q, dc, hv, hF, hD⟩ | ⟨h2, hno⟩
    . subst ha0; have : toks[0] = t0 := by rw [ht0] at ht; cases ht; rfl
      rw [this] at hk0; exact absurd hk0 (isW_kind hy0)
    . subst hv; have : n = 1 := by simp at hnn; omega
      subst this; obtain ⟨g0, o0, rfl, hc⟩ := row64.get (j := 0) (by simp); exact hk w65 dc toks q _ _ hPT ⟨a, _, hF, ht, hk0⟩ hc (hD.mono fun b _ hb => (show w.heap.size <= b by have := hb.1; omega)) U64
    . exact hn w65 toks _ _ _ hPT hno (by omega) U64
section
variable {w : World} {K : KV}
theorem written_t {x : ByteArray} (hx : x.size <= 90000) {PT : List Tok -> Prop} {F : Prop} (hP : ∀ toks, PT toks -> Good toks /\ toks.length <= 900000 /\ ∃ t, toks[0]? = some t /\ isW t [wType] = true)
    (hLex : ∀ (w1 : World) (K : KV), Upd No w w1 -> (∀ w' v toks, PT toks -> RowAt w' 114 4 v (tokCells toks) -> (∀ b, InRow v b -> w1.heap.size <= b) -> Upd No w1 w' -> K (.tuple #[v, .nilIface]) w') ->
      (∀ w' v, F -> Flt v -> Upd No w1 w' -> K (.tuple #[.slice none 0 0, v]) w') -> callC Tryz.prog 40 #[.string (typeX ++ x)] w1 K)
    (hk : ∀ w' c toks q, PT toks -> One toks c -> XAt idx (From 0) w' (.pointer q) c.t -> Upd No w w' -> K (.pointer q) w')
    (hn : ∀ w', (F \/ ∃ toks, PT toks /\ ¬ ∃ c, One toks c) -> Upd No w w' -> K (.pointer none) w') :
    callC Tryz.prog 9 #[.string x] w K := by
  refine written_text _ _ _ ⟨by omega, callC_ofX (Parse_t hP hLex (fun w1 c toks b p cap hPT h1 hc hD u1 => ?_) (fun w1 toks p n cap hPT h1 hne u1 => ?_) fun w1 q hh u1 => ?_)⟩
  . obtain ⟨b', tvv, e, _, hB, hX⟩ := hD; cases e; obtain ⟨q, rfl⟩ := x_ptr hX; refine ⟨_, _, _, _, rfl, fun w' => w' = w1, ?_, fun bb w' => bb = false /\ w' = w1, ?_, ?_⟩
    . rintro w' rfl _; exact ⟨by omega, by omega, ptrC_some ⟨_, by simpa [addr_add_zero] using hc, ptrC_some ⟨_, by rw [add_mk]; exact hB.cell rfl, hk _ c toks _ hPT h1 (hX.mono fun b _ _ => Nat.zero_le b) u1⟩⟩⟩
    . rintro bb w' ⟨rfl, rfl⟩ _; exact brC_ff rfl rfl
    . exact ⟨_, ⟨_, rfl, brC_ff rfl ⟨rfl, rfl⟩⟩, fun w' e => by cases e; exact neq_nil _ _⟩
  . refine ⟨_, _, _, _, rfl, fun _ => False, fun _ h => h.elim, fun bb w' => bb = true /\ w' = w1, ?_, ?_⟩
    . rintro bb w' ⟨rfl, rfl⟩ _; exact brC_tt rfl (hn _ (.inr ⟨toks, hPT, h1⟩) u1)
    . exact ⟨_, ⟨_, rfl, brC_ff rfl ⟨by simp; omega, rfl⟩⟩, fun w' e => by cases e; exact neq_nil _ _⟩
  . refine ⟨_, _, _, _, rfl, fun _ => False, fun _ h => h.elim, fun bb w' => bb = true /\ w' = w1, ?_, ?_⟩
    . rintro bb w' ⟨rfl, rfl⟩ _; exact brC_tt rfl (hn _ hh u1)
    . exact ⟨_, ⟨_, rfl, brC_tt rfl ⟨rfl, rfl⟩⟩, fun w' e => by cases e; exact neq_flt _ _ _⟩
end
def bX' : ByteArray := ByteArray.mk #[88]
def q0 : Tok := ⟨2, wType, 0, 0⟩
def q1 : Tok := ⟨1, bX', 0, 5⟩
def q2 : Tok := ⟨5, wEq, 0, 7⟩
def Late (t : Tok) : Prop := t.kind ≠ 0 /\ 9 <= t.at_ /\ (t.kind = 1 -> NameB t.text)
def Jx (a : Nat) (ts : List Tok) : Prop := (a = 0 /\ ts = []) \/ (a = 4 /\ ts = [q0]) \/ (a = 5 /\ ts = [q0]) \/ (a = 6 /\ ts = [q0, q1]) \/ (a = 7 /\ ts = [q0, q1]) \/ (a = 8 /\ ts = [q0, q1, q2]) \/ (9 <= a /\ ∃ ts', ts = q0 :: q1 :: q2 :: ts' /\ ∀ t ∈ ts', Late t)
theorem txt_typeX (x : ByteArray) : txt (typeX ++ x) = 116 :: 121 :: 112 :: 101 :: 32 :: 88 :: 32 :: 61 :: 32 :: txt x := by
  cases x; simp [txt, typeX]
theorem tokF_type (r : List UInt8) : tokF (116 :: 121 :: 112 :: 101 :: 32 :: r) = some (2, wType, 4) := by
  have h := tok_word (c := 116) (w := [121, 112, 101]) (r := 32 :: r) (by decide) (by decide) (by decide) (fun c e => by cases e; decide); rw [show memB (bs (116 :: [121, 112, 101])) kwL = true by decide +kernel] at h; exact h
theorem tokF_X (r : List UInt8) : tokF (88 :: 32 :: r) = some (1, bX', 1) := by
  have h := tok_word (c := 88) (w := []) (r := 32 :: r) (by decide) (by decide) (by decide) (fun c e => by cases e; decide); rw [show memB (bs (88 :: [])) kwL = false by decide +kernel] at h; exact h
theorem tokF_eq (r : List UInt8) : tokF (61 :: 32 :: r) = some (5, wEq, 1) := by kernel_rfl
theorem jx (x : ByteArray) : LxJ (typeX ++ x) Jx where
  z := .inl ⟨rfl, rfl⟩
  sp a ts c hc hs hJ := by
    rw [txt_typeX] at hc; rcases hJ with ⟨rfl, rfl⟩ | ⟨rfl, rfl⟩ | ⟨rfl, rfl⟩ | ⟨rfl, rfl⟩ | ⟨rfl, rfl⟩ | ⟨rfl, rfl⟩ | ⟨h, ts', rfl, hl⟩
    . cases hc; rcases hs with h | h | h | h <;> exact absurd h (by decide)
    . exact .inr (.inr (.inl ⟨rfl, rfl⟩))
    . cases hc; rcases hs with h | h | h | h <;> exact absurd h (by decide)
    . exact .inr (.inr (.inr (.inr (.inl ⟨rfl, rfl⟩))))
    . cases hc; rcases hs with h | h | h | h <;> exact absurd h (by decide)
    . exact .inr (.inr (.inr (.inr (.inr (.inr ⟨Nat.le_refl _, [], rfl, fun _ h => by cases h⟩)))))
    . exact .inr (.inr (.inr (.inr (.inr (.inr ⟨by omega, ts', rfl, hl⟩)))))
  rm a a' ts hc ha hJ := by
    rw [txt_typeX] at hc; rcases hJ with ⟨rfl, rfl⟩ | ⟨rfl, rfl⟩ | ⟨rfl, rfl⟩ | ⟨rfl, rfl⟩ | ⟨rfl, rfl⟩ | ⟨rfl, rfl⟩ | ⟨h, ts', rfl, hl⟩
    . cases hc
    . cases hc
    . cases hc
    . cases hc
    . cases hc
    . cases hc
    . exact .inr (.inr (.inr (.inr (.inr (.inr ⟨by omega, ts', rfl, hl⟩)))))
  tk a a' ts t c hc hs hT ha ha' hF hJ := by
    rw [txt_typeX] at hc hF; rcases hJ with ⟨rfl, rfl⟩ | ⟨rfl, rfl⟩ | ⟨rfl, rfl⟩ | ⟨rfl, rfl⟩ | ⟨rfl, rfl⟩ | ⟨rfl, rfl⟩ | ⟨h, ts', rfl, hl⟩
    . obtain ⟨rfl, rfl⟩ := hF _ _ _ (tokF_type _); exact .inr (.inl ⟨rfl, rfl⟩)
    . cases hc; exact absurd rfl hs.1
    . obtain ⟨rfl, rfl⟩ := hF _ _ _ (tokF_X _); exact .inr (.inr (.inr (.inl ⟨rfl, rfl⟩)))
    . cases hc; exact absurd rfl hs.1
    . obtain ⟨rfl, rfl⟩ := hF _ _ _ (tokF_eq _); exact .inr (.inr (.inr (.inr (.inr (.inl ⟨rfl, rfl⟩)))))
    . cases hc; exact absurd rfl hs.1
    . refine .inr (.inr (.inr (.inr (.inr (.inr ⟨by omega, ts' ++ [t], rfl, fun y hy => ?_⟩))))); rcases List.mem_append.1 hy with h' | h'
      . exact hl y h'
      . rw [List.mem_singleton.1 h']; exact ⟨hT.kind, by rw [hT.at_]; exact h, hT.name⟩
def PT9 (n : Nat) (toks : List Tok) : Prop := ∃ ts, toks = q0 :: q1 :: q2 :: (ts ++ [⟨0, .empty, 0, 9 + n⟩]) /\ (∀ t ∈ ts, Late t) /\ ts.length <= n + 9
theorem pt9 {n : Nat} (hn : n <= 90000) {toks : List Tok} (h : PT9 n toks) : Good toks /\ toks.length <= 900000 /\ ∃ t, toks[0]? = some t /\ isW t [wType] = true := by
  obtain ⟨ts, rfl, _, hl⟩ := h; refine ⟨good_end (ts := q0 :: q1 :: q2 :: ts) rfl, by simp; omega, q0, rfl, by decide⟩
theorem size_typeX (x : ByteArray) : (typeX ++ x).size = 9 + x.size := by rw [ByteArray.size_append]; rfl
theorem lex9 {w : World} (g : Gu w) {x : ByteArray} (hx : x.size <= 90000) (w1 : World) (K : KV) (u : Upd No w w1)
    (hk : ∀ w' v toks, PT9 x.size toks -> RowAt w' 114 4 v (tokCells toks) -> (∀ b, InRow v b -> w1.heap.size <= b) -> Upd No w1 w' -> K (.tuple #[v, .nilIface]) w')
    (hf : ∀ w' v, True -> Flt v -> Upd No w1 w' -> K (.tuple #[.slice none 0 0, v]) w') : callC Tryz.prog 40 #[.string (typeX ++ x)] w1 K := by
  have hsz := size_typeX x; refine callC_ofXR (Lex_t (g.keep u) (by omega) (jx x) (fun w' v toks hJ hl hr ho hu => hk w' v _ ?_ hr ho hu) fun w' v hv hu => hf w' v trivial hv hu); rcases hJ with ⟨h, _⟩ | ⟨h, _⟩ | ⟨h, _⟩ | ⟨h, _⟩ | ⟨h, _⟩ | ⟨h, _⟩ | ⟨_, ts', rfl, hl'⟩
  . omega
  . omega
  . omega
  . omega
  . omega
  . omega
  . exact ⟨ts', by rw [hsz]; rfl, hl', by rw [hsz] at hl; simp only [List.length_cons] at hl; omega⟩
theorem declF_typ {toks : List Tok} {t0 t1 t2 : Tok} (h0 : toks[0]? = some t0) (h1 : toks[1]? = some t1) (h2 : toks[2]? = some t2) (k0 : isW t0 [wImport] = false) (k0' : isW t0 [wType] = true) (k1 : t1.kind = 1) (k2 : isW t2 [wEq] = true) (fu : Nat) :
    declF toks fu 0 0 = match typF toks fu 3 0 with
      | some (x, a1) => some (⟨2, t0.at_, t1.text, .empty, x⟩, a1)
      | none => none := by
  unfold declF; rw [h0]; dsimp only; rw [if_neg (by rw [k0]; simp), if_pos k0', show toks[0 + 1]? = some t1 from h1, show toks[0 + 2]? = some t2 from h2]; dsimp only; rw [if_pos k1, if_pos k2]; rfl
theorem one9 {n : Nat} {toks : List Tok} {c : Dc} (h : PT9 n toks) (h1 : One toks c) : Wok 9 c.t /\ lsz c.t <= n + 20 := by
  obtain ⟨ts, rfl, hl, hn⟩ := h; obtain ⟨a', t, e, ht, _⟩ := h1; rw [declF_typ (t0 := q0) (t1 := q1) (t2 := q2) rfl rfl rfl (by decide) (by decide) rfl (by decide)] at e; split at e
  . rename_i x a1 hx; cases e
    have T : Toks (q0 :: q1 :: q2 :: (ts ++ [⟨0, .empty, 0, 9 + n⟩])) 9 3 := fun i t ht hi => by
      obtain ⟨j, rfl⟩ : ∃ j, i = j + 3 := ⟨i - 3, by omega⟩; have ht : (ts ++ [(⟨0, .empty, 0, 9 + n⟩ : Tok)])[j]? = some t := ht; rcases List.mem_append.1 (List.mem_of_getElem? ht) with h | h
      . exact ⟨by have := (hl t h).2.1; omega, (hl t h).2.2⟩
      . rw [List.mem_singleton.1 h]; exact ⟨by show (9 : Int) <= ((9 + n : Nat) : Int); omega, fun h => absurd h (show ¬ (0 : Int) = 1 by decide)⟩
    obtain ⟨k1, k2⟩ := typF_wok T _ _ _ _ _ (Nat.le_refl 3) hx; refine ⟨k1, ?_⟩; have := (List.getElem?_eq_some_iff.1 ht).1; simp at this; show lsz x <= _; omega
  . cases e
theorem again_ok {S : Sc} (hS : nameF S bL bV = some (.mk 6 lVn [] [] .nil)) {u : T} (hc : check u = 0) (hn : Nk [lVn] u) :
    ∃ toks, lexA (typeX ++ bs (write u)) = some toks /\ (Good toks /\ toks.length <= 900000 /\ ∃ t, toks[0]? = some t /\ isW t [wType] = true) /\
      ((∃ c, One toks c /\ resF S c.t = (u, []) /\ Wok 0 c.t /\ xsz c.t <= 1000000) \/ ((¬ ∃ c, One toks c) /\ 20 < size u)) := by
  obtain ⟨hm, h60⟩ := check_iff.1 hc; have hw := write_len u hm
  have hl : Lxs (txt (typeX ++ bs (write u))) ([(2, wType)] ++ ([(1, bX')] ++ ([(5, wEq)] ++ ptk u))) [] := by
    rw [txt_typeX, txt_bs]; have h := lx_type u hm hn [] (fun c e => by cases e); rw [List.append_nil] at h; exact (Lxs.tok (tokF_type _) (fun c e => by cases e; decide) (.sp (.nil _))).trans ((Lxs.tok (tokF_X _) (fun c e => by cases e; decide) (.sp (.nil _))).trans ((Lxs.tok (tokF_eq _) (fun c e => by cases e; decide) (.sp (.nil _))).trans h))
  have hsz : (typeX ++ bs (write u)).size = 9 + (write u).length := by rw [size_typeX, bs_size]
  obtain ⟨tk0, e, hmap, htl⟩ := hl.lex rfl (txt (typeX ++ bs (write u))) 0 ((typeX ++ bs (write u)).size + 1) rfl (by rw [<- size_txt]; omega)
  have hlex : lexA (typeX ++ bs (write u)) = some (tk0 ++ [⟨0, .empty, 0, (typeX ++ bs (write u)).size⟩]) := by
    unfold lexA; rw [e]; rfl
  have hAt : AtT (tk0 ++ [⟨0, .empty, 0, (typeX ++ bs (write u)).size⟩]) 0 ((2, wType) :: (1, bX') :: (5, wEq) :: ptk u) := fun i k x hi => by
    have hi : (tk0.map fun t => (t.kind, t.text))[i]? = some (k, x) := by rw [hmap]; exact hi
    rw [List.getElem?_map] at hi
    cases ht : tk0[i]? with
    | none => rw [ht] at hi; cases hi
    | some t =>
      rw [ht] at hi; cases hi; refine ⟨t, ?_, rfl, rfl⟩; rw [Nat.zero_add, List.getElem?_append_left (List.getElem?_eq_some_iff.1 ht).1, ht]
  have hlen : tk0.length = 3 + (ptk u).length := by
    have := congrArg List.length hmap; simp at this; omega
  have hend : (tk0 ++ [⟨0, .empty, 0, (typeX ++ bs (write u)).size⟩])[3 + (ptk u).length]? = some ⟨0, .empty, 0, (typeX ++ bs (write u)).size⟩ := by
    rw [<- hlen]; simp
  have hG : Good (tk0 ++ [⟨0, .empty, 0, (typeX ++ bs (write u)).size⟩]) := good_end rfl; have hLen : (tk0 ++ [(⟨0, .empty, 0, (typeX ++ bs (write u)).size⟩ : Tok)]).length = 4 + (ptk u).length := by simp; omega
  have hNm : ∀ t ∈ tk0 ++ [(⟨0, .empty, 0, (typeX ++ bs (write u)).size⟩ : Tok)], t.kind = 1 -> NameB t.text := fun t ht h1 => by
    rcases List.mem_append.1 ht with h | h
    . have hm2 : (t.kind, t.text) ∈ tk0.map fun t => (t.kind, t.text) := List.mem_map_of_mem h; rw [hmap] at hm2; exact hl.name _ hm2 h1
    . rw [List.mem_singleton.1 h] at h1; exact absurd h1 (show ¬ (0 : Int) = 1 by decide)
  rw [<- size_txt] at htl; generalize hts : tk0 ++ [(⟨0, .empty, 0, (typeX ++ bs (write u)).size⟩ : Tok)] = toks at *; obtain ⟨t0, h0, k0, x0⟩ := hAt.head; obtain ⟨t1, h1, k1, x1⟩ := hAt.tail.head; obtain ⟨t2, h2, k2, x2⟩ := hAt.tail.tail.head; have hT := hAt.tail.tail.tail; have hD := declF_typ h0 h1 h2 (by rw [isW_of k0 x0]; decide) (by rw [isW_of k0 x0]; decide) k1 (by rw [isW_of k2 x2]; decide) toks.length; refine ⟨toks, hlex, ⟨hG, by omega, t0, h0, by rw [isW_of k0 x0]; decide⟩, ?_⟩; rcases (ty_ok hS u hc hn).2 toks toks.length 3 0 hT ⟨_, hend, rfl⟩ (by omega) with ⟨x, e1, e2⟩ | ⟨e1, e2⟩
  . rw [e1] at hD; obtain ⟨j1, j2⟩ := typF_wok (ts := toks) (lo := 0) (i0 := 3) (fun i t ht hi => ⟨by omega, hNm t (List.mem_of_getElem? ht)⟩) _ _ _ _ _ (Nat.le_refl 3) e1; have := j1.xsz; exact .inl ⟨_, ⟨_, _, hD, hend, rfl⟩, e2, j1, (show xsz x <= _ by omega)⟩
  . rw [e1] at hD; refine .inr ⟨?_, by omega⟩; rintro ⟨c, a', t, e, _⟩; rw [hD] at e; cases e
def hasN (k : Int) (nm : ByteArray) : Bool := k == 6 && (decide ((nm.size : Int) > 1) && (ByteArray.toList (ByteArray.extract nm 0 (Int.toNat 2)) == ByteArray.toList (ByteArray.mk #[109, 46])))
mutual
def hasF : T -> Bool
  | .nil => false
  | .mk k nm _ ta r => hasN k nm || (hasFs ta || hasF r)
def hasFs : List T -> Bool
  | [] => false
  | t :: l => hasF t || hasFs l
end
theorem hasFs_take {l : List T} {i : Nat} (hi : i < l.length) : hasFs (l.take (i + 1)) = (hasFs (l.take i) || hasF l[i]) := by
  have key : ∀ (l m : List T), hasFs (l ++ m) = (hasFs l || hasFs m) := by
    intro l m
    induction l with
    | nil => simp [hasFs]
    | cons a l ih => simp [hasFs, ih, Bool.or_assoc]
  rw [List.take_succ_eq_append_getElem hi, key]; simp [hasFs]
theorem hasFs_mem {l : List T} {t : T} (h : t ∈ l) (ht : hasF t = true) : hasFs l = true := by
  induction l with
  | nil => cases h
  | cons a l ih =>
    rw [hasFs]; rcases List.mem_cons.1 h with rfl | h
    . simp [ht]
    . simp [ih h]
theorem lhas_c {F : Nat -> Prop} : ∀ (t : T) (w : World) (x : Option Addr) (K : KV), TyAt ids F w (.pointer x) t -> (∀ w', Upd No w w' -> K (.bool (hasF t)) w') -> callC Tryz.prog 14 #[.pointer x] w K := by
  refine Go.Ty.ind ?_ ?_
  . intro w x K hX hk; have e : (Value.pointer x) = .pointer none := hX; injection e with e; subst e; have h := hk w (Upd.refl _ _); rw [hasF] at h; exact lhas_text _ _ _ (brC_tt rfl h)
  . intro k nm ns ta r ha hr w x K hX hk; obtain ⟨b, nv, p, n, c, q, rfl, _, hB, _, hR, hXr⟩ := ty_open hX; obtain ⟨hn, hnc, hcm, hget⟩ := hR.get; simp only [maxLen] at hcm; rw [hasF] at hk; refine lhas_text _ _ _ (brC_ff rfl ⟨fun w' => w' = w /\ hasN k nm = false, ?_, fun bb w' => w' = w /\ bb = hasN k nm, ?_, ?_⟩)
    . rintro w1 ⟨rfl, hh⟩ _; rw [hh, Bool.false_or] at hk; refine ⟨fun m w' => ∃ i : Nat, m = i /\ i <= ta.length /\ hasFs (ta.take i) = false /\ Upd No w1 w', fun m _ => (ta.length - m).toNat, ⟨0, rfl, Nat.zero_le _, by simp [hasFs], Upd.refl _ _⟩, ?_⟩; rintro m w6 ⟨i, rfl, hi, hno, u6⟩ _; refine ptrC_some ⟨p, n, c, by rw [add_mk]; exact (hB.upd u6 id).cell rfl, brC_intro (fun hlt => ?_) fun hge => ?_⟩
      . have hlt : i < ta.length := by have := of_decide_eq_true hlt; omega
        refine ptrC_some ⟨p, n, c, by rw [add_mk]; exact (hB.upd u6 id).cell rfl, by omega, by omega, ?_⟩; obtain ⟨g, o, v, rfl, hc, hx⟩ := hget i ta[i] (List.getElem?_eq_getElem hlt); obtain ⟨q2, rfl, _⟩ := ptr_shape hx; refine ptrC_some ⟨q2, by rw [add_mk, Int.toNat_natCast, Nat.mul_one]; exact cell_keep hc u6, ha ta[i] (List.getElem_mem hlt) w6 q2 _ (hx.keep u6) fun w19 u19 => ⟨_, rfl, brC_intro (fun ht => ?_) fun ht => ⟨⟨i + 1, ?_, hlt, ?_, up u6 u19⟩, ?_⟩⟩⟩
        . rw [hasFs_mem (List.getElem_mem hlt) ht, Bool.true_or] at hk; exact hk w19 (up u6 u19)
        . rw [wrap_succ (by omega)]
        . rw [hasFs_take hlt, hno, ht]; rfl
        . dsimp only; rw [wrap_succ (by omega)]; omega
      . have hie : i = ta.length := by have := of_decide_eq_false hge; omega
        subst hie; rw [List.take_length] at hno; rw [hno, Bool.false_or] at hk; exact ptrC_some ⟨q, by rw [add_mk]; exact (hB.upd u6 id).cell rfl, hr w6 q _ (hXr.keep u6) fun w24 u24 => ⟨_, rfl, hk w24 (up u6 u24)⟩⟩
    . rintro bb w' ⟨rfl, rfl⟩ _; refine brC_intro (fun h => ?_) fun h => ⟨rfl, h⟩; rw [h, Bool.true_or] at hk; exact hk w' (Upd.refl _ _)
    . refine ptrC_some ⟨k, hB.cell rfl, brC_intro (fun h6 => ?_) fun h6 => ⟨rfl, by unfold hasN; rw [h6]; rfl⟩⟩; refine ptrC_some ⟨nm, by rw [add_mk]; exact hB.cell rfl, brC_intro (fun h1 => ?_) fun h1 => ⟨rfl, by unfold hasN; rw [h6, h1]; rfl⟩⟩; have h1' := of_decide_eq_true h1; refine ptrC_some ⟨nm, by rw [add_mk]; exact hB.cell rfl, by omega, by omega, by omega, rfl, ?_⟩; unfold hasN; rw [h6, h1, Bool.true_and, Bool.true_and]
theorem nk_has {N M : List ByteArray} (h : ∀ nm ∈ N, hasN 6 nm = true \/ nm ∈ M) : ∀ t : T, Nk N t -> hasF t = false -> Nk M t := by
  refine Go.Ty.ind (fun h => by cases h) fun k nm ns ta r ha hr hn hf => ?_
  cases hn with
  | mk _ _ _ _ _ n1 n2 n3 n4 =>
  rw [hasF] at hf; simp only [Bool.or_eq_false_iff] at hf; refine .mk _ _ _ _ _ (fun e => ?_) n2 (fun a hm => ha a hm (n3 a hm) ?_) fun hne => hr (n4 hne) hf.2.2
  . rcases h nm (n1 e) with h | h
    . rw [e] at hf; rw [h] at hf; cases hf.1
    . exact h
  . cases hh : hasF a with
    | false => rfl
    | true => have := hasFs_mem hm hh; rw [hf.2.1] at this; cases this
def sNames (S : Sc) (N : List ByteArray) : Bool := (S.owns.all fun x => memB (S.path ++ dotB ++ x.1) N) && (S.als.all fun a => !a.2.dark && a.2.types.all fun e => memB (a.2.path ++ dotB ++ e.1) N)
theorem snames_of {S : Sc} {N : List ByteArray} (h : sNames S N = true) : SNames S N := by
  unfold sNames at h; rw [Bool.and_eq_true, List.all_eq_true, List.all_eq_true] at h; intro x y t ht; unfold nameF at ht; split at ht
  . split at ht
    . rename_i hy; cases ht; refine ⟨_, ?_, rfl⟩; unfold ownF at hy
      cases e : S.owns.find? fun x => x.1 = y with
      | none => rw [e] at hy; cases hy
      | some z =>
        have h1 := List.find?_some e; have h2 := h.1 z (List.mem_of_find?_eq_some e); rw [<- of_decide_eq_true h1]; exact memB_iff.1 h2
    . cases ht
  . split at ht
    . cases ht
    . rename_i a ha; unfold alF at ha
      cases e : S.als.find? fun z => z.1 = x with
      | none => rw [e] at ha; cases ha
      | some z =>
        rw [e] at ha; cases ha; have h2 := h.2 z (List.mem_of_find?_eq_some e); rw [Bool.and_eq_true, List.all_eq_true] at h2; split at ht
        . rename_i hd; rw [hd] at h2; cases h2.1
        . split at ht
          . rename_i hy; cases ht; obtain ⟨e', he', hl⟩ := expF_mem hy; refine ⟨_, ?_, rfl⟩; have h3 := h2.2 e' he'
            have : e'.1 = y := by
              have h4 : (e'.1.toList == y.toList) = true := by rw [hl]; exact beq_self_eq_true _
              rw [beq_bytes] at h4; exact of_decide_eq_true h4
            rw [<- this]; exact memB_iff.1 h3
          . cases ht
def bU' : ByteArray := ByteArray.mk #[109, 46, 85]
def bT' : ByteArray := ByteArray.mk #[109, 46, 84]
def N3 : List ByteArray := [bT', bU', lVn]
theorem cut_size (x : ByteArray) (n : Nat) : (x.extract 0 n).size <= n := by rw [ByteArray.size_extract]; omega
theorem wok_ptr {lo : Int} {t : Wt} (h : Wok lo t) {F : Nat -> Prop} {w : World} {q : Option Addr} (hX : XAt idx F w (.pointer q) t) : q.isNone = false := by
  cases h with
  | mk k a al nm ns xs r _ _ _ _ _ =>
    obtain ⟨b, _, _, _, _, _, _, _, rfl, _⟩ := x_open hX; rfl
def src4 : ByteArray := ByteArray.mk #[105, 109, 112, 111, 114, 116, 32, 34, 108, 34, 32, 97, 115, 32, 108, 32, 116, 121, 112, 101, 32, 84, 32, 61, 32, 105, 110, 116]
theorem src4_ok : (parseA src4).isSome = true /\ dsOkB (dsOf src4) = true /\ clsB (dsOf src4) = true := by decide +kernel
def S4 : Sc := (scOf src4).1
def N4 : List ByteArray := [bT', lVn]
theorem S4_names : sNames S4 N4 = true /\ nameF S4 bL bV = some (.mk 6 lVn [] [] .nil) := by decide +kernel
theorem N4_ok : NamesOk N4 := by
  intro nm h; have : N4.all (fun nm => namedL (txt nm)) = true := by decide +kernel
  exact List.all_eq_true.1 this nm h
theorem N4_has : ∀ nm ∈ N4, hasN 6 nm = true \/ nm ∈ [lVn] := by
  intro nm h; rcases List.mem_cons.1 h with rfl | h
  . exact .inl (by decide +kernel)
  . exact .inr h
theorem One.eq {toks : List Tok} {c c' : Dc} (h : One toks c) (h' : One toks c') : c = c' := by
  obtain ⟨a, t, e, _⟩ := h; obtain ⟨a', t', e', _⟩ := h'; rw [e] at e'; cases e'; rfl
theorem ntext_c {w : World} {x : ByteArray} {K : KV} (g : Gu w) (hk : ∀ w', Upd No w w' -> K (.bool true) w') : callC Tryz.prog 4 #[.string x] w K := by
  refine ntext_text _ _ _ (works_c g.g fun w1 u1 => ⟨_, rfl, brC_ff rfl ?_⟩); refine scope_c (cl := cl1) (s := src4) (g.g.keep u1) (by decide) (parse_of src4_ok.1) (dsOk_of src4_ok.2.1) (cls_of src4_ok.2.2) fun q p n c w4 hS hrow0 okS u4 => ⟨_, _, _, _, _, rfl, ?_⟩; have hS : ScAt w4 q S4 := hS; have okS : ScOk S4 := okS; refine ⟨by omega, by split <;> omega, by split <;> omega, ?_⟩
  have hcut : (x.extract 0 (Int.toNat (if 2000 < (x.size : Int) then 2000 else (x.size : Int)))).size <= 2000 := by
    refine Nat.le_trans (cut_size _ _) ?_; split <;> omega
  generalize x.extract 0 (Int.toNat (if 2000 < (x.size : Int) then 2000 else (x.size : Int))) = y at hcut; have U4 := up u1 u4; refine written_t (x := y) (by omega) (PT := PT9 y.size) (F := True) (fun toks h => pt9 (by omega) h) (fun w1 K u hk hf => lex9 (g.keep U4) (by omega) w1 K u hk hf) (fun w11 cd toks q12 hPT h1 hX u11 => ?_) fun w11 _ u11 => ?_
  rotate_left
  . refine ⟨none, rfl, fun _ => False, fun _ h => h.elim, fun b w' => b = true /\ w' = w11, ?_, brC_ff rfl ⟨rfl, rfl⟩⟩; rintro b w' ⟨rfl, rfl⟩ _; exact brC_tt rfl (hk _ (up U4 u11))
  obtain ⟨hw, hsz⟩ := one9 hPT h1; have hxs := hw.xsz; have hp := wok_ptr hw hX; refine ⟨q12, rfl, fun w' => w' = w11, ?_, fun b w' => b = false /\ w' = w11, ?_, brC_ff rfl ⟨hp, rfl⟩⟩
  rotate_left
  . rintro b w' ⟨rfl, rfl⟩ _; exact brC_ff rfl rfl
  rintro w' rfl _; refine Resolve_c (hS.keep u11) okS hX (by omega) fun q18 v w17 ht hrow own u17 => ?_; obtain ⟨p19, n20, c21, rfl, _, _, _⟩ := hrow.shape; refine ⟨_, _, _, _, rfl, lhas_c _ _ _ _ ht fun w23 u23 => ⟨_, rfl, brC_intro (fun _ => hk _ (up (up (up U4 u11) u17) u23)) fun hno => ?_⟩⟩; have hc := res_check (snames_of S4_names.1) N4_ok cd.t; have hn := nk_has N4_has _ (res_nk (snames_of S4_names.1) hw) hno; generalize (resF S4 cd.t).1 = u at ht hc hn hno; obtain ⟨hm, h60⟩ := check_iff.1 hc; have htext : text u = write u := by unfold text; rw [if_pos hc]
  have hwl := write_len u hm; obtain ⟨toks2, hlex, hg2, hres⟩ := again_ok S4_names.2 hc hn; refine c_text (ht.keep u23) fun w26 u26 => ⟨_, rfl, ?_⟩; rw [htext]; have U26 := up (up (up (up U4 u11) u17) u23) u26; have hS26 := hS.keep (up (up (up u11 u17) u23) u26); have ht26 := ht.keep (up u23 u26); refine written_t (x := bs (write u)) (by rw [bs_size]; omega) (PT := fun toks => toks = toks2) (F := False) (fun toks h => h ▸ hg2) (fun w1 K u1 hk hf => callC_ofX (Lex_spec ((g.keep U26).g.keep u1) (by rw [size_typeX, bs_size]; omega) hlex fun w' v hr ho hu => hk w' v _ rfl hr ho hu)) (fun w29 cd2 toks q30 hPT h2 hX2 u29 => ?_) fun w29 hh u29 => ?_
  . subst hPT; rcases hres with ⟨c3, h3, hr3, hw3, hx3⟩ | ⟨hno, _⟩
    . have := One.eq h2 h3; subst this; refine ⟨q30, rfl, Resolve_c (hS26.keep u29) okS hX2 hx3 fun q33 v w32 ht2 hrow2 own2 u32 => ?_⟩; obtain ⟨p34, n35, c36, rfl, hn35, _, _⟩ := hrow2.shape; rw [hr3] at ht2 hn35; have hn35 : n35 = 0 := by simp [dgCells] at hn35; omega
      subst hn35; have hq := wok_ptr hw3 hX2; have U32 := up (up U26 u29) u32; refine ⟨_, _, _, _, rfl, brC_ff hq (brC_tt rfl (c_same (ht26.keep (up u29 u32)) ht2 fun w44 u44 => ⟨_, rfl, ?_⟩))⟩; rw [same_refl h60]; exact hk _ (up U32 u44)
    . exact absurd ⟨_, h2⟩ hno
  . rcases hh with h | ⟨toks, rfl, hno⟩
    . exact h.elim
    rcases hres with ⟨c3, h3, _⟩ | ⟨_, h20⟩
    . exact absurd ⟨_, h3⟩ hno
    have hX0 : XAt idx (From 0) w29 (.pointer none) .nil := rfl; refine ⟨none, rfl, Resolve_c (hS26.keep u29) okS hX0 (by simp [xsz]) fun q33 v w32 ht2 hrow2 own2 u32 => ?_⟩; obtain ⟨p34, n35, c36, rfl, _, _, _⟩ := hrow2.shape; refine ⟨_, _, _, _, rfl, brC_tt rfl (c_size (ht26.keep (up u29 u32)) fun w38 u38 => ⟨_, rfl, brC_tt (decide_eq_true (by omega)) (hk _ (up (up (up U26 u29) u32) u38))⟩)⟩
end Go.Proofs.YtdbkclnlfibgdaaGreatDoor
namespace Go.Proofs.YtdbkclnlfibgdaaGreatDoor
open Go.ChangeShapes Go.WideShapes Go.ChangeAt Go.RowKit Go.SX
theorem first_eq : (Rows.laid_unicode_utf8_first : DataW Unit) = Lib.firstData := by kernel_rfl
theorem accept_eq : (Rows.laid_unicode_utf8_acceptRanges : DataW Unit) = Lib.acceptData := by kernel_rfl
theorem gu_of {W : World} (h : laidMetH Tryz.prog Rows.namesDarkRow.laid W) : Gu W := by
  refine ⟨gl_of h, ?_⟩; have h1 := h.filter (fun x => x.1 == "unicode/utf8.first" || x.1 == "unicode/utf8.acceptRanges")
  have h2 : laidMetH Tryz.prog [("unicode/utf8.acceptRanges", Rows.laid_unicode_utf8_acceptRanges), ("unicode/utf8.first", Rows.laid_unicode_utf8_first)] W := by
    have e : (Rows.namesDarkRow.laid.filter fun x => x.1 == "unicode/utf8.first" || x.1 == "unicode/utf8.acceptRanges") = [("unicode/utf8.acceptRanges", Rows.laid_unicode_utf8_acceptRanges), ("unicode/utf8.first", Rows.laid_unicode_utf8_first)] := by kernel_rfl
    rw [<- e]; exact h1
  rw [first_eq, accept_eq, MakeChecks.laidMetH_plain _ _ _ (by kernel_rfl)] at h2; exact utf8Tabs_of_readsT { Tryz.drL with } ⟨by kernel_rfl, by kernel_rfl, by kernel_rfl, by kernel_rfl, by kernel_rfl, by kernel_rfl, by kernel_rfl⟩ (Lib.laidMet.reads h2 (.tail _ (.head _))) (Lib.laidMet.reads h2 (.head _))
end Go.Proofs.YtdbkclnlfibgdaaGreatDoor
