/- Joined by program of: Yd1, Yd2, Yd3, Yd4, Yd5, Yd6, Yd7, Yd8, Yd9, Ye1, Ye2. -/
import Derived.Test.YtdbkclnlfibgdaaGreatDoorWb
import Derived.Maps.AppendAt
import Derived.Test.YtdbkclnlfibgdaaGreatDoorVq
set_option maxRecDepth 100000
set_option maxHeartbeats 4000000
namespace Go.Proofs.YtdbkclnlfibgdaaGreatDoor
open Go.SX Go.Ty
theorem tell_take {α : Type} {R : Value -> α -> Prop} {xs : List Value} {l : List α} (h : Tell R xs l) (k : Nat) : Tell R (xs.take k) (l.take k) :=
  ⟨by rw [List.length_take, List.length_take, h.len], fun i v a hv ha => by
    rw [List.getElem?_take] at hv ha; split at hv
    . rename_i hk; rw [if_pos hk] at ha; exact h.at_ i v a hv ha
    . cases hv⟩
theorem tell_set {α : Type} {R : Value -> α -> Prop} {xs : List Value} {l : List α} {k : Nat} (h : Tell R (xs.take k) l) (hk : k < xs.length) {v : Value} {a : α} (hr : R v a) : Tell R ((xs.set k v).take (k + 1)) (l ++ [a]) := by
  have el := h.len; rw [List.length_take] at el; have e0 : l.length = k := by omega
  refine ⟨by rw [List.length_take, List.length_set, List.length_append, List.length_singleton]; omega, fun i v' a' hv ha => ?_⟩; rw [List.getElem?_take] at hv; split at hv
  . rename_i hi; rw [List.getElem?_append] at ha
    by_cases e : i = k
    . subst e; rw [List.getElem?_set_self (by omega)] at hv; rw [if_neg (by omega), e0, Nat.sub_self] at ha; cases hv; cases ha; exact hr
    . rw [List.getElem?_set_ne (by omega)] at hv; rw [if_pos (by omega)] at ha; refine h.at_ i v' a' ?_ ha; rw [List.getElem?_take, if_pos (by omega)]; exact hv
  . cases hv
structure CompI {α : Type} (R : Value -> α -> Prop) (e : α -> α -> Bool) (t : TypeId) (w0 : World) (p : Option Addr) (n c : Nat) (xs : List Value) (l : List α) (k0 k' k2 : Nat) (w : World) : Prop where
  b1 : 1 <= k2
  b2 : k0 + k2 <= n
  b3 : k' < k0 + k2
  u : Upd (InRow (.slice p n c)) w0 w
  ex : ∃ xs', RowAt w t 1 (.slice p n c) xs' /\ (∀ i, k' <= i -> xs'[i]? = xs[i]?) /\ Tell R (xs'.take k') (dd e (l.take (k0 + k2)))
theorem comp_rule {α σ : Type} {R : Value -> α -> Prop} {mk : σ -> Value} (hmk : ∀ v a, R v a -> ∃ s, v = mk s) {eq : α -> α -> Bool} {w : World} {t e : TypeId} {bytes : Nat} {z : Value} (E : ElemZ t e bytes z) {p : Option Addr} {n c : Nat} {xs : List Value} {l : List α} {fv : Value}
    (h : RowAt w e 1 (.slice p n c) xs) (ht : Tell R xs l) (hf : FnR R (InRow (.slice p n c)) w fv Value.bool eq l) {K : KV}
    (hk : ∀ p' n' c' w' xs', RowAt w' e 1 (.slice p' n' c') xs' -> Tell R xs' (dd eq l) -> Upd (InRow (.slice p n c)) w w' -> (∀ b, InRow (.slice p' n' c') b -> InRow (.slice p n c) b) -> K (.slice p' n' c') w') : CompP mk t p n c fv w K := by
  obtain ⟨en, hnc, hcm⟩ := row_cap h; have el := ht.len; simp only [maxLen] at hcm; have tell : ∀ k, k < l.length -> ∀ v, xs[k]? = some v -> ∃ a, l[k]? = some a /\ R v a := fun k hk v hv => ⟨_, List.getElem?_eq_getElem hk, ht.at_ k v _ hv (List.getElem?_eq_getElem hk)⟩
  have full : (∀ i, (h : i + 1 < l.length) -> eq l[i + 1] l[i] = false) -> dd eq l = l := fun hno => by
    have := dd_none eq l l.length (Nat.le_refl _) fun i hi _ => hno i hi; rw [List.take_length] at this; exact this
  unfold CompP; simp only [Int.toNat_natCast]; refine brC_intro (fun hlt => ?_) fun hge => ?_
  . have hlt := of_decide_eq_true hlt; exact hk p n c w xs h (by rw [full fun i hi => by omega]; exact ht) (Upd.refl _ _) fun _ x => x
  have hge := of_decide_eq_false hge; refine ⟨fun m w' => ∃ k : Nat, m = k /\ 1 <= k /\ k <= l.length /\ Upd No w w' /\ ∀ i, (hi : i + 1 < l.length) -> i + 1 < k -> eq l[i + 1] l[i] = false, fun m _ => (l.length - m).toNat, ⟨1, rfl, Nat.le_refl _, by omega, Upd.refl _ _, fun i hi hj => by omega⟩, ?_⟩; rintro m w3 ⟨k, rfl, hk1, hkl, u3, hs⟩ _; refine brC_intro (fun hlt => ?_) fun hge' => ?_
  rotate_left
  . have hge' := of_decide_eq_false hge'; exact hk p n c w3 xs (h.upd u3 fun _ _ x => x) (by rw [full fun i hi => hs i hi (by omega)]; exact ht) (u3.mono fun _ _ x => x.elim) fun _ x => x
  have hlt := of_decide_eq_true hlt; obtain ⟨i, rfl⟩ : ∃ i, k = i + 1 := ⟨k - 1, by omega⟩; simp only [Int.toNat_natCast]; rw [wrap_pred (by omega), wrap_succ (by omega)]; refine drawC_mk fun w5 u5 _ => ⟨by omega, by omega, ?_⟩; have u5' : Upd No w w5 := up u3 u5; have h5 := h.upd u5' fun _ _ x => x; refine rowC hmk h5 (i := i + 1) (j := i + 1) (by omega) (tell _ (by omega)) (fun x s a ha hr _ => ⟨by omega, by omega, ?_⟩) rfl; refine rowC hmk h5 (i := i) (j := i) (by omega) (tell _ (by omega)) (fun x' s' a' ha' hr' _ => ?_) (by omega); rw [List.getElem?_eq_getElem (by omega)] at ha ha'; cases ha; cases ha'; refine semVC_mono (nextVC_mono fun v w11 ⟨ev, u11⟩ => ?_) _ _ (hf _ _ _ _ w5 hr hr' (List.getElem_mem _) (List.getElem_mem _) (u5'.mono fun _ _ x => x.elim)); refine ⟨_, ev, brC_intro (fun hyes => ?_) fun hno => ?_⟩
  rotate_left
  . refine ⟨⟨i + 1 + 1, rfl, by omega, by omega, up u5' u11, fun i' hi hj' => ?_⟩, by omega⟩
    by_cases e : i' = i
    . subst e; exact hno
    . exact hs i' hi (by omega)
  refine ⟨by omega, by omega, by omega, ?_⟩; refine ⟨fun a b w' => ∃ k' k2 : Nat, a = k' /\ b = k2 /\ CompI R eq e w p n c xs l (i + 1) k' k2 w', fun _ b _ => (l.length - b).toNat, ⟨i + 1, 1, rfl, rfl, Nat.le_refl _, by omega, by omega, (up u5' u11).mono fun _ _ x => x.elim, xs, h.upd (up u5' u11) (fun _ _ x => x), fun _ _ => rfl, ?_⟩, ?_⟩
  . rw [dd_succ eq l (by omega), hyes, if_pos rfl, List.append_nil, dd_none eq l (i + 1) (by omega) fun i' hi hj => hs i' hi (by omega)]; exact tell_take ht _
  rintro _ _ w17 ⟨k', k2, rfl, rfl, I⟩ _; simp only [Int.toNat_natCast]; have hb1 := I.b1; have hb2 := I.b2; have hb3 := I.b3; refine brC_intro (fun hlt2 => ?_) fun hge2 => ?_
  . have hlt2 := of_decide_eq_true hlt2; obtain ⟨j, rfl⟩ : ∃ j, k2 = j + 1 := ⟨k2 - 1, by omega⟩; refine ⟨fun a w' => ∃ k' : Nat, a = k' /\ CompI R eq e w p n c xs l (i + 1) k' (j + 1 + 1) w', ?_, ?_⟩
    . rintro _ w21 ⟨k'', rfl, I'⟩ _; rw [wrap_succ (by omega)]; have := I'.b2; exact ⟨⟨k'', j + 1 + 1, rfl, rfl, I'⟩, by omega⟩
    obtain ⟨xs', hr', hsame, htl⟩ := I.ex; have hlen' : xs'.length = n := by have := row_cap hr'; omega
    rw [wrap_pred (by omega)]; refine drawC_mk fun w23 u23 _ => ⟨by omega, by omega, ?_⟩; have r23 := hr'.upd u23 fun _ _ x => x; have c23 := r23.cut (lo := i + 1) (hi := n) (by omega) (Nat.le_refl _)
    have hcl : (List.take ((n - (i + 1)) * 1) (List.drop ((i + 1) * 1) xs')).length = n - (i + 1) := by
      rw [List.length_take, List.length_drop]; omega
    have tellc : ∀ q, k' <= i + 1 + q -> i + 1 + q < l.length -> ∀ v, (List.take ((n - (i + 1)) * 1) (List.drop ((i + 1) * 1) xs'))[q]? = some v -> ∃ a, l[i + 1 + q]? = some a /\ R v a := fun q hq hql v hv => by
      rw [List.getElem?_take, if_pos (by omega), List.getElem?_drop, Nat.mul_one, hsame _ hq] at hv; exact tell _ hql v hv
    refine rowC hmk c23 (i := i + 1 + (j + 1)) (j := j + 1) (by omega) (tellc _ (by omega) (by omega)) (fun x s a ha hr _ => ⟨by omega, by omega, ?_⟩) rfl; refine rowC hmk c23 (i := i + 1 + j) (j := j) (by omega) (tellc _ (by omega) (by omega)) (fun x' s' a' ha' hr' _ => ?_) (by omega); rw [List.getElem?_eq_getElem (by omega)] at ha ha'; cases ha; cases ha'; have U23 : Upd (InRow (.slice p n c)) w w23 := I.u.trans u23 fun _ _ => fun x => x.elim; refine semVC_mono (nextVC_mono fun v w29 ⟨ev, u29⟩ => ?_) _ _ (hf _ _ _ _ w23 hr hr' (List.getElem_mem _) (List.getElem_mem _) U23); have hdd := dd_succ eq l (i := i + 1 + j) (by omega); have U29 : Upd (InRow (.slice p n c)) w w29 := U23.trans u29 fun _ _ => fun x => x.elim; refine ⟨_, ev, brC_intro (fun hdiff => ?_) fun hsm => ?_⟩
    . have hdiff : eq l[i + 1 + (j + 1)] l[i + 1 + j] = false := by simpa using hdiff
      refine ⟨by omega, by omega, ?_⟩; refine rowC hmk (c23.upd u29 fun _ _ x => x) (i := i + 1 + (j + 1)) (j := j + 1) (by omega) (tellc _ (by omega) (by omega)) (fun x'' s'' a'' ha'' hr'' _ => ⟨by omega, by omega, ?_⟩) rfl; rw [List.getElem?_eq_getElem (by omega)] at ha''; cases ha''; refine row_set (r23.upd u29 fun _ _ x => x) (j := k') (by omega) _ fun w34 h34 u34 _ => ?_; rw [wrap_succ (by omega)]; refine ⟨k' + 1, rfl, by omega, by omega, by omega, U29.trans u34 fun _ _ x => x, _, h34, fun q hq => ?_, ?_⟩
      . rw [List.getElem?_set_ne (by omega)]; exact hsame q (by omega)
      . have e1 : l.take (i + 1 + (j + 1 + 1)) = l.take (i + 1 + j + 1 + 1) := by congr 1
        rw [e1, hdd]; have : eq l[i + 1 + j + 1] l[i + 1 + j] = false := hdiff; rw [this]; exact tell_set htl (by omega) hr''
    . have hsm : eq l[i + 1 + (j + 1)] l[i + 1 + j] = true := by simpa using hsm
      have hsm : eq l[i + 1 + j + 1] l[i + 1 + j] = true := hsm; refine ⟨k', rfl, by omega, by omega, by omega, U29, xs', r23.upd u29 (fun _ _ x => x), hsame, ?_⟩; have e1 : l.take (i + 1 + (j + 1 + 1)) = l.take (i + 1 + j + 1 + 1) := by congr 1
      rw [e1, hdd, hsm, if_pos rfl, List.append_nil]; exact htl
  . have hge2 := of_decide_eq_false hge2; obtain ⟨xs', hr', hsame, htl⟩ := I.ex; have hlen' : xs'.length = n := by have := row_cap hr'; omega
    refine ⟨by omega, by omega, by omega, ?_⟩; refine row_clear E hr' (i := k') (by omega) fun w36 v h36 u36 _ => ⟨by omega, by omega, by omega, ?_⟩; have c36 := h36.cut (lo := 0) (hi := k') (by omega) (by omega); refine hk _ _ _ w36 _ c36 ?_ (I.u.trans u36 fun _ _ x => x) fun b x => inRow_cut x; rw [Nat.zero_mul, List.drop_zero, Nat.mul_one, Nat.sub_zero, List.take_left' (by rw [List.length_take]; omega)]; rw [show i + 1 + k2 = l.length by omega, List.take_length] at htl; exact htl
def CloP (t e : TypeId) (x0 : Option Addr) (x0l x0c : Nat) (w : World) (K : KV) : Prop :=
  brC (Option.isNone x0) (K (.slice none 0 0) w) (newC w (Obj.cells #[] e) fun (k0 : Nat) (w1 : World) => runC Tryz.prog (Builtin.append_ #[t, t] t #[.slice (some (Addr.mk k0 0 none)) 0 0, .slice x0 x0l x0c]) w1 fun (v2 : Value) (w3 : World) => ∃ (p4 : Option Addr), ∃ (k5 : Nat), ∃ (k6 : Nat), v2 = .slice p4 k5 k6 /\ K (.slice p4 k5 k6) w3)
theorem row_none {w : World} {e : TypeId} {n c : Nat} {xs : List Value} (h : RowAt w e 1 (.slice none n c) xs) : xs = [] /\ n = 0 /\ c = 0 := by
  obtain ⟨m, hl, ⟨e0, rfl⟩ | ⟨g, o, cap, cur, e0, _⟩⟩ := h
  . cases e0; exact ⟨List.eq_nil_of_length_eq_zero (by omega), rfl, rfl⟩
  . cases e0
theorem clo_rule {t e : TypeId} {bytes : Nat} (E : Elem t e bytes) (hb : bytes <= 16) {w : World} {p : Option Addr} {n c : Nat} {xs : List Value} (h : RowAt w e 1 (.slice p n c) xs) (h1 : ∀ u ∈ xs, u.oneCell' = true) (hsz : xs.length <= 1000000000000)
    {K : KV} (hk : ∀ p' n' c' w', Own w.heap.size w' e p' n' c' xs -> Upd No w w' -> K (.slice p' n' c') w') : CloP t e p n c w K := by
  refine brC_intro (fun hn => ?_) fun hs => ?_
  . cases p with
    | some a => simp at hn
    | none =>
      obtain ⟨rfl, rfl, rfl⟩ := row_none h; exact hk none 0 0 w (ownNil _ _ _) (Upd.refl _ _)
  . refine newC_mk fun w1 B1 u1 s1 => ?_
    have o1 : Own w.heap.size w1 e (some ⟨w.heap.size, 0, none⟩) 0 0 [] := ⟨⟨0, rfl, .inr ⟨w.heap.size, 0, 0, #[], rfl, B1, Nat.le_refl _, Nat.zero_le _, by simp, by simp⟩⟩, fun b hb => by
      simp [InRow, Value.ownBlock] at hb; omega, rfl, Nat.le_refl _, Nat.zero_le _⟩
    refine runC_mono (grow_row E o1 (by omega) (h.upd u1 fun _ _ x => x) h1 hb (by simpa using hsz) (K := fun p' n' c' w' => Own w.heap.size w' e p' n' c' xs /\ Upd No w w') fun p' n' c' w' o u _ _ => ⟨o, upFrom u1 u (Nat.le_refl _)⟩) fun v w' ⟨p', n', c', e', o, u⟩ => ⟨p', n', c', e', hk p' n' c' w' o u⟩
theorem cloS_of {x0 : Option Addr} {x0l x0c : Nat} {w : World} {K : KV} (h : CloP 53 9 x0 x0l x0c w K) : callC Tryz.prog 105 #[.slice x0 x0l x0c] w K := cloneS_text _ _ _ _ _ h
theorem cloT_of {x0 : Option Addr} {x0l x0c : Nat} {w : World} {K : KV} (h : CloP 82 29 x0 x0l x0c w K) : callC Tryz.prog 110 #[.slice x0 x0l x0c] w K := cloneT_text _ _ _ _ _ h
def Tr1P (ty : TypeId) (v u : Value) (b : Nat) (w : World) (K : KV) : Prop :=
  ∃ (x0_1 : Bool -> WP), (∀ (b1 : Bool) (w2 : World), x0_1 b1 w2 -> ∀ (_ : Nat -> Value), brC b1 (K (.int .i64 (-1)) w2) (K (.int .i64 1) w2)) /\ drawC w fun (w4 : World) => ∃ (x5 : WP), ∃ (v6 : Value), World.cell? w4 (Addr.mk b 0 none) = some v6 /\ (∀ (w7 : World), x5 w7 -> Lds Tryz.prog ty w7 (Addr.mk b 0 none) v6) /\ ∃ (v8 : Value), World.cell? w4 (Addr.mk b 0 none) = some v8 /\ (∀ (w9 : World), x5 w9 -> Lds Tryz.prog ty w9 (Addr.mk b 0 none) v8) /\ (invC Tryz.prog v6 #[v] w4 fun (v10 : Value) (w11 : World) => ∃ (s12 : ByteArray), v10 = .string s12 /\ x5 w11 /\ (invC Tryz.prog v8 #[u] w11 fun (v13 : Value) (w14 : World) => ∃ (s15 : ByteArray), v13 = .string s15 /\ x5 w14 /\ x0_1 (Op.bytesLess (ByteArray.toList s12) (ByteArray.toList s15)) w14) /\ True) /\ True
def Tr2P (ty : TypeId) (v u : Value) (b : Nat) (w : World) (K : KV) : Prop :=
  drawC w fun (w0 : World) => ∃ (x1_1 : WP), ∃ (v2 : Value), World.cell? w0 (Addr.mk b 0 none) = some v2 /\ (∀ (w3 : World), x1_1 w3 -> Lds Tryz.prog ty w3 (Addr.mk b 0 none) v2) /\ ∃ (v4 : Value), World.cell? w0 (Addr.mk b 0 none) = some v4 /\ (∀ (w5 : World), x1_1 w5 -> Lds Tryz.prog ty w5 (Addr.mk b 0 none) v4) /\ (invC Tryz.prog v2 #[v] w0 fun (v6 : Value) (w7 : World) => ∃ (s8 : ByteArray), v6 = .string s8 /\ x1_1 w7 /\ (invC Tryz.prog v4 #[u] w7 fun (v9 : Value) (w10 : World) => ∃ (s11 : ByteArray), v9 = .string s11 /\ x1_1 w10 /\ K (.bool (ByteArray.toList s8 == ByteArray.toList s11)) w10) /\ True) /\ True
def TrisP (ty : TypeId) (fI fL fC f1 f2 : FuncId) (x0 : Option Addr) (x0l x0c : Nat) (fv : Value) (w : World) (K : KV) : Prop :=
  newC w (Obj.cells #[fv] ty) fun (k0 : Nat) (w1 : World) => callC Tryz.prog fI #[.slice x0 x0l x0c, .func (Fn.func f1) #[] #[.pointer (some (Addr.mk k0 0 none))]] w1 fun (v2 : Value) (w3 : World) => ∃ (b4 : Bool), v2 = .bool b4 /\ brC b4 (callC Tryz.prog fL #[.slice x0 x0l x0c] w3 fun (v5 : Value) (w6 : World) => ∃ (p7 : Option Addr), ∃ (k8 : Nat), ∃ (k9 : Nat), v5 = .slice p7 k8 k9 /\ callC Tryz.prog fC #[.slice p7 k8 k9, .func (Fn.func f2) #[] #[.pointer (some (Addr.mk k0 0 none))]] w6 fun (v10 : Value) (w11 : World) => ∃ (p12 : Option Addr), ∃ (k13 : Nat), ∃ (k14 : Nat), v10 = .slice p12 k13 k14 /\ K (.bool ((↑k13 : Int) == (↑x0l : Int))) w11) (K (.bool false) w3)
structure Rise {σ : Type} (mk : σ -> Value) (t e ty : TypeId) (bytes : Nat) (z : Value) (fI fL fC f1 f2 : FuncId) : Prop where
  elem : Elem t e bytes
  elemz : ElemZ t e bytes z
  small : bytes <= 16
  one : ∀ s, (mk s).oneCell' = true
  iss : ∀ {x0 : Option Addr} {x0l x0c : Nat} {x1 : Value} {w : World} {K : KV}, IssP mk x0 x0l x1 w K -> callC Tryz.prog fI #[.slice x0 x0l x0c, x1] w K
  clo : ∀ {x0 : Option Addr} {x0l x0c : Nat} {w : World} {K : KV}, CloP t e x0 x0l x0c w K -> callC Tryz.prog fL #[.slice x0 x0l x0c] w K
  com : ∀ {x0 : Option Addr} {x0l x0c : Nat} {x1 : Value} {w : World} {K : KV}, CompP mk t x0 x0l x0c x1 w K -> callC Tryz.prog fC #[.slice x0 x0l x0c, x1] w K
  tr1 : ∀ {x y : σ} {b : Nat} {w : World} {K : KV}, Tr1P ty (mk x) (mk y) b w K -> invC Tryz.prog (.func (Fn.func f1) #[] #[.pointer (some (Addr.mk b 0 none))]) #[mk x, mk y] w K
  tr2 : ∀ {x y : σ} {b : Nat} {w : World} {K : KV}, Tr2P ty (mk x) (mk y) b w K -> invC Tryz.prog (.func (Fn.func f2) #[] #[.pointer (some (Addr.mk b 0 none))]) #[mk x, mk y] w K
  lds : ∀ {w : World} {a : Addr} {v : Value}, w.cell? a = some v -> Lds Tryz.prog ty w a v
def FnK {α : Type} (R : Value -> α -> Prop) (w0 : World) (fv : Value) (key : α -> ByteArray) (l : List α) : Prop :=
  ∀ (v : Value) (a : α) (w : World), R v a -> a ∈ l -> Upd No w0 w -> invC Tryz.prog fv #[v] w fun r w' => r = .string (key a) /\ Upd No w w'
theorem rising_iff {α : Type} (key : α -> List UInt8) : ∀ l : List α, rising (l.map key) = true ↔ ∀ i, (h : i + 1 < l.length) -> key l[i] < key l[i + 1]
  | [] => ⟨fun _ i h => by simp at h, fun _ => rfl⟩
  | [a] => ⟨fun _ i h => by simp at h, fun _ => rfl⟩
  | a :: b :: l => by
    have ih := rising_iff key (b :: l); simp only [List.map_cons, rising, Bool.and_eq_true, decide_eq_true_eq] at ih ⊢; rw [ih]; constructor
    . rintro ⟨h1, h2⟩ i hi
      cases i with
      | zero => exact h1
      | succ i => exact h2 i (by simpa using hi)
    . intro h; exact ⟨h 0 (by simp), fun i hi => h (i + 1) (by simpa using hi)⟩
theorem lessB_list (x y : ByteArray) : Op.bytesLess x.toList y.toList = lessB x y := by rw [ByteArray.toList_eq, ByteArray.toList_eq]; rfl
def cmpK {α : Type} (key : α -> ByteArray) (a b : α) : Int := if lessB (key a) (key b) then -1 else 1
theorem rise_rule {α σ : Type} {R : Value -> α -> Prop} {mk : σ -> Value} (hmk : ∀ v a, R v a -> ∃ s, v = mk s) {t e ty : TypeId} {bytes : Nat} {z : Value} {fI fL fC f1 f2 : FuncId} (Z : Rise mk t e ty bytes z fI fL fC f1 f2) {key : α -> ByteArray}
    {w : World} {p : Option Addr} {n c : Nat} {xs : List Value} {l : List α} {fv : Value}
    (h : RowAt w e 1 (.slice p n c) xs) (ht : Tell R xs l) (hsz : l.length <= 1000000000000) (hf : FnK R w fv key l) {K : KV}
    (hk : ∀ w', Upd No w w' -> K (.bool (rising (l.map fun a => txt (key a)))) w') : TrisP ty fI fL fC f1 f2 p n c fv w K := by
  refine newC_mk fun w1 B1 u1 s1 => ?_; have cell1 : w1.cell? ⟨w.heap.size, 0, none⟩ = some fv := B1.cell (by simp); have el := ht.len; obtain ⟨en, _, _⟩ := row_cap h
  have tr1 : ∀ S : Nat -> Prop, ∀ w6, Upd No w1 w6 -> (∀ b, S b -> w1.heap.size <= b) -> FnR R S w6 (.func (Fn.func f1) #[] #[.pointer (some (Addr.mk w.heap.size 0 none))]) (Value.int .i64) (cmpK key) l := by
    intro S w6 u6 hS v u a b w7 hv hu ha hb u7; obtain ⟨x, rfl⟩ := hmk _ _ hv; obtain ⟨y, rfl⟩ := hmk _ _ hu; have u17 : Upd No w1 w7 := u6.trans u7 fun x hx hs => by have := hS x hs; omega
    refine Z.tr1 ⟨fun b' w' => b' = lessB (key a) (key b) /\ Upd No w7 w', ?_, drawC_mk fun w8 u8 _ => ⟨fun w' => Upd No w8 w', ?_⟩⟩
    . rintro b' w' ⟨rfl, u'⟩ _; refine brC_intro (fun hlt => ⟨?_, u'⟩) fun hge => ⟨?_, u'⟩
      . unfold cmpK; rw [if_pos hlt]
      . unfold cmpK; rw [if_neg (by rw [hge]; simp)]
    have c8 := cell_keep cell1 (up u17 u8); refine ⟨_, c8, fun w' u' => Z.lds (cell_keep c8 u'), _, c8, fun w' u' => Z.lds (cell_keep c8 u'), ?_, trivial⟩; refine semVC_mono (nextVC_mono fun r w9 ⟨er, u9⟩ => ?_) _ _ (hf _ a w8 hv ha (up u1 (up u17 u8))); refine ⟨_, er, u9, ?_, trivial⟩; refine semVC_mono (nextVC_mono fun r w10 ⟨er', u10⟩ => ?_) _ _ (hf _ b w9 hu hb (up u1 (up (up u17 u8) u9))); exact ⟨_, er', up u9 u10, lessB_list _ _, up (up u8 u9) u10⟩
  have tr2 : ∀ S : Nat -> Prop, ∀ w6, Upd No w1 w6 -> (∀ b, S b -> w1.heap.size <= b) -> FnR R S w6 (.func (Fn.func f2) #[] #[.pointer (some (Addr.mk w.heap.size 0 none))]) Value.bool (fun a b => decide (key a = key b)) l := by
    intro S w6 u6 hS v u a b w7 hv hu ha hb u7; obtain ⟨x, rfl⟩ := hmk _ _ hv; obtain ⟨y, rfl⟩ := hmk _ _ hu; have u17 : Upd No w1 w7 := u6.trans u7 fun x hx hs => by have := hS x hs; omega
    refine Z.tr2 (drawC_mk fun w8 u8 _ => ⟨fun w' => Upd No w8 w', ?_⟩); have c8 := cell_keep cell1 (up u17 u8); refine ⟨_, c8, fun w' u' => Z.lds (cell_keep c8 u'), _, c8, fun w' u' => Z.lds (cell_keep c8 u'), ?_, trivial⟩; refine semVC_mono (nextVC_mono fun r w9 ⟨er, u9⟩ => ?_) _ _ (hf _ a w8 hv ha (up u1 (up u17 u8))); refine ⟨_, er, u9, ?_, trivial⟩; refine semVC_mono (nextVC_mono fun r w10 ⟨er', u10⟩ => ?_) _ _ (hf _ b w9 hu hb (up u1 (up (up u17 u8) u9))); exact ⟨_, er', up u9 u10, by rw [beq_bytes], up (up u8 u9) u10⟩
  have h1 := h.upd u1 fun _ _ x => x; have ri := rising_iff (fun a => txt (key a)) l; refine Z.iss (iss_rule hmk (cmp := cmpK key) h1 ht (tr1 No w1 (Upd.refl _ _) fun _ x => x.elim) fun b w3 hb u3 => ⟨_, rfl, ?_⟩); refine brC_intro (fun ht' => ?_) fun hf' => ?_
  . refine Z.clo (clo_rule Z.elem Z.small (h1.upd u3 fun _ _ x => x) (fun u hu => ?_) (by omega) fun p' n' c' w6 o6 u6 => ⟨_, _, _, rfl, ?_⟩)
    . obtain ⟨i, hi, rfl⟩ := List.getElem_of_mem hu; obtain ⟨s, hs⟩ := hmk _ _ (ht.at_ i _ l[i] (List.getElem?_eq_getElem hi) (List.getElem?_eq_getElem (by omega))); rw [hs]; exact Z.one s
    have hs3 := u3.size; refine Z.com (comp_rule hmk (eq := fun a b => decide (key a = key b)) Z.elemz o6.row ht (tr2 _ w6 (up u3 u6) fun b hb => by have := o6.own b hb; omega) fun p2 n2 c2 w8 xs2 h8 ht8 u8 _ => ⟨_, _, _, rfl, ?_⟩); have hU : Upd No w w8 := (up (up u1 u3) u6).trans u8 fun x hx hs => by have := o6.own x hs; have := u1.size; omega
    have el2 := ht8.len; obtain ⟨en2, _, _⟩ := row_cap h8; have hd := dd_full (fun a b => decide (key a = key b)) l
    have e1 : ((n2 : Int) == (n : Int)) = rising (l.map fun a => txt (key a)) := by
      rw [Bool.eq_iff_iff, ri, beq_iff_eq]; have hb' := hb.1 ht'; have e2 : ((n2 : Int) = (n : Int)) ↔ (dd (fun a b => decide (key a = key b)) l).length = l.length := by omega
      rw [e2, hd]; constructor
      . intro hno i hi; have h1 := hb' i hi; have h2 := hno i hi; have h2 : ¬ key l[i + 1] = key l[i] := by simpa using h2
        unfold cmpK at h1; have h3 : ¬ lessB (key l[i + 1]) (key l[i]) = true := fun x => by rw [if_pos x] at h1; exact h1 (by decide)
        rw [lessB_iff] at h3
        by_cases h4 : txt (key l[i]) < txt (key l[i + 1])
        . exact h4
        . exact absurd (List.le_antisymm (List.not_lt.1 h3) (List.not_lt.1 h4)) fun x => h2 (txt_inj x.symm)
      . intro hr i hi; have := hr i hi; refine decide_eq_false fun x => ?_; rw [x] at this; exact absurd this (List.lt_irrefl _)
    rw [e1]; exact hk w8 hU
  . have hr : rising (l.map fun a => txt (key a)) = false := by
      refine Bool.eq_false_iff.2 fun x => ?_; have := ri.1 x; have hb' := hb.2 fun i hi hneg => ?_
      . rw [hf'] at hb'; cases hb'
      . have h3 : lessB (key l[i + 1]) (key l[i]) = true := by
          unfold cmpK at hneg; refine Classical.byContradiction fun x => ?_; rw [if_neg x] at hneg; exact absurd hneg (by decide)
        rw [lessB_iff] at h3; exact absurd h3 (List.lt_asymm (this i hi))
    have := hk w3 (up u1 u3); rw [hr] at this; exact this
theorem lds_fs {w : World} {a : Addr} {v : Value} (h : w.cell? a = some v) : Lds Tryz.prog 125 w a v := by
  have key : (∃ v', w.cell? a = some v' /\ v' = v) = ldVC Tryz.prog 125 w a (fun x => x = v) := by kernel_rfl
  obtain ⟨v, rfl, hr⟩ := semR_out (ldVC_sound (of_eq ⟨_, h, rfl⟩ key)); exact hr w rfl
theorem lds_ft {w : World} {a : Addr} {v : Value} (h : w.cell? a = some v) : Lds Tryz.prog 40 w a v := by
  have key : (∃ v', w.cell? a = some v' /\ v' = v) = ldVC Tryz.prog 40 w a (fun x => x = v) := by kernel_rfl
  obtain ⟨v, rfl, hr⟩ := semR_out (ldVC_sound (of_eq ⟨_, h, rfl⟩ key)); exact hr w rfl
theorem inv_tr1S {x y : ByteArray} {b : Nat} {w : World} {K : KV} (h : callC Tryz.prog 103 #[.string x, .string y, pv b] w K) : invC Tryz.prog (.func (.func 103) #[] #[pv b]) #[.string x, .string y] w K := of_eq h (by kernel_rfl)
theorem inv_tr2S {x y : ByteArray} {b : Nat} {w : World} {K : KV} (h : callC Tryz.prog 106 #[.string x, .string y, pv b] w K) : invC Tryz.prog (.func (.func 106) #[] #[pv b]) #[.string x, .string y] w K := of_eq h (by kernel_rfl)
theorem inv_tr1T {x y : Option Addr} {b : Nat} {w : World} {K : KV} (h : callC Tryz.prog 108 #[.pointer x, .pointer y, pv b] w K) : invC Tryz.prog (.func (.func 108) #[] #[pv b]) #[.pointer x, .pointer y] w K := of_eq h (by kernel_rfl)
theorem inv_tr2T {x y : Option Addr} {b : Nat} {w : World} {K : KV} (h : callC Tryz.prog 111 #[.pointer x, .pointer y, pv b] w K) : invC Tryz.prog (.func (.func 111) #[] #[pv b]) #[.pointer x, .pointer y] w K := of_eq h (by kernel_rfl)
theorem riseS : Rise Value.string 53 9 125 16 (.string ByteArray.empty) 102 105 104 103 106 :=
  ⟨elemStr, zStr, by omega, fun _ => rfl, issS_of, cloS_of, compS_of, fun h => inv_tr1S (tr1_text _ _ _ _ _ _ h), fun h => inv_tr2S (tr2_text _ _ _ _ _ _ h), lds_fs⟩
theorem riseT : Rise Value.pointer 82 29 40 8 (.pointer none) 107 110 109 108 111 :=
  ⟨elemTyp, zTyp, by omega, fun _ => rfl, issT_of, cloT_of, compT_of, fun h => inv_tr1T (trT1_text _ _ _ _ _ _ h), fun h => inv_tr2T (trT2_text _ _ _ _ _ _ h), lds_ft⟩
theorem trisS_of {p : Option Addr} {n c : Nat} {f : Fn} {a b : Array Value} {w : World} {K : KV} (h : TrisP 125 102 105 104 103 106 p n c (.func f a b) w K) :
    callC Tryz.prog 55 #[.slice p n c, .func f a b] w K := trisS_text _ _ _ _ _ _ _ _ h
theorem trisT_of {p : Option Addr} {n c : Nat} {f : Fn} {a b : Array Value} {w : World} {K : KV} (h : TrisP 40 107 110 109 108 111 p n c (.func f a b) w K) :
    callC Tryz.prog 58 #[.slice p n c, .func f a b] w K := trisT_text _ _ _ _ _ _ _ _ h
theorem tell_strs (l : List ByteArray) : Tell (fun v s => v = Value.string s) (l.map Value.string) l :=
  ⟨List.length_map _, fun i v a hv ha => by rw [List.getElem?_map, ha] at hv; cases hv; rfl⟩
theorem trisS_spec {w : World} {p : Option Addr} {n c : Nat} {l : List ByteArray} {f : Fn} {a b : Array Value} {key : ByteArray -> ByteArray} (h : RowAt w ids.str 1 (.slice p n c) (l.map Value.string)) (hsz : l.length <= 1000000000000)
    (hf : ∀ (s : ByteArray) (w' : World), s ∈ l -> Upd No w w' -> invC Tryz.prog (.func f a b) #[.string s] w' fun r w'' => r = .string (key s) /\ Upd No w' w'') :
    callC Tryz.prog 55 #[.slice p n c, .func f a b] w fun v w' => v = .bool (rising (l.map fun s => txt (key s))) /\ Upd No w w' :=
  trisS_of (rise_rule (R := fun v s => v = Value.string s) (fun v s e => ⟨s, e⟩) riseS h (tell_strs l) hsz (fun v s w' e hs u => by rw [e]; exact hf s w' hs u) fun w' u => ⟨rfl, u⟩)
theorem tell_typs {F : Nat -> Prop} {w : World} {vs : List Value} {l : List T} (h : TysAt ids F w vs l) : Tell (fun v t => ∃ q, v = Value.pointer q /\ TyAt ids F w (.pointer q) t) vs l :=
  ⟨h.length, fun i v t hv ht => by
    have := h.at_ hv ht; obtain ⟨q, e, _⟩ := ptr_shape this; exact ⟨q, e, e ▸ this⟩⟩
theorem trisT_spec {w : World} {F : Nat -> Prop} {p : Option Addr} {n c : Nat} {l : List T} {f : Fn} {a b : Array Value} {key : T -> ByteArray} (h : TyRow ids F w (.slice p n c) l) (hsz : l.length <= 1000000000000)
    (hf : ∀ (q : Option Addr) (t : T) (w' : World), t ∈ l -> TyAt ids F w' (.pointer q) t -> invC Tryz.prog (.func f a b) #[.pointer q] w' fun r w'' => r = .string (key t) /\ Upd No w' w'') :
    callC Tryz.prog 58 #[.slice p n c, .func f a b] w fun v w' => v = .bool (rising (l.map fun s => txt (key s))) /\ Upd No w w' := by
  obtain ⟨vs, h1, _, h2⟩ := h; exact trisT_of (rise_rule (R := fun v t => ∃ q, v = Value.pointer q /\ TyAt ids F w (.pointer q) t) (fun v t ⟨q, e, _⟩ => ⟨q, e⟩) riseT h1 (tell_typs h2) hsz (fun v t w' ⟨q, e, ht⟩ hm u => by rw [e]; exact hf q t w' hm (ht.keep u)) fun w' u => ⟨rfl, u⟩)
def plainB (k : Int) (nm : ByteArray) (ns : List ByteArray) (ta : List T) (r : T) : Bool :=
  (decide (nm = .empty) || k == 6) && (ns.isEmpty || k == 7) && (ta.isEmpty || decide (7 <= k)) && ((!r.isNil) == (k == 8))
theorem tplain_spec {F : Nat -> Prop} {w : World} {x0 : Option Addr} {k : Int} {nm : ByteArray} {ns : List ByteArray} {ta : List T} {r : T} (h : TyAt ids F w (.pointer x0) (.mk k nm ns ta r)) :
    callC Tryz.prog 48 #[.pointer x0] w fun v w' => v = .bool (plainB k nm ns ta r) /\ w' = w := by
  obtain ⟨b, np, nc, p, c, rp, rfl, C⟩ := ty_opens h; have hR := ty_isNone C.ret; have e0 : (ByteArray.mk #[]) = ByteArray.empty := rfl; have len0 : ∀ {α : Type} (l : List α), ((l.length : Int) == 0) = l.isEmpty := fun l => by cases l <;> simp <;> omega
  have part : (decide (nm = .empty) || k == 6) = true -> (ns.isEmpty || k == 7) = true ->
      ptrC (some (Addr.mk b 0 none)) fun a8 => ∃ p9, ∃ k10, ∃ k11, World.cell? w (Addr.add a8 3) = some (.slice p9 k10 k11) /\ brC ((k10 : Int) == 0) (ptrC (some (Addr.mk b 0 none)) fun a12 => ∃ p13, World.cell? w (Addr.add a12 4) = some (.pointer p13) /\ (Value.bool ((!Option.isNone p13) == (k == 8)) = Value.bool (plainB k nm ns ta r) /\ w = w)) (brC (decide (k ≥ 7)) (ptrC (some (Addr.mk b 0 none)) fun a14 => ∃ p15, World.cell? w (Addr.add a14 4) = some (.pointer p15) /\ (Value.bool ((!Option.isNone p15) == (k == 8)) = Value.bool (plainB k nm ns ta r) /\ w = w)) (Value.bool false = Value.bool (plainB k nm ns ta r) /\ w = w)) := by
    intro e1 e2; unfold plainB; rw [e1, e2]; refine ptrC_some ⟨_, _, _, C.c3, ?_⟩; rw [len0]; refine brC_intro (fun h1 => ptrC_some ⟨_, C.c4, by rw [hR, h1]; simp, rfl⟩) fun h1 => brC_intro (fun h2 => ptrC_some ⟨_, C.c4, by rw [hR, h1]; have : (7 : Int) <= k := of_decide_eq_true h2; simp [this], rfl⟩) fun h2 => ⟨by rw [h1]; have : ¬ (7 : Int) <= k := of_decide_eq_false h2; simp [this], rfl⟩
  refine tplain_text _ _ _ (ptrC_some ⟨_, C.c0, ptrC_some ⟨_, C.c1, ?_⟩⟩); rw [e0, beq_bytes]; have no2 : ns.isEmpty = false -> (k == 7) = false -> plainB k nm ns ta r = false := fun h1 h2 => by unfold plainB; rw [h1, h2]; simp
  refine brC_intro (fun h1 => ?_) fun h1 => brC_intro (fun h6 => ?_) fun h6 => ⟨by unfold plainB; rw [h1, h6]; simp, rfl⟩
  . have h1' : (decide (nm = .empty) || k == 6) = true := by rw [h1]; rfl
    refine ptrC_some ⟨_, _, _, C.c2, ?_⟩; rw [len0]; exact brC_intro (fun h2 => part h1' (by rw [h2]; rfl)) fun h2 => brC_intro (fun h7 => part h1' (by rw [h7]; simp)) fun h7 => ⟨by rw [no2 h2 h7], rfl⟩
  . have h1' : (decide (nm = .empty) || k == 6) = true := by rw [h6]; simp
    refine ptrC_some ⟨_, _, _, C.c2, ?_⟩; rw [len0]; exact brC_intro (fun h2 => part h1' (by rw [h2]; rfl)) fun h2 => brC_intro (fun h7 => part h1' (by rw [h7]; simp)) fun h7 => ⟨by rw [no2 h2 h7], rfl⟩
theorem inv_may1 {q : Option Addr} {w : World} {K : KV} (h : callC Tryz.prog 49 #[.pointer q] w K) : invC Tryz.prog (.func (.func 49) #[] #[]) #[.pointer q] w K := of_eq h (by kernel_rfl)
theorem inv_may2 {q : ByteArray} {w : World} {K : KV} (h : callC Tryz.prog 53 #[.string q] w K) : invC Tryz.prog (.func (.func 53) #[] #[]) #[.string q] w K := of_eq h (by kernel_rfl)
theorem inv_may3 {q : ByteArray} {w : World} {K : KV} (h : callC Tryz.prog 56 #[.string q] w K) : invC Tryz.prog (.func (.func 56) #[] #[]) #[.string q] w K := of_eq h (by kernel_rfl)
theorem inv_may4 {q : Option Addr} {w : World} {K : KV} (h : callC Tryz.prog 57 #[.pointer q] w K) : invC Tryz.prog (.func (.func 57) #[] #[]) #[.pointer q] w K := of_eq h (by kernel_rfl)
theorem inv_write {q : Option Addr} {w : World} {K : KV} (h : callC Tryz.prog 29 #[.pointer q] w K) : invC Tryz.prog (.func (.func 29) #[] #[]) #[.pointer q] w K := of_eq h (by kernel_rfl)
theorem inv_all1 {q : Option Addr} {w : World} {K : KV} (h : callC Tryz.prog 189 #[.pointer q] w K) : invC Tryz.prog (.func (.func 189) #[] #[]) #[.pointer q] w K := of_eq h (by kernel_rfl)
theorem headB_plain (k : Int) (nm : ByteArray) (ns : List ByteArray) (ta : List T) (r : T) : headB k nm ns ta r = (decide (1 <= k) && decide (k <= 9) && plainB k nm ns ta r) := by
  unfold headB plainB; simp only [Bool.and_assoc]
theorem not_any {α : Type} (f : α -> Bool) (l : List α) : (!(l.any f)) = l.all fun a => !(f a) := by
  induction l with
  | nil => rfl
  | cons a l ih => simp only [List.any_cons, List.all_cons, Bool.not_or, ih]
theorem tmay_spec : ∀ t : T, size t <= 60 -> ∀ (F : Nat -> Prop) (w : World) (x0 : Option Addr), TyAt ids F w (.pointer x0) t ->
    callC Tryz.prog 27 #[.pointer x0] w fun v w' => v = .bool (may t) /\ Upd No w w' := by
  refine ind (fun _ F w x0 h => ?_) fun k nm ns ta r ihA ihR hs F w x0 h => ?_
  . obtain rfl : x0 = none := by unfold TyAt at h; cases h; rfl
    refine tmay_text _ _ _ ⟨fun _ => False, fun _ h => h.elim, fun b w' => b = true /\ w' = w, ?_, brC_tt rfl ⟨rfl, rfl⟩⟩; rintro b w' ⟨rfl, rfl⟩ _; exact brC_tt rfl ⟨rfl, Upd.refl _ _⟩
  have hty := h; obtain ⟨b, np, nc, p, c, rp, rfl, C⟩ := ty_opens h; have hsa := fun a (ha : a ∈ ta) => small_args (t := .mk k nm ns ta r) ha hs; have hnl := C.len; simp only [maxLen] at hnl; have hm := may_eq k nm ns ta r; refine tmay_text _ _ _ ⟨fun w' => w' = w /\ headB k nm ns ta r = true, ?_, fun b w' => w' = w /\ b = !(headB k nm ns ta r), ?_, ?_⟩
  rotate_left
  . rintro b w' ⟨rfl, rfl⟩ _; refine brC_intro (fun hb => ⟨?_, Upd.refl _ _⟩) fun hb => ⟨rfl, by simpa using hb⟩; have hb : headB k nm ns ta r = false := by simpa using hb
    rw [hm, hb]; rfl
  . rw [headB_plain]; refine brC_ff rfl (ptrC_some ⟨_, C.c0, brC_intro (fun h1 => ⟨rfl, ?_⟩) fun h1 => ptrC_some ⟨_, C.c0, brC_intro (fun h2 => ⟨rfl, ?_⟩) fun h2 => ?_⟩⟩)
    . have : ¬ 1 <= k := by have := of_decide_eq_true h1; omega
      simp [this]
    . have : ¬ k <= 9 := by have := of_decide_eq_true h2; omega
      simp [this]
    . have h1 : 1 <= k := by have := of_decide_eq_false h1; omega
      have h2 : k <= 9 := by have := of_decide_eq_false h2; omega
      refine callC_of (tplain_spec hty) fun v w' ⟨e, ew⟩ => ⟨_, e, ew, ?_⟩; simp [h1, h2]
  rintro w1 ⟨rfl, hh⟩ _; refine ptrC_some ⟨_, _, _, C.c3, ?_⟩; refine callC_of (cfT_spec (f := fun t => !(may t)) (D := fun t => t ∈ ta) C.args (fun F w q t hm ht => inv_may1 (tmay1_text _ _ _ (callC_of (ihA t hm (hsa t hm) F w q ht) fun v w' ⟨e, u⟩ => ⟨_, e, rfl, u⟩))) fun _ h => h) fun v w8 ⟨e, u8⟩ => ⟨_, e, brC_intro (fun hb => ⟨?_, u8⟩) fun hb => ?_⟩
  . obtain ⟨a, ha, hf⟩ := List.any_eq_true.1 hb; rw [may_arg_false ha (by simpa using hf)]
  have hall : ∀ a ∈ ta, may a = true := fun a ha => by
    have := List.any_eq_false.1 hb a ha; simpa using this
  have hT : may (.mk k nm ns ta r) = tailB k nm ns ta r := by
    rw [hm, hh, List.all_eq_true.2 hall]; rfl
  have hta : ta.length <= 60 := by
    have : size (.mk k nm ns ta r) = 1 + sizes ta + size r := by rw [size]
    have := length_le_sizes (l := ta) fun a ha => may_notNil (hall a ha); omega
  unfold tailB at hT; have C := C.keep u8; refine ptrC_some ⟨_, C.c0, brC_intro (fun h6 => ?_) fun h6 => ?_⟩
  . obtain rfl : k = 6 := by simpa using h6
    rw [if_pos rfl] at hT; refine ptrC_some ⟨_, C.c1, callC_of (tmade_spec (s := nm) [45, 47, 46] 161 rfl (by decide) (by decide)) fun v w' ⟨e, u'⟩ => ⟨_, e, ?_, up u8 u'⟩⟩; rw [hT, size_txt, named_made]
  have h6 : k ≠ 6 := by simpa using h6
  rw [if_neg h6] at hT; refine brC_intro (fun h7 => ?_) fun h7 => ?_
  . obtain rfl : k = 7 := by simpa using h7
    rw [if_pos rfl] at hT; refine drawC_mk fun w17 u17 _ => ?_; have C := C.keep u17; have u7 := up u8 u17; refine ptrC_some ⟨_, _, _, C.c2, ptrC_some ⟨_, _, _, C.c3, brC_intro (fun heq => ?_) fun hne => ⟨?_, u7⟩⟩⟩
    rotate_left
    . have hne : ¬ ns.length = ta.length := fun e => by rw [e] at hne; simp at hne
      rw [hT]; simp [hne]
    have heq : ns.length = ta.length := by have : (ns.length : Int) = ta.length := by simpa using heq
                                           omega
    refine ptrC_some ⟨_, _, _, C.c2, ?_⟩; refine callC_of (cfS_spec (f := fun s => !(fieldL (txt s))) (D := fun _ => True) (strs_row C.names) rfl C.len.1 (fun w s _ => inv_may2 (tmay2_text _ _ _ (callC_of (tfield_spec s w) fun v w' ⟨e, u⟩ => ⟨_, e, rfl, u⟩))) fun _ _ => trivial) fun v w31 ⟨e, u31⟩ => ⟨_, e, ?_⟩; rw [not_any]; simp only [Bool.not_not]; have C := C.keep u31; refine brC_intro (fun hb => ?_) fun hb => ⟨by rw [hT, hb]; simp, up u7 u31⟩; refine ptrC_some ⟨_, _, _, C.c2, ?_⟩; refine callC_of (trisS_spec (key := id) C.names (by omega) fun s w' _ _ => inv_may3 (tmay3_text _ _ _ ⟨rfl, Upd.refl _ _⟩)) fun v w38 ⟨e, u38⟩ => ⟨_, e, ?_, up (up u7 u31) u38⟩; rw [hT, hb, heq]; simp [Function.comp_def]
  have h7 : k ≠ 7 := by simpa using h7
  rw [if_neg h7] at hT; refine brC_intro (fun h8 => ?_) fun h8 => ?_
  . obtain rfl : k = 8 := by simpa using h8
    rw [if_pos rfl] at hT; refine ptrC_some ⟨_, C.c4, callC_of (ihR (by have := @size_ret 8 nm ns ta r; omega) F w8 rp C.ret) fun v w' ⟨e, u'⟩ => ⟨_, e, by rw [hT], up u8 u'⟩⟩
  have h8 : k ≠ 8 := by simpa using h8
  rw [if_neg h8] at hT; refine brC_intro (fun h9 => ?_) fun h9 => ⟨?_, u8⟩
  rotate_left
  . have h9 : k ≠ 9 := by simpa using h9
    rw [hT, if_neg h9]
  obtain rfl : k = 9 := by simpa using h9
  rw [if_pos rfl] at hT; refine ptrC_some ⟨_, _, _, C.c3, brC_intro (fun h2 => ?_) fun h2 => ⟨?_, u8⟩⟩
  rotate_left
  . have : ¬ 2 <= ta.length := by have := of_decide_eq_false h2; omega
    rw [hT]; simp [this]
  have h2 : 2 <= ta.length := by have := of_decide_eq_true h2; omega
  refine ptrC_some ⟨_, _, _, C.c3, ?_⟩; refine callC_of (cfT_spec (f := fun t => t.kind == 9 || t.kind == 1) (D := fun t => t ∈ ta) C.args (fun F w q t hm ht => ?_) fun _ h => h) fun v w54 ⟨e, u54⟩ => ⟨_, e, ?_⟩
  . obtain ⟨g, rfl, hg⟩ := kindC ht (may_notNil (hall _ hm)); refine inv_may4 (tmay4_text _ _ _ (ptrC_some ⟨_, hg, brC_intro (fun h => ⟨by dsimp only; rw [h]; rfl, Upd.refl _ _⟩) fun h => ptrC_some ⟨_, hg, by dsimp only; rw [h]; rfl, Upd.refl _ _⟩⟩))
  rw [not_any]; simp only [Bool.not_or]; have C := C.keep u54; refine brC_intro (fun hb => ?_) fun hb => ⟨by rw [hT, hb]; simp, up u8 u54⟩; refine ptrC_some ⟨_, _, _, C.c3, ?_⟩; refine callC_of (trisT_spec (key := fun t => bs (write t)) C.args (by omega) fun q t w' hm ht => inv_write (twrite_spec (hall t hm) (hsa t hm) ht)) fun v w61 ⟨e, u61⟩ => ⟨_, e, ?_, up (up u8 u54) u61⟩; rw [hT, hb, decide_eq_true h2]; simp [txt_bs]
theorem tCheck_spec {t : T} {F : Nat -> Prop} {w : World} {x0 : Option Addr} (h : TyAt ids F w (.pointer x0) t) :
    callC Tryz.prog 11 #[.pointer x0] w fun v w' => v = .int .i64 (check t) /\ Upd No w w' := by
  have hn := ty_isNone h; refine tCheck_text _ _ _ ?_; rw [hn]; unfold check; refine brC_intro (fun h1 => ⟨by rw [if_pos h1], Upd.refl _ _⟩) fun h1 => ?_; rw [if_neg (by rw [h1]; simp)]; refine callC_of (tSize_spec h) fun v w1 ⟨e, u1⟩ => ⟨_, e, brC_intro (fun h2 => ⟨?_, u1⟩) fun h2 => ?_⟩
  . have h2 := of_decide_eq_true h2; rw [if_pos (by omega)]
  . have h2 := of_decide_eq_false h2; rw [if_neg (by omega)]; refine callC_of (tmay_spec t (by omega) F w1 x0 (h.keep u1)) fun v w4 ⟨e, u4⟩ => ⟨_, e, brC_intro (fun h3 => ⟨?_, up u1 u4⟩) fun h3 => ⟨?_, up u1 u4⟩⟩
    . have h3 : may t = false := by simpa using h3
      rw [if_neg (by rw [h3]; simp)]
    . have h3 : may t = true := by simpa using h3
      rw [if_pos h3]
theorem check_zero {t : T} (h : check t = 0) : may t = true /\ size t <= 60 := by
  unfold check at h; split at h
  . cases h
  . split at h
    . cases h
    . split at h
      . exact ⟨by assumption, by omega⟩
      . cases h
theorem tText_spec {t : T} {F : Nat -> Prop} {w : World} {x0 : Option Addr} (h : TyAt ids F w (.pointer x0) t) :
    callC Tryz.prog 15 #[.pointer x0] w fun v w' => v = .string (bs (text t)) /\ Upd No w w' := by
  refine tText_text _ _ _ (callC_of (tCheck_spec h) fun v w1 ⟨e, u1⟩ => ⟨_, e, brC_intro (fun h1 => ⟨?_, u1⟩) fun h1 => ?_⟩)
  . have h1 : check t ≠ 0 := by simpa using h1
    unfold text; rw [if_neg h1]; rfl
  . have h1 : check t = 0 := by simpa using h1
    obtain ⟨hm, hs⟩ := check_zero h1; refine callC_of (twrite_spec hm hs (h.keep u1)) fun v w4 ⟨e, u4⟩ => ⟨_, e, ?_, up u1 u4⟩; unfold text; rw [if_pos h1]
theorem tall_spec {F : Nat -> Prop} {w : World} {p : Option Addr} {n c : Nat} {l : List T} (h : TyRow ids F w (.slice p n c) l) :
    callC Tryz.prog 150 #[.slice p n c] w fun v w' => v = .bool (l.all fun t => check t == 0) /\ Upd No w w' := by
  refine tall_text _ _ _ _ _ (callC_of (cfT_spec (f := fun t => check t != 0) (D := fun _ => True) h (fun F w q t _ ht => inv_all1 (tall1_text _ _ _ (callC_of (tCheck_spec ht) fun v w' ⟨e, u⟩ => ⟨_, e, rfl, u⟩))) fun _ _ => trivial) fun v w1 ⟨e, u1⟩ => ⟨_, e, ?_, u1⟩); rw [not_any]
  congr 1
  congr 1
  funext a
  simp [bne]
theorem tFun_spec {l : List T} {r : T} {F : Nat -> Prop} {w : World} {p : Option Addr} {n c : Nat} {x1 : Option Addr} (h : TyRow ids F w (.slice p n c) l) (hl : l.length <= 1000000) (hr : TyAt ids F w (.pointer x1) r) :
    callC Tryz.prog 96 #[.slice p n c, .pointer x1] w fun v w' => ∃ q : Option Addr, v = .tuple #[.pointer q, .int .i64 (funF l r).2] /\ TyAt ids (With F w.heap.size) w' (.pointer q) (funF l r).1 /\ Upd No w w' := by
  refine tFun_text _ _ _ _ _ _ ⟨fun w' => Upd No w w' /\ (allOk l && check r == 0) = true, ?_, fun b w' => Upd No w w' /\ b = !(allOk l && check r == 0), ?_, ?_⟩
  . rintro w1 ⟨u1, hok⟩ _; have eF : funF l r = fits (.mk 8 .empty [] l r) := by unfold funF; rw [if_pos hok]
    rw [eF]; have hw := u1.size; obtain ⟨vs, h1, h2, h3⟩ := (h.keep u1).mono (G := fun b => F b /\ b < w1.heap.size) fun b hb hf => ⟨hf, hb⟩; have el := h3.length; refine callC_of (cloT_of (clo_rule (K := fun v w4 => ∃ p' n' c', v = .slice p' n' c' /\ Own w1.heap.size w4 ids.ptr p' n' c' vs /\ Upd No w1 w4) elemTyp (by omega) h1 (one_typs h3) (by omega) fun p' n' c' w4 o u => ⟨p', n', c', rfl, o, u⟩)) fun v w4 ⟨p', n', c', e, o, u4⟩ => ⟨p', n', c', e, newC_mk fun w9 B9 u9 s9 => ?_⟩; have hs4 := u4.size
    have hT : TyAt ids (With F w.heap.size) w9 (.pointer (some ⟨w4.heap.size, 0, none⟩)) (.mk 8 .empty [] l r) := by
      refine mkTy (nv := .slice none 0 0) (av := .slice p' n' c') (rv := .pointer x1) B9 (.inr (by omega)) (RowAt.nil _ _ _) (fun b hb => (no_in b hb).elim) (o.row.upd u9 fun _ _ x => x) (fun b hb => .inr (by have := o.own b hb; omega))
        ((h3.keep (up u4 u9)).mono fun b _ hb => .inl hb.1) ?_
      exact ((hr.keep (up u1 (up u4 u9))).mono fun b _ hb => .inl hb)
    exact callC_of (tfits_spec hT) fun v w15 ⟨q, e, hq, u15⟩ => ⟨_, _, e, q, rfl, hq, up (up (up u1 u4) u9) u15⟩
  . rintro b w' ⟨u, rfl⟩ _; refine brC_intro (fun hb => ?_) fun hb => ⟨u, by simpa using hb⟩
    have eF : funF l r = (.nil, 2) := by
      unfold funF; rw [if_neg (by intro h; rw [h] at hb; cases hb)]
    rw [eF]; exact ⟨none, rfl, rfl, u⟩
  . refine callC_of (tall_spec h) fun v w23 ⟨e, u23⟩ => ⟨_, e, brC_intro (fun hb => ⟨u23, ?_⟩) fun hb => newC_mk fun w24 B24 u24 s24 => ?_⟩
    . have hb : allOk l = false := by unfold allOk; simpa using hb
      rw [hb]; rfl
    . have hb : allOk l = true := by unfold allOk; simpa using hb
      have u := up u23 u24
      have hrow : TyRow ids (With F w.heap.size) w24 (.slice (some ⟨w23.heap.size, 0, none⟩) 1 1) [r] :=
        ⟨[.pointer x1], row_one B24, (fun b hb => .inr (by have := u23.size; simp [InRow, Value.ownBlock] at hb; omega)), (hr.keep u).mono (fun b _ hb => .inl hb), trivial⟩
      refine callC_of (tall_spec hrow) fun v w26 ⟨e, u26⟩ => ⟨_, e, up u u26, ?_⟩; rw [hb]; simp
end Go.Proofs.YtdbkclnlfibgdaaGreatDoor
namespace Go.Proofs.YtdbkclnlfibgdaaGreatDoor
open Go.SX Go.Ty Go.RowKit Go.Shelf
theorem strs_lt {w : World} {p : Option Addr} {xs : List ByteArray} (h : StrsAt w p xs) {i : Nat} (hi : i < xs.length) : ∃ a : Addr, p = some a /\ w.cell? (Addr.add a (i * 1)) = some (.string xs[i]) /\ (Addr.add a (i * 1)).block < w.heap.size := by
  obtain ⟨a, e, hc⟩ := h i hi; refine ⟨a, e, hc, ?_⟩; rcases Nat.lt_or_ge (Addr.add a (i * 1)).block w.heap.size with h | h
  . exact h
  . unfold World.cell? at hc; rw [Array.getElem?_eq_none h] at hc; cases hc
theorem val_stops {n tb : Nat} {xs : List ByteArray} {p : Option Addr} {nn c : Nat} {w0 w : World} (hS : StrsAt w0 p xs) (hnn : nn = xs.length) (hxs : xs.length <= 1000000) (u0 : Upd No w0 w)
    (htb : w.cell? ⟨tb, 0, none⟩ = some (.slice p nn c)) :
    SeqStopsK Fence.wide n Tryz.prog 192 #[.pointer (some ⟨tb, 0, none⟩)] (fun s : ByteArray => #[Value.string s]) (Below w0.heap.size) (fun ys => ys = xs) (fun _ => True) xs.length w := by
  intro l J Jx W hbw hJ hJx hY hj; subst hnn; have u : Upd No w W := upd_of_below hbw; have hSW := strs_keep hS (up u0 u)
  have key : callC Tryz.prog 192 #[.func (.yield l) #[] #[], .pointer (some ⟨tb, 0, none⟩)] W fun v W' => J xs W' \/ ∃ q, Jx q W' := by
    refine tval1_text _ _ _ _ _ _ _ ⟨_, _, _, cell_keep htb u, fun m W' => ∃ i : Nat, m = i /\ i <= xs.length /\ Below w0.heap.size W W' /\ J (xs.take i) W', fun m _ => (xs.length - m).toNat, ⟨0, rfl, Nat.zero_le _, Below.refl _ _, hj⟩, ?_⟩; rintro m W1 ⟨i, rfl, hi, hb1, hj1⟩ _; refine brC_intro (fun hlt => ?_) fun hge => ?_
    . have hlt : i < xs.length := by have := of_decide_eq_true hlt; omega
      obtain ⟨g, rfl, hc0, hg⟩ := strs_lt hS hlt; have hc : W.cell? (Addr.add g (i * 1)) = some (.string xs[i]) := cell_keep hc0 (up u0 u); have hc1 : W1.cell? (Addr.add g (i * 1)) = some (.string xs[i]) := by rw [hb1.cell hg, hc]
      refine ⟨by omega, by omega, ptrC_some ⟨xs[i], by rw [Int.toNat_natCast]; exact hc1, ?_⟩⟩; refine yldC_of (yield_any (hY (xs.take i) xs[i] W1 hj1 (by rw [List.length_take]; omega))) fun e W2 hk => ?_; rw [<- List.take_succ_eq_append_getElem hlt] at hk; rcases hk with ⟨rfl, hj2, hb2⟩ | ⟨rfl, hx⟩
      . refine ⟨_, rfl, _, rfl, brC_ff rfl ?_⟩; rw [wrap_succ (by omega)]; exact ⟨⟨i + 1, rfl, hlt, hb1.trans hb2, hj2⟩, by dsimp only; omega⟩
      . exact ⟨_, rfl, _, rfl, brC_tt rfl (.inr ⟨_, hx⟩)⟩
    . have hi : i = xs.length := by have := of_decide_eq_false hge; omega
      rw [hi, List.take_length] at hj1; exact .inl hj1
  refine callsIn_wide.2 (Calls.mono key fun e W' h => ?_)
  cases e with
  | returned v => exact ⟨⟨v, rfl⟩, h.elim (fun h => .inl ⟨xs, rfl, h⟩) fun ⟨q, h⟩ => .inr ⟨q, trivial, h⟩⟩
  | _ => exact h.elim
attribute [local go_sem] Oper.semAt_some
theorem rowN_kept {W W' : World} {row : Option Nat} {base : Nat} {e : TypeId} {v : Value} {k : Nat} {xs : List Value} (h : W.ownsRow base e 1 v k xs) (hg : W.grownBy W' row)
    (hr : ∀ r, row = some r -> ∃ o : Obj, W.heap[r]? = some o /\ o.isCells = false) : W'.ownsRow base e 1 v k xs := by
  refine h.kept hg ?_; rcases h.2 with ⟨rfl, _⟩ | ⟨g, cap, cur, rfl, _, hgb, _⟩
  . exact .inl rfl
  . refine .inr fun e' => ?_; obtain ⟨o, ho, hw⟩ := hr g (by simpa [Value.ownBlock] using e'.symm); rw [hgb] at ho; cases ho; cases hw
theorem rowN_ne {W : World} {base : Nat} {e : TypeId} {size : Nat} {v : Value} {k : Nat} {xs : List Value} (h : W.ownsRow base e size v k xs) {j : Nat} {cs : Array Value} {t : TypeId} (hj : Blk W j cs t) (hno : t ≠ e) :
    v.ownBlock = none \/ v.ownBlock ≠ some j := by
  rcases h.2 with ⟨rfl, _⟩ | ⟨g, cap, cur, rfl, _, hgb, _⟩
  . exact .inl rfl
  . refine .inr fun e' => ?_; have : g = j := by simpa [Value.ownBlock] using e'
    subst this; rw [show W.heap[g]? = some (.cells cs t (0, 0)) from hj] at hgb; cases hgb; exact hno rfl
theorem rowN_cells {W : World} {base : Nat} {e : TypeId} {size : Nat} {v : Value} {k : Nat} {xs : List Value} (h : W.ownsRow base e size v k xs) : ∀ (j : Nat) (o : Obj), v.ownBlock = some j -> W.heap[j]? = some o -> o.isCells = true := by
  intro j o hj ho; rcases h.2 with ⟨rfl, _⟩ | ⟨g, cap, cur, rfl, _, hgb, _⟩
  . simp [Value.ownBlock] at hj
  . have : g = j := by simpa [Value.ownBlock] using hj
    subst this; rw [hgb] at ho; cases ho; rfl
theorem grown_set (W : World) (b : Nat) (v : Value) : W.grownBy (W.setCell ⟨b, 0, none⟩ v) (some b) :=
  ⟨rfl, rfl, rfl, (KeepsOthers.setCell W _ v).size, fun k _ hk => Below.heap_setCell _ _ _ k (fun e => hk (by rw [e]))⟩
theorem append_in {xs : List ByteArray} (hN : xs.length <= 1000000) {tb : Nat} {w : World}
    (hseq : ∀ n W, Upd No w W -> SeqStopsK Fence.wide n Tryz.prog 192 #[.pointer (some ⟨tb, 0, none⟩)] (fun s : ByteArray => #[Value.string s]) (Below w.heap.size) (fun ys => ys = xs) (fun _ => True) xs.length W) :
    CallsIn Fence.wide 5 Tryz.prog 212 #[.slice none 0 0, .func (.func 192) #[] #[.pointer (some ⟨tb, 0, none⟩)]] w
      fun e w' => ∃ v, e = .returned v /\ w'.ownsRow (w.heap.size + 1) 9 1 v xs.length (xs.map Value.string) /\ Below w.heap.size w w' := by
  have hB1 : Blk (w.alloc (.cells #[.slice none 0 0] 53)) w.heap.size #[.slice none 0 0] 53 := blk_alloc _ _ _; have u1 : Upd No w (w.alloc (.cells #[.slice none 0 0] 53)) := upd_alloc _ _; refine callsIn_of_wp_marks Tryz.func212 rfl trivial ?_ rfl; simp only [Tryz.ntmps212, List.size_toArray, List.length_cons, List.length_nil, Nat.reduceAdd, Nat.reduceSub, Array.replicate_succ, Array.replicate_zero, List.push_toArray, List.append_toArray, List.nil_append, List.cons_append]
  gi_wp2
  refine wpIn_rangeFunc_ownF rfl (by omega) (gf := 192) (lb := #[.pointer (some ⟨tb, 0, none⟩)]) rfl trivial (enters_of Tryz.func192 (by kernel_rfl) rfl)
    (hseq _ _ u1) (fun h k => h.trans k) (fun W l o o' hl ho hc hw => ?kb) (Below.refl _ _) (fun _ => rfl)
    (fun pre W => ∃ v, Blk W w.heap.size #[v] 53 /\ W.ownsRow (w.heap.size + 1) 9 1 v pre.length (pre.map Value.string) /\ pre.length <= xs.length /\ Below w.heap.size w W)
    (fun c pre W => False)
    ?own ?ownx ?start
    (fun x => { tmps := #[.slice none 0 0, .func (.func 192) #[] #[.pointer (some ⟨tb, 0, none⟩)], .pointer (some ⟨w.heap.size, 0, none⟩), undef, .slice none 0 0, .string x, .func (.func 192) #[] #[.pointer (some ⟨tb, 0, none⟩)], .string x, undef, undef, undef, undef, undef], defers := [] }) ?assign ?body ?done ?stop
  case kb =>
    have hl : w.heap.size <= l := by simp at hl; omega
    exact (Below.refl _ _).grown (grownBy_putObj' W l o') (by have : l < W.heap.size := (Array.getElem?_eq_some_iff.1 ho).1; omega) fun k e => by cases e; exact hl
  case own =>
    rintro s A B row ⟨v, h1, h2, h3, h4⟩ hg hr; refine ⟨v, blk_own (n₀ := w.heap.size + 1) h1 hg (fun r e => ⟨by have := (hr r e).1; simpa using this, (hr r e).2⟩), rowN_kept h2 hg (fun r e => (hr r e).2), h3, ?_⟩; exact ownFrom_below (β := List ByteArray) (B := w.heap.size) (w₀ := w) (Nat.le_refl _) (Nat.le_refl _) s A B row h4 hg fun r e => ⟨by have := (hr r e).1; simp at this; omega, (hr r e).2⟩
  case ownx => intro c s A B row h _ _; exact h
  case start => exact ⟨_, hB1, ⟨rfl, .inl ⟨rfl, rfl⟩⟩, Nat.zero_le _, below_of_upd u1⟩
  case assign =>
    intro l x W K hK
    gi_wp2
    simpa using hK
  case body =>
    rintro l pre x W ⟨v, hB, hrow, hl, hb⟩ hlt; obtain ⟨hc, hf⟩ := box_cell hB; obtain ⟨i0, hi1, hi2, hi3, hi4⟩ := info_get (P := Tryz.prog) (e := 9) (s := 1) (b := 16) (z := .string ByteArray.empty) (by kernel_rfl); have hBl : w.heap.size < W.heap.size := hB.lt
    gi_wp2_with (first
      | (gi_at_builtin
         refine wpListIn_append_own _ rfl _ _ 53 rfl (w.heap.size + 1) 9 i0 (.string ByteArray.empty) 1 16 elemStr.ut hi1 hi2 hi3 hi4 rfl (by decide) v pre.length (pre.map Value.string) ?k1 ?k2 ⟨W.heap.size, 0, none⟩ 1 1 [.string x] ?k3 ?k4 ?k5 ?k6 ?k7 ?k8 ?k9 ?k10
         case k1 => rfl
         case k2 => exact hrow.alloc _
         case k3 => rfl
         case k4 => rfl
         case k5 => exact cell_one_new _ _ _
         case k6 => simp [Value.oneCell']
         case k7 => simp only [maxLen]; omega
         case k8 => omega
         case k9 => simp; omega
         intro v' w3 hown' hg3 hnil3
         obtain ⟨g', cap', cur', rfl, hbase', hgb', hr1, hr2, hr3, hr4⟩ : ∃ g' cap' cur', v' = .slice (some ⟨g', 0, none⟩) (pre.length + 1) cap' /\ w.heap.size + 1 <= g' /\ w3.heap[g']? = some (.cells cur' 9 (0, 0)) /\ pre.length + 1 <= cap' /\ cap' <= maxLen /\ cur'.size = cap' * 1 /\ cur'.toList.take ((pre.length + 1) * 1) = pre.map Value.string ++ [.string x] := by
           rcases hown'.2 with ⟨_, h0⟩ | h'
           . exact absurd h0 (by omega)
           . exact h'
         have hB3 : Blk w3 w.heap.size #[v] 53 := by
           show w3.heap[w.heap.size]? = _; refine (hg3.block w.heap.size (by simp; omega) ?_).trans ((Below.heap_alloc _ _ _ hBl).trans hB); rcases rowN_ne hrow hB (by decide) with e | e
           . rw [e]; simp
           . exact fun e' => e e'.symm
         obtain ⟨hc3, hf3⟩ := box_cell hB3; simp only [Act.put, List.setIfInBounds_toArray, List.set_cons_succ, List.set_cons_zero])
      | gi_in)
    have hw3 : W.heap.size <= w3.heap.size := by have := hg3.size; simp at this; omega
    have k3 : Below w.heap.size W w3 := ((Below.refl w.heap.size W).alloc (by omega) _).grown hg3 (by simp; omega) fun k e => by have := (hrow.lt k e).1; omega
    refine ⟨((KeepsOthers.alloc _ _).trans (KeepsOthers.of_grownBy hg3 fun j o e ho => rowN_cells (hrow.alloc _) j o e ho)).trans (KeepsOthers.setCell _ _ _), k3.setCell (p := ⟨w.heap.size, 0, none⟩) (Nat.le_refl _) _, _, hB3.set 0 _, ?_, by rw [List.length_append]; simp; omega, (hb.trans k3).setCell (p := ⟨w.heap.size, 0, none⟩) (Nat.le_refl _) _⟩; have := hown'.kept (grown_set w3 w.heap.size (.slice (some ⟨g', 0, none⟩) (pre.length + 1) cap')) (rowN_ne hown' hB3 (by decide)); rw [List.map_append, List.length_append]; exact this
  case done =>
    rintro D ys W hD hS ⟨v, hB, hrow, hl, hb⟩ hK; obtain ⟨hc, hf⟩ := box_cell hB; have hD' : w.heap.size <= D := by simp at hD; omega
    gi_wp2
    refine ⟨by simp, .inl ⟨_, _, rfl, run_takeDeferred hK, ?_⟩⟩; subst hS; refine ⟨_, results_tmp rfl _ _ _, v, rfl, rowN_kept hrow (grownBy_putObj' W D _) (fun r e => by cases e; exact ⟨_, hK, rfl⟩), ownFrom_below (β := Unit) (B := w.heap.size) (w₀ := w) (Nat.le_refl _) (Nat.le_refl _) () W _ (some D) hb (grownBy_putObj' W D _) fun r e => by cases e; exact ⟨hD', _, hK, rfl⟩⟩
  case stop =>
    rintro D c pre W hD hS h hK; exact h.elim
end Go.Proofs.YtdbkclnlfibgdaaGreatDoor
namespace Go.Proofs.YtdbkclnlfibgdaaGreatDoor
open Go.SX Go.Ty Go.RowKit Go.Shelf Go.Sort
theorem sorted_upd {α : Type} [Inhabited α] (enc : α -> Value) (w : World) (g o m : Nat) (d : Array α) (os : Array Obj) : Upd (fun b => b = g) w (grow (putRow enc (Sort.ahead w m) g o d) os) := by
  refine ⟨rfl, rfl, rfl, by simp [grow, putRow, mapBlock, Sort.ahead], fun k hk hne => ?_⟩; rw [heap_grow_old _ _ (by simpa [putRow, mapBlock, Sort.ahead] using hk)]; have : g ≠ k := fun e => hne e.symm; simp [putRow, mapBlock, Sort.ahead, Array.getElem?_modify, this]
theorem sorted_blk {α : Type} [Inhabited α] (enc : α -> Value) {w : World} {g o m : Nat} (d : Array α) (os : Array Obj) {cur : Array Value} {e : TypeId} (h : Blk w g cur e) : Blk (grow (putRow enc (Sort.ahead w m) g o d) os) g (putCells enc o d cur) e := by
  have hg := h.lt; show (grow (putRow enc (Sort.ahead w m) g o d) os).heap[g]? = _; rw [heap_grow_old _ _ (by simpa [putRow, mapBlock, Sort.ahead] using hg)]; have hb : w.heap[g]? = some (.cells cur e (0, 0)) := h; simp [putRow, mapBlock, Sort.ahead, Array.getElem?_modify, hb, onCells]
theorem sorted_row {α : Type} [Inhabited α] (enc : α -> Value) {w : World} {g o n c m : Nat} {e : TypeId} {xs : List Value} (h : RowAt w e 1 (.slice (some ⟨g, o, none⟩) n c) xs) (d : Array α) (hd : d.size = n) (os : Array Obj) :
    RowAt (grow (putRow enc (Sort.ahead w m) g o d) os) e 1 (.slice (some ⟨g, o, none⟩) n c) (d.toList.map enc) := by
  obtain ⟨n', hl, ⟨e0, rfl⟩ | ⟨g', o', cap, cur, e0, hg, h1, h2, h3, h4⟩⟩ := h
  . cases e0
  . cases e0; refine ⟨n, by simp [hd], .inr ⟨g, o, c, _, rfl, sorted_blk enc d os hg, h1, h2, by simpa [putCells] using h3, ?_⟩⟩; apply List.ext_getElem?; intro j; rw [Nat.mul_one, List.getElem?_take]
    by_cases hj : j < n
    . rw [if_pos hj, List.getElem?_drop, Array.getElem?_toList]; have hjd : j < d.size := by omega
      have hc : o + j < cur.size := by omega
      simp [putCells, hc, hd, hj, hjd]
    . rw [if_neg hj, List.getElem?_eq_none (by simp; omega)]
theorem row_holds {α : Type} [Inhabited α] (enc : α -> Value) {w : World} {g o n c : Nat} {e : TypeId} (d : Array α) (h : RowAt w e 1 (.slice (some ⟨g, o, none⟩) n c) (d.toList.map enc)) : Holds enc w g o d := by
  intro j hj; obtain ⟨g', o', e0, hc⟩ := h.get (j := j) (by simpa using hj); cases e0; refine ⟨?_, ?_⟩
  . rw [hc]; simp [hj]
  . obtain ⟨n', hl, ⟨e0, rfl⟩ | ⟨g', o', cap, cur, e0, hg, _⟩⟩ := h
    . cases e0
    . cases e0; exact hg.frozen _
def sortB (l : List ByteArray) : List ByteArray := ((l.map txt).mergeSort (fun x y => decide (x <= y))).map bs
theorem sort_spec {n1 : Nat} {w : World} {p : Option Addr} {n c : Nat} {l : List ByteArray} (h : Own n1 w 9 p n c (l.map Value.string)) (hl : l.length <= 1000000) :
    callC Tryz.prog 191 #[.slice p n c] w fun v w' => v = .tuple #[] /\ Own n1 w' 9 p n c ((sortB l).map Value.string) /\ Upd (InRow (.slice p n c)) w w' := by
  have hlen := h.len; rw [List.length_map] at hlen
  cases p with
  | none =>
    obtain ⟨hx, rfl, rfl⟩ := row_none h.row; have : l = [] := by simpa using hx
    subst this
    exact callC_of_calls (AnyM.slices_Sort_string_none Tryz.sort83 none 0 w) fun e w' ⟨he, hw⟩ => by
      subst hw; exact ⟨_, he, rfl, by simpa [sortB] using h, Upd.refl _ _⟩
  | some a =>
    obtain ⟨g, o, rfl⟩ : ∃ g o, a = ⟨g, o, none⟩ := by
      obtain ⟨n', hl, ⟨e0, rfl⟩ | ⟨g', o', cap, cur, e0, hg, _⟩⟩ := h.row
      . cases e0
      . cases e0; exact ⟨_, _, rfl⟩
    have e1 : l.map Value.string = ((l.map txt).toArray.toList).map encStr := by
      simp only [List.map_map]; exact List.map_congr_left fun s _ => congrArg Value.string (bs_txt s).symm
    have hrow := h.row; rw [e1] at hrow; have hg : g < w.heap.size := h.row.lt rfl; have hn : n = (l.map txt).length := by rw [List.length_map]; exact hlen
    have key := AnyM.slices_Sort_string Tryz.sort83 g o c (l.map txt) w (row_holds encStr _ hrow) hg (by rw [List.length_map]; omega); rw [<- hn] at key; refine callC_of_calls key fun e w' ⟨he, m, os, hw⟩ => ⟨_, he, rfl, ⟨?_, h.own, ?_, h.cap⟩, ?_⟩
    . subst hw; have := sorted_row encStr (m := m) h.row ((l.map txt).mergeSort (fun x y => decide (x <= y))).toArray (by simp [hlen]) os
      have e2 : (sortB l).map Value.string = ((l.map txt).mergeSort (fun x y => decide (x <= y))).toArray.toList.map encStr := by
        unfold sortB; rw [List.map_map]; rfl
      rw [e2]; exact this
    . simp [sortB, hlen]
    . subst hw; exact (sorted_upd encStr w g o m _ os).mono fun b _ (e : b = g) => by simp [InRow, Value.ownBlock, e]
theorem sorted_names {w : World} {p : Option Addr} {n c : Nat} {l : List ByteArray} (h : StrsAt w p l) (hn : n = l.length) (hl : l.length <= 1000000) {K : KV}
    (hk : ∀ p' n' c' w', Own w.heap.size w' 9 p' n' c' ((sortB l).map Value.string) -> Upd No w w' -> K (.slice p' n' c') w') :
    callC Tryz.prog 153 #[.slice p n c] w fun v w1 => callC Tryz.prog 152 #[v] w1 K := by
  refine tvals_text _ _ _ _ _ (newC_mk fun w1 B1 u1 s1 => ?_); have h1 := strs_keep h u1; refine tsorted_text _ _ _ (callC_of (tcollect_text _ _ (fun v w2 => ∃ p' n' c', v = .slice p' n' c' /\ Own w.heap.size w2 9 p' n' c' (l.map Value.string) /\ Upd No w w2) ?_) fun v w2 ⟨p', n', c', e, o, u2⟩ => ⟨p', n', c', e, ?_⟩)
  . have := append_in (xs := l) hl (tb := w.heap.size) (w := w1) fun n W u => val_stops (w0 := w1) h1 hn hl u (cell_keep (B1.cell rfl) u); refine callC_of_calls (callsIn_wide.1 this) fun e w2 ⟨v, he, ho, hb⟩ => ⟨v, he, ?_⟩
    have hr : RowAt w2 9 1 v (l.map Value.string) := by
      obtain ⟨hl, ⟨rfl, _⟩ | ⟨g, cap, cur, rfl, hb, hg, hn, hc, hs, ht⟩⟩ := ho
      . exact ⟨0, by omega, .inl ⟨rfl, rfl⟩⟩
      . exact ⟨l.length, hl, .inr ⟨g, 0, cap, cur, rfl, hg, hn, hc, by omega, by simpa using ht⟩⟩
    obtain ⟨p', n', c', rfl, q1, q2, q3⟩ := hr.shape; refine ⟨p', n', c', rfl, p', n', c', rfl, ⟨hr, fun b hb' => ?_, by omega, q2, q3⟩, up u1 (upd_of_below hb)⟩; obtain ⟨_, ⟨e, _⟩ | ⟨g, cap, cur, e, hb2, _⟩⟩ := ho
    . cases e; cases hb'
    . cases e; have : b = g := by simpa [InRow, Value.ownBlock] using hb'.symm
      omega
  . refine callC_of (sort_spec o hl) fun v w6 ⟨e, o6, u6⟩ => ⟨e, hk _ _ _ _ o6 ?_⟩; exact u2.trans u6 fun x hx hb => by have := o.own x hb; omega
end Go.Proofs.YtdbkclnlfibgdaaGreatDoor
namespace Go.Proofs.YtdbkclnlfibgdaaGreatDoor
open Go.SX Go.Ty
theorem runR_of {α : Type} {e : Sem α} {w : World} {K : α -> Prop} {v : α} (h : e.run Tryz.prog w = .ok v w) (hk : K v) : runR Tryz.prog e (some w) K := ⟨v, hk, fun w' hw => by cases hw; exact h⟩
theorem und58 : Tryz.prog.underlying 86 = some (.map 9 29) := by kernel_rfl
theorem undS : Tryz.prog.underlying 9 = some .string := by kernel_rfl
def putAt (f : Value -> Value) (n : ByteArray) (v : Value) : Value -> Value
  | .string s => if s = n then v else f (.string s)
  | x => f x
def Filled (ns : List ByteArray) (vs : List Value) (i : Nat) (ks : List ByteArray) (f : Value -> Value) : Prop :=
  ((ns.take i).Nodup /\ ks = ns.take i /\ ∀ j, (h : j < ns.length) -> j < i -> vs[j]? = some (f (.string ns[j]))) \/ (¬ (ns.take i).Nodup /\ ks.length < i)
theorem nodup_takeS {ns : List ByteArray} {i : Nat} (hi : i < ns.length) : (ns.take (i + 1)).Nodup ↔ (ns.take i).Nodup /\ ns[i] ∉ ns.take i := by
  rw [List.take_succ_eq_append_getElem hi, List.nodup_append]; constructor
  . rintro ⟨h1, _, h3⟩; exact ⟨h1, fun h => h3 _ h _ (by simp) rfl⟩
  . rintro ⟨h1, h2⟩; refine ⟨h1, by simp, fun a ha b hb e => ?_⟩; rw [List.mem_singleton] at hb; subst hb; subst e; exact h2 ha
theorem mem_strs {p : ByteArray} {ps : List ByteArray} : Value.string p ∈ ps.map Value.string ↔ p ∈ ps := by simp
def atName : List ByteArray -> List T -> ByteArray -> T
  | n :: ns, t :: l, s => if n = s then t else atName ns l s
  | _, _, _ => .nil
theorem atName_get : ∀ {ns : List ByteArray} {l : List T}, ns.Nodup -> (hl : ns.length = l.length) -> ∀ {j : Nat} (hj : j < ns.length), atName ns l ns[j] = l[j]'(by omega)
  | n :: ns, t :: l, hn, hl, 0, hj => by simp [atName]
  | n :: ns, t :: l, hn, hl, j + 1, hj => by
    rw [List.nodup_cons] at hn; have hj' : j < ns.length := by simpa using hj
    have : n ≠ ns[j] := fun e => hn.1 (e ▸ List.getElem_mem hj'); simp only [List.getElem_cons_succ, atName]; rw [if_neg this]; exact atName_get hn.2 (by simpa using hl) hj'
  | [], _, _, _, _, hj => by simp at hj
  | _ :: _, [], _, hl, _, _ => by simp at hl
theorem zip_atName {ns : List ByteArray} {l : List T} (hn : ns.Nodup) (hl : ns.length = l.length) : ns.zip l = ns.map fun s => (s, atName ns l s) := by
  apply List.ext_getElem
  . simp [hl]
  . intro j h1 h2; have hj : j < ns.length := by simpa using h2
    simp only [List.getElem_zip, List.getElem_map]; rw [atName_get hn hl hj]
theorem leB_total (a b : List UInt8) : (decide (a <= b) || decide (b <= a)) = true := by
  rcases List.le_total a b with h | h <;> simp [h]
theorem sortB_perm (l : List ByteArray) : (sortB l).Perm l := by
  unfold sortB; have := (List.mergeSort_perm (l.map txt) (fun x y => decide (x <= y))).map bs; refine this.trans ?_; rw [List.map_map]; have : (bs ∘ txt) = id := by funext s; exact bs_txt s
  rw [this, List.map_id]
theorem sortB_sorted {l : List ByteArray} (hn : l.Nodup) : (sortB l).Pairwise fun a b => txt a < txt b := by
  have h2 : (sortB l).Nodup := (sortB_perm l).nodup_iff.2 hn
  have h1 : (sortB l).Pairwise fun a b => txt a <= txt b := by
    unfold sortB; rw [List.pairwise_map]; have := List.pairwise_mergeSort (le := fun x y : List UInt8 => decide (x <= y)) (fun a b c h1 h2 => by simpa using List.le_trans (by simpa using h1) (by simpa using h2)) leB_total (l.map txt); refine this.imp fun {a b} h => ?_; rw [txt_bs, txt_bs]; simpa using h
  refine (h1.and h2).imp fun {a b} ⟨h1, h2⟩ => ?_
  by_cases h4 : txt a < txt b
  . exact h4
  . exact absurd (List.le_antisymm h1 (List.not_lt.1 h4)) fun x => h2 (txt_inj x)
theorem sortP_names_eq {ns : List ByteArray} {l : List T} (hn : ns.Nodup) (hl : ns.length = l.length) : sortP (ns.zip l) = (sortB ns).map fun s => (s, atName ns l s) := by
  refine sortP_eq ?_ ?_ (by rw [(fst_zip hl).1]; exact hn)
  . rw [zip_atName hn hl]; exact (sortB_perm ns).map _
  . show List.Pairwise _ _; rw [List.pairwise_map]; exact sortB_sorted hn
theorem inv_rec1 {q : ByteArray} {w : World} {K : KV} (h : callC Tryz.prog 151 #[.string q] w K) : invC Tryz.prog (.func (.func 151) #[] #[]) #[.string q] w K := of_eq h (by kernel_rfl)
theorem tRec_spec {ns : List ByteArray} {l : List T} {F : Nat -> Prop} {w : World} {p0 : Option Addr} {n0 c0 : Nat} {p : Option Addr} {n c : Nat} (hN : StrsAt w p0 ns) (hn0 : n0 = ns.length) (h : TyRow ids F w (.slice p n c) l) (hl : l.length <= 1000000) :
    callC Tryz.prog 94 #[.slice p0 n0 c0, .slice p n c] w fun v w' => ∃ q : Option Addr, v = .tuple #[.pointer q, .int .i64 (recF ns l).2] /\ TyAt ids (With F w.heap.size) w' (.pointer q) (recF ns l).1 /\ Upd No w w' := by
  obtain ⟨en, hc1, hc2, _⟩ := h.get; subst hn0; subst en; simp only [maxLen] at hc2; refine tRec_text _ _ _ _ _ _ _ _ ⟨fun w' => Upd No w w' /\ ns.length = l.length /\ allOk l = true /\ (ns.all fun n => fieldL (txt n)) = true, ?_, fun b w' => Upd No w w' /\ ((b = true /\ recF ns l = (.nil, 2)) \/ (b = false /\ ns.length = l.length /\ allOk l = true /\ (ns.all fun n => fieldL (txt n)) = true)), ?_, ?_⟩
  rotate_left
  . rintro b w' ⟨u, ⟨rfl, hf⟩ | ⟨rfl, hh⟩⟩ _
    . refine brC_tt rfl ?_; rw [hf]; exact ⟨none, rfl, rfl, u⟩
    . exact brC_ff rfl ⟨u, hh⟩
  . refine brC_intro (fun hne => ⟨Upd.refl _ _, .inl ⟨rfl, rec_not fun hx => ?_⟩⟩) fun heq => ?_
    . rw [hx.1] at hne; simp at hne
    have heq : ns.length = l.length := by have : (ns.length : Int) = l.length := by simpa using heq
                                          omega
    refine callC_of (tall_spec h) fun v w67 ⟨e, u67⟩ => ⟨_, e, brC_intro (fun hb => ⟨u67, .inl ⟨rfl, rec_not fun hx => ?_⟩⟩) fun hb => ?_⟩
    . have := hx.2.1; unfold allOk at this; rw [this] at hb; cases hb
    have hok : allOk l = true := by unfold allOk; simpa using hb
    have hN67 := strs_keep hN u67; refine callC_of (cfS_spec (f := fun s => !(fieldL (txt s))) (D := fun _ => True) hN67 rfl (by simp only [maxLen]; omega) (fun w s _ => inv_rec1 (tRec1_text _ _ _ (callC_of (tfield_spec s w) fun v w' ⟨e, u⟩ => ⟨_, e, rfl, u⟩))) fun _ _ => trivial) fun v w70 ⟨e, u70⟩ => ⟨_, e, up u67 u70, ?_⟩; have hna := not_any (fun s => !(fieldL (txt s))) ns; simp only [Bool.not_not] at hna
    cases hany : (ns.any fun s => !(fieldL (txt s))) with
    | true =>
      rw [hany] at hna; exact .inl ⟨rfl, rec_not fun hx => by rw [hx.2.2.1] at hna; cases hna⟩
    | false =>
      rw [hany] at hna; exact .inr ⟨rfl, heq, hok, hna.symm⟩
  rintro w1 ⟨u1, heq, hok, hfl⟩ _; obtain ⟨vs, r1, _, t1⟩ := (h.keep u1).mono (G := fun b => F b /\ b < w1.heap.size) fun b hb hf => ⟨hf, hb⟩; have evs := t1.length; have hN1 := strs_keep hN u1; have hw1 := u1.size; refine newM_mk (d := .string) (f := fun _ => .nilIface) fun w4 M4 u4 s4 => ?_; refine ⟨fun m w' => ∃ i : Nat, m = i /\ i <= ns.length /\ Upd No w1 w' /\ w1.heap.size < w'.heap.size /\ ∃ ks f, MapF .string w' w1.heap.size (ks.map Value.string) f /\ Filled ns vs i ks f, fun m _ => (ns.length - m).toNat, ⟨0, rfl, Nat.zero_le _, u4, by omega, [], _, M4, .inl ⟨by simp, by simp, fun j _ hj => by omega⟩⟩, ?_⟩; rintro m w8 ⟨i, rfl, hi, u8, hs8, ks, f, M8, hF8⟩ _; refine brC_intro (fun hlt => ?_) fun hge => ?_
  . have hlt : i < ns.length := by have := of_decide_eq_true hlt; omega
    have hN8 := strs_keep hN1 u8; have r8 := r1.upd u8 fun _ _ x => x; refine ⟨by omega, by omega, strC hN8 hlt fun a hc => ⟨by omega, by omega, ?_⟩⟩; have hiv : i < vs.length := by omega
    obtain ⟨q, eq, _⟩ := ptr_shape (t1.at_ (List.getElem?_eq_getElem hiv) (List.getElem?_eq_getElem (show i < l.length by omega))); obtain ⟨g, o, rfl, hv⟩ := r8.get (j := i) hiv; rw [List.getElem?_eq_getElem hiv, eq] at hv; refine ptrC_some ⟨q, by rw [add_mk, Int.toNat_natCast, Nat.mul_one]; exact hv, ?_⟩; have hv' : putAt f ns[i] (.pointer q) (Value.string ns[i]) = Value.pointer q := if_pos rfl
    have ho : ∀ x ∈ ks.map Value.string, x ≠ Value.string ns[i] -> putAt f ns[i] (.pointer q) x = f x := fun x hx hne => by
      obtain ⟨y, _, rfl⟩ := List.mem_map.1 hx; exact if_neg fun e => hne (by rw [e])
    have hw : ∀ {w'}, Upd (· = w1.heap.size) w8 w' -> Upd No w1 w' := fun u => u8.trans u fun x hx (e : x = _) => by omega
    rw [wrap_succ (by omega)]
    by_cases hin : ns[i] ∈ ks
    . refine update_in und58 undS (k := .string ns[i]) trivial M8 (mem_strs.2 hin) _ hv' ho fun w15 M15 u15 s15 => ⟨⟨i + 1, rfl, hlt, hw u15, by omega, ks, _, M15, .inr ?_⟩, by dsimp only; omega⟩; rw [nodup_takeS hlt]; rcases hF8 with ⟨h1, rfl, h3⟩ | ⟨h1, h2⟩
      . exact ⟨fun x => x.2 hin, by rw [List.length_take]; omega⟩
      . exact ⟨fun x => h1 x.1, by omega⟩
    . refine update_out und58 undS (k := .string ns[i]) trivial M8 (fun x => hin (mem_strs.1 x)) _ hv' ho fun w15 M15 u15 s15 => ⟨⟨i + 1, rfl, hlt, hw u15, by omega, ks ++ [ns[i]], _, by rw [List.map_append]; exact M15, ?_⟩, by dsimp only; omega⟩; unfold Filled; rw [nodup_takeS hlt]; rcases hF8 with ⟨h1, rfl, h3⟩ | ⟨h1, h2⟩
      . refine .inl ⟨⟨h1, hin⟩, by rw [List.take_succ_eq_append_getElem hlt], fun j hj hji => ?_⟩
        by_cases e : j = i
        . subst e; rw [hv', List.getElem?_eq_getElem hiv, eq]
        . have hji : j < i := by omega
          have : ns[j] ≠ ns[i] := fun x => hin (by rw [<- x, List.mem_take_iff_getElem]; exact ⟨j, by omega, rfl⟩); rw [show putAt f ns[i] (.pointer q) (.string ns[j]) = f (.string ns[j]) from if_neg this, h3 j hj hji]
      . exact .inr ⟨fun x => h1 x.1, by rw [List.length_append]; simp; omega⟩
  have hi : i = ns.length := by have := of_decide_eq_false hge; omega
  subst hi; unfold Filled at hF8; rw [List.take_length] at hF8; refine runR_of (run_len und58 M8 _) ⟨_, rfl, ?_⟩; rw [List.length_map]; have U8 := up u1 u8; refine brC_intro (fun hne => ?_) fun hsame => ?_
  . have hnn : ¬ ns.Nodup := fun hn => by
      rcases hF8 with ⟨_, rfl, _⟩ | ⟨h1, _⟩
      . simp at hne
      . exact h1 hn
    rw [rec_not fun hx => hnn hx.2.2.2]; exact ⟨none, rfl, rfl, U8⟩
  have hsame : ks.length = ns.length := by have : (ks.length : Int) = ns.length := by simpa using hsame
                                           omega
  obtain ⟨hnd, rfl, hfv⟩ : ns.Nodup /\ ks = ns /\ ∀ j, (h : j < ns.length) -> j < ns.length -> vs[j]? = some (f (.string ns[j])) := by
    rcases hF8 with h | ⟨_, h2⟩
    . exact h
    . omega
  have eF : recF ks l = fits (.mk 7 .empty (sortB ks) ((sortB ks).map (atName ks l)) .nil) := by
    unfold recF; rw [if_pos ⟨heq, hok, hfl, hnd⟩, sortP_names_eq hnd heq, List.map_map, List.map_map]
    congr 2
    exact List.map_id _
  rw [eF]; have hN8 := strs_keep hN1 u8; have hslen : (sortB ks).length = ks.length := (sortB_perm ks).length_eq; refine callC_of (sorted_names (K := fun v w22 => ∃ p' n' c', v = .slice p' n' c' /\ OwnS w8.heap.size w22 p' n' c' (sortB ks) /\ Upd No w8 w22) hN8 rfl (by omega) fun p' n' c' w22 o u => ⟨p', n', c', rfl, o, u⟩) fun v18 w19 h42 => ⟨_, rfl, callC_of h42 fun v w22 ⟨p', n', c', e, o22, u22⟩ => ⟨_, _, _, e, ?_⟩⟩; refine newC_mk fun w27 B27 u27 s27 => ⟨_, _, _, B27.cell rfl, ?_⟩; have hs22 := u22.size; have M27 := (M8.upd u22 (fun x => x)).upd u27 (fun x => x); have u827 := up u22 u27; have U27 : Upd No w1 w27 := up u8 u827; have hn' := o22.len'.1
  refine ⟨fun m w' => ∃ i : Nat, m = i /\ i <= (sortB ks).length /\ Upd (fun b => w22.heap.size <= b) w27 w' /\ ∃ pa na ca, Blk w' w22.heap.size #[.int .i64 7, .string .empty, .slice p' n' c', .slice pa na ca, .pointer none] 84 /\ OwnT w1.heap.size w27.heap.size F w' pa na ca (((sortB ks).take i).map (atName ks l)),
    fun m _ => (n' - m).toNat, ⟨0, rfl, Nat.zero_le _, Upd.refl _ _, none, 0, 0, B27, OwnT.nil _ _ _ _⟩, ?_⟩
  rintro m w34 ⟨i, rfl, hi, u34, pa, na, ca, B34, T34⟩ _; have hs34 := u34.size
  have o34 : OwnS w8.heap.size w34 p' n' c' (sortB ks) := by
    have hr := (o22.row.upd u27 fun _ _ x => x); exact ⟨hr.upd u34 fun b hb (hx : w22.heap.size <= b) => by have := o22.row.lt hb; omega, o22.own, o22.len, o22.cap⟩
  refine brC_intro (fun hlt => ?_) fun hge => ?_
  . have hlt : i < (sortB ks).length := by have := of_decide_eq_true hlt; omega
    refine ⟨fun w' => Upd (fun b => w22.heap.size <= b) w27 w' /\ ∃ pa na ca, Blk w' w22.heap.size #[.int .i64 7, .string .empty, .slice p' n' c', .slice pa na ca, .pointer none] 84 /\ OwnT w1.heap.size w27.heap.size F w' pa na ca (((sortB ks).take (i + 1)).map (atName ks l)), ?_, by omega, by omega, ?_⟩
    . rintro w37 ⟨u37, hx⟩ _; rw [wrap_succ (by omega)]; exact ⟨⟨i + 1, rfl, hlt, u37, hx⟩, by dsimp only; omega⟩
    refine strC (strs_row o34.row) hlt fun a hc => drawC_mk fun w41 u41 s41 => ?_; have hmem : (sortB ks)[i] ∈ ks := (sortB_perm ks).mem_iff.1 (List.getElem_mem hlt); have M34 := M27.upd u34 (fun (hx : w22.heap.size <= w1.heap.size) => by omega); obtain ⟨j, hj, hjs⟩ := List.getElem_of_mem hmem; have hfj := hfv j hj hj; rw [hjs] at hfj; have hjv : j < vs.length := by omega
    have hjl : j < l.length := by omega
    obtain ⟨q, eq, _⟩ := ptr_shape (t1.at_ hfj (List.getElem?_eq_getElem hjl)); have htj := t1.at_ hfj (List.getElem?_eq_getElem hjl); rw [eq] at htj
    have ehj : atName ks l (sortB ks)[i] = l[j] := by
      have := atName_get hnd heq hj; rw [hjs] at this; exact this
    have M41 := M34.upd u41 (fun x => x)
    have hlk : ∀ w' S, Upd S w41 w' -> ¬ S w1.heap.size -> (Instr.lookup 86 (.map (some w1.heap.size)) (.string (sortB ks)[i]) false).run Tryz.prog w' = .ok (.pointer q) w' := fun w' S u' hS => by
      have := run_lookup_in und58 undS (k := .string (sortB ks)[i]) trivial (M41.upd u' hS) (mem_strs.2 hmem) false; rw [eq] at this; exact this
    have B41 := B34.upd u41 (fun x => x); have T41 := T34.keep u41
    have hrow : ∀ b, InRow (.slice pa na ca) b -> w27.heap.size <= b := by
      obtain ⟨_, x, _⟩ := T34.ex; exact x.own
    have hB41 : w22.heap.size < w41.heap.size := B41.lt; have C41 : w41.cell? ⟨w22.heap.size, 3, none⟩ = some (.slice pa na ca) := B41.cell rfl; have htj41 : TyAt ids (fun b => F b /\ b < w1.heap.size) w41 (.pointer q) l[j] := ((htj.keep U27).upd u34 fun b hb (hx : w22.heap.size <= b) => by omega).keep u41; refine ⟨fun w' => Upd (fun b => w41.heap.size <= b \/ InRow (.slice pa na ca) b) w41 w', _, _, _, C41, fun w' u' => lds_typs ((B41.upd u' (fun hx => by rcases hx with hx | hx; omega; have := hrow _ hx; omega)).cell rfl), runR_of (hlk w41 No (Upd.refl _ _) id) ⟨q, rfl, fun w' u' => hlk w' _ u' (fun hx => by rcases hx with hx | hx; omega; have := hrow _ hx; omega), ?_, trivial⟩⟩; refine newC_mk fun w51 B51 u51 s51 => ⟨u51.mono fun _ _ x => x.elim, ?_, trivial⟩; refine (T41.keep u51).grow1 (by omega) (by omega) B51 (htj41.keep u51) (by simp; omega) fun p2 n2 c2 w53 o53 u53 hin u53r => ⟨u51.mono (fun _ _ x => x.elim) |>.trans u53r fun x _ hx => .inr hx, ?_, trivial⟩; have B53 := (B41.upd u51 id).upd u53r fun hx => by have := hrow _ hx; omega
    refine stC_mk B53 (by simp) fun w57 B57 u57 s57 => ⟨?_, p2, n2, c2, B57, ?_⟩
    . exact (((u34.trans u41 fun _ _ x => x.elim).trans u51 fun _ _ x => x.elim).trans u53r fun x _ hx => by have := hrow x hx; omega).trans u57 fun x _ (hx : x = w22.heap.size) => by omega
    . rw [List.take_succ_eq_append_getElem hlt, List.map_append, List.map_cons, List.map_nil, ehj]; obtain ⟨vs2, a1, a2⟩ := o53.ex; exact ⟨vs2, ⟨a1.row.upd u57 fun b hb (hx : b = w22.heap.size) => by have := a1.own b hb; omega, a1.own, a1.len, a1.cap⟩, a2.upd u57 fun b hb (hx : b = w22.heap.size) => by omega⟩
  have hi : i = (sortB ks).length := by have := of_decide_eq_false hge; omega
  rw [hi, List.take_length] at T34; obtain ⟨vs', q1, q2⟩ := T34.ex
  have hT : TyAt ids (With F w.heap.size) w34 (.pointer (some ⟨w22.heap.size, 0, none⟩)) (.mk 7 .empty (sortB ks) ((sortB ks).map (atName ks l)) .nil) := by
    refine mkTy (nv := .slice p' n' c') (av := .slice pa na ca) (rv := .pointer none) B34 (.inr (by omega)) o34.row (fun b hb => .inr (by have := o34.own b hb; omega)) q1.row (fun b hb => .inr (by have := q1.own b hb; omega)) (q2.mono fun b _ hb => .inl hb.1) rfl
  refine callC_of (tfits_spec hT) fun v w59 ⟨q, e, hq, u59⟩ => ⟨_, _, e, q, rfl, hq, ?_⟩; exact (up (up u1 U27) (Upd.refl _ _)).trans (u34.trans u59 fun _ _ x => x.elim) fun x hx (hb : w22.heap.size <= x) => by omega
end Go.Proofs.YtdbkclnlfibgdaaGreatDoor
namespace Go.Proofs.YtdbkclnlfibgdaaGreatDoor
open Go.SX Go.Ty Go.RowKit Go.Shelf Go.Sort
theorem grow_of_upd {W w' : World} (u : Upd No W w') (hd : W.drawn <= w'.drawn) : ∃ q os', w' = grow (W.drewN q) os' := by
  refine ⟨w'.drawn - W.drawn, w'.heap.extract W.heap.size w'.heap.size, ?_⟩
  have hh : w'.heap = W.heap ++ w'.heap.extract W.heap.size w'.heap.size := by
    have hs := u.size; apply Array.ext_getElem?; intro i
    by_cases hi : i < W.heap.size
    . rw [Array.getElem?_append_left hi]; exact u.block i hi id
    . rw [Array.getElem?_append_right (by omega)]; rw [Array.getElem?_extract]; split
      . congr 1; omega
      . rw [Array.getElem?_eq_none (by omega)]
  have h1 := u.os; have h2 := u.tape; have h3 := u.output
  cases w' with
  | mk heap tape drawn os output =>
    simp only at hh h1 h2 h3 hd ⊢; subst h1; subst h2; subst h3; unfold grow World.drewN; simp only; rw [<- hh]
    congr 1
    omega
theorem cmp_lt : ∀ a b : List UInt8, Lib.compareBytes a b < 0 ↔ a < b
  | [], [] => by simp [Lib.compareBytes]
  | [], _ :: _ => by simp [Lib.compareBytes]
  | _ :: _, [] => by simp [Lib.compareBytes]
  | a :: x, b :: y => by
    rw [Lib.compareBytes, List.cons_lt_cons_iff]; split
    . rename_i h; simp [h]
    . rename_i h; split
      . rename_i h2; have : a ≠ b := fun e => by subst e; exact h h2
        simp [h, this]
      . rename_i h2; have : a = b := UInt8.le_antisymm (UInt8.not_lt.1 h2) (UInt8.not_lt.1 h); simp [h, this, cmp_lt x y]
structure GoodT (F : Nat -> Prop) (w : World) (x : Option Addr × T) : Prop where
  at_ : TyAt ids F w (.pointer x.1) x.2
  may : may x.2 = true
  small : size x.2 <= 60
abbrev GT (F : Nat -> Prop) (w : World) : Type := { x : Option Addr × T // GoodT F w x }
def encT {F : Nat -> Prop} {w : World} (x : GT F w) : Value := .pointer x.1.1
def cfT {F : Nat -> Prop} {w : World} (x y : GT F w) : Int := Lib.compareBytes (write x.1.2) (write y.1.2)
theorem ltT {F : Nat -> Prop} {w : World} (x y : GT F w) : ltOf cfT x y = decide (write x.1.2 < write y.1.2) := by
  unfold ltOf cfT; exact decide_eq_decide.2 (cmp_lt _ _)
theorem swoT {F : Nat -> Prop} {w : World} : SWO (ltOf (cfT (F := F) (w := w))) := by
  refine ⟨fun x => ?_, fun x y z h1 h2 => ?_, fun x y z h1 h2 => ?_⟩
  . rw [ltT]; simp [List.lt_irrefl]
  . rw [ltT, decide_eq_true_eq] at *; exact List.lt_trans h1 h2
  . rw [ltT, decide_eq_false_iff_not, List.not_lt] at *; exact List.le_trans h2 h1
theorem goods {F : Nat -> Prop} {w : World} : ∀ {vs : List Value} {l : List T}, TysAt ids F w vs l -> (∀ t ∈ l, may t = true /\ size t <= 60) -> ∃ L : List (GT F w), L.map encT = vs /\ L.map (fun x => x.1.2) = l
  | [], [], _, _ => ⟨[], rfl, rfl⟩
  | [], _ :: _, h, _ => h.elim
  | _ :: _, [], h, _ => h.elim
  | v :: vs, t :: l, h, hg => by
    obtain ⟨h1, h2⟩ := h; obtain ⟨q, rfl, _⟩ := ptr_shape h1; obtain ⟨L, e1, e2⟩ := goods h2 fun t ht => hg t (List.mem_cons_of_mem _ ht); exact ⟨⟨(q, t), ⟨h1, (hg t (by simp)).1, (hg t (by simp)).2⟩⟩ :: L, by rw [List.map_cons, e1]; rfl, by rw [List.map_cons, e2]⟩
theorem cmpT_spec {F : Nat -> Prop} {W : World} {x y : Option Addr} {t u : T} (hx : TyAt ids F W (.pointer x) t) (hy : TyAt ids F W (.pointer y) u) (ht : may t = true /\ size t <= 60) (hu : may u = true /\ size u <= 60) :
    callC Tryz.prog 156 #[.pointer x, .pointer y] W fun v w' => v = .int .i64 (Lib.compareBytes (write t) (write u)) /\ Upd No W w' /\ W.drawn <= w'.drawn := by
  refine tUnion1_text _ _ _ _ (callC_of (twrite_d ht.1 ht.2 hx) fun v w1 ⟨e, u1, d1⟩ => ⟨_, e, callC_of (twrite_d hu.1 hu.2 (hy.keep u1)) fun v w4 ⟨e, u4, d4⟩ => ⟨_, e, ?_⟩⟩); refine callC_of_calls (Any.strings_Compare Tryz.cmpL (bs (write t)) (bs (write u)) w4) fun e w' ⟨he, hw⟩ => ⟨_, he, _, rfl, ?_, ?_, ?_⟩
  . rfl
  . rw [hw]; exact up u1 u4
  . rw [hw]; omega
theorem sortT_spec {n1 : Nat} {F : Nat -> Prop} {w : World} {p : Option Addr} {n c : Nat} {vs : List Value} {l : List T} (h : Own n1 w ids.ptr p n c vs) (ht : TysAt ids F w vs l) (hF : ∀ b, F b -> b < n1) (hg : ∀ t ∈ l, may t = true /\ size t <= 60) (hne : l ≠ []) (hl : l.length <= 1000000000000) :
    callC Tryz.prog 155 #[.slice p n c, .func (.func 156) #[] #[]] w fun v w' =>
      v = .tuple #[] /\ ∃ vs' l', Own n1 w' ids.ptr p n c vs' /\ TysAt ids F w' vs' l' /\ l'.Perm l /\ (l'.Pairwise fun a b => ¬ write b < write a) /\ Upd (InRow (.slice p n c)) w w' := by
  obtain ⟨L, e1, e2⟩ := goods ht hg; have hlen := h.len; subst e1; rw [List.length_map] at hlen; have hL : L.length = l.length := by rw [<- e2, List.length_map]
  have hlpos : 0 < l.length := List.length_pos_iff.2 hne
  cases p with
  | none =>
    obtain ⟨hx, _, _⟩ := row_none h.row; have : L = [] := by simpa using hx
    subst this; simp at hL; omega
  | some a =>
    obtain ⟨g, o, rfl⟩ : ∃ g o, a = ⟨g, o, none⟩ := by
      obtain ⟨n', hl, ⟨e0, rfl⟩ | ⟨g', o', cap, cur, e0, hg, _⟩⟩ := h.row
      . cases e0
      . cases e0; exact ⟨_, _, rfl⟩
    have hgn : n1 <= g := h.own g rfl; have hgl : g < w.heap.size := h.row.lt rfl
    haveI : Inhabited (GT F w) := ⟨L[0]'(by omega)⟩
    have hcmp : CmpLays1 Tryz.prog 156 #[] (encT (F := F) (w := w)) cfT g o L.toArray.size w := by
      intro m os dk hdk x y; have hU : Upd (fun b => b = g) w (sortWorld encT w g o m dk os) := sorted_upd encT w g o m dk os; have hk : ∀ z : GT F w, TyAt ids F (sortWorld encT w g o m dk os) (.pointer z.1.1) z.1.2 := fun z => z.2.at_.upd hU fun b hb e => by have := hF b hb; omega
      refine Calls.mono (cmpT_spec (hk x) (hk y) ⟨x.2.may, x.2.small⟩ ⟨y.2.may, y.2.small⟩) fun e w' hx => ?_
      cases e with
      | returned v =>
        obtain ⟨rfl, u, d⟩ := hx; exact ⟨rfl, grow_of_upd u d⟩
      | _ => exact hx.elim
    have key := Any.slices_SortFunc Tryz.sort49 (encT (F := F) (w := w)) (fun _ => rfl) cfT swoT 156 #[] g o c L.toArray w (enters_of Tryz.func156 (by kernel_rfl) rfl) hcmp (row_holds encT L.toArray (by simpa using h.row)) hgl (by simp; omega); have hn : n = L.toArray.size := by simpa using hlen
    rw [<- hn] at key; refine callC_of_calls key fun e w' ⟨he, d', m, os, hp, hs, hw⟩ => ⟨_, he, rfl, ?_⟩; subst hw; have hd : d'.size = n := by rw [hp.1, hn]
    have hperm : d'.toList.Perm L := by
      have := hp.2.2; have ea : d'.extract 0 n = d' := by rw [<- hd, Array.extract_size]
      have eb : L.toArray.extract 0 n = L.toArray := by rw [hn, Array.extract_size]
      rw [ea, eb] at this; simpa using this
    have hU : Upd (fun b => b = g) w (sortWorld encT w g o m d' os) := sorted_upd encT w g o m d' os; refine ⟨d'.toList.map encT, d'.toList.map (fun x => x.1.2), ⟨sorted_row encT h.row d' hd os, h.own, by simp [hd], h.cap⟩, ?_, ?_, ?_, hU.mono fun b _ (e : b = g) => by simp [InRow, Value.ownBlock, e]⟩
    . rw [tysAt_iff]; refine ⟨by simp, fun i v t hv ht => ?_⟩; rw [List.getElem?_map] at hv ht
      cases hz : d'.toList[i]? with
      | none => rw [hz] at hv; cases hv
      | some z =>
        rw [hz] at hv ht; cases hv; cases ht; exact z.2.at_.upd hU fun b hb e => by have := hF b hb; omega
    . rw [<- e2]; exact hperm.map _
    . rw [List.pairwise_map, List.pairwise_iff_getElem]; intro i j hi hj hij; have hi' : i < d'.size := by simpa using hi
      have hj' : j < d'.size := by simpa using hj
      have := hs i j (Nat.zero_le _) hij (by omega); rw [ltT, decide_eq_false_iff_not] at this; rw [getElem!_pos d' j hj', getElem!_pos d' i hi'] at this; simpa using this
end Go.Proofs.YtdbkclnlfibgdaaGreatDoor
namespace Go.Proofs.YtdbkclnlfibgdaaGreatDoor
open Go.SX Go.Ty
abbrev eqT (a b : T) : Bool := decide (a = b)
theorem ddA_sub : ∀ (p : T) (l : List T) (x : T), x ∈ ddA eqT p l -> x ∈ l
  | _, [], _, h => by simp [ddA] at h
  | p, y :: l, x, h => by
    unfold ddA at h; split at h
    . exact List.mem_cons_of_mem _ (ddA_sub y l x h)
    . rcases List.mem_cons.1 h with rfl | h
      . simp
      . exact List.mem_cons_of_mem _ (ddA_sub y l x h)
theorem ddA_all : ∀ (p : T) (l : List T) (x : T), x ∈ l -> x = p \/ x ∈ ddA eqT p l
  | _, [], _, h => by cases h
  | p, y :: l, x, h => by
    unfold ddA; split
    . rename_i e; have e : y = p := by simpa using e
      subst e; rcases List.mem_cons.1 h with rfl | h
      . exact .inl rfl
      . exact ddA_all y l x h
    . rcases List.mem_cons.1 h with rfl | h
      . exact .inr (by simp)
      . rcases ddA_all y l x h with rfl | h
        . exact .inr (by simp)
        . exact .inr (List.mem_cons_of_mem _ h)
theorem ddA_sorted : ∀ (p : T) (l : List T), ((p :: l).Pairwise fun a b => ¬ write b < write a) -> (∀ x ∈ p :: l, ∀ y ∈ p :: l, write x = write y -> x = y) -> (∀ x ∈ ddA eqT p l, write p < write x) /\ SortedT (ddA eqT p l)
  | _, [], _, _ => by simp [ddA]
  | p, y :: l, hs, hi => by
    obtain ⟨h1, h2⟩ := List.pairwise_cons.1 hs; have hi' : ∀ x ∈ y :: l, ∀ z ∈ y :: l, write x = write z -> x = z := fun x hx z hz => hi x (List.mem_cons_of_mem _ hx) z (List.mem_cons_of_mem _ hz); obtain ⟨g1, g2⟩ := ddA_sorted y l h2 hi'; unfold ddA
    by_cases e : y = p
    . subst e; rw [if_pos (by simp)]; exact ⟨g1, g2⟩
    . rw [if_neg (by simpa using e)]; have hlt : write p < write y := lt_of_ne (h1 y (by simp)) fun x => e (hi y (by simp) p (by simp) x); refine ⟨fun x hx => ?_, List.pairwise_cons.2 ⟨g1, g2⟩⟩; rcases List.mem_cons.1 hx with rfl | hx
      . exact hlt
      . exact lt_trans' hlt (g1 x hx)
theorem dd_out {l m : List T} (hT : Tells l) (hp : m.Perm (flatT l)) (hs : m.Pairwise fun a b => ¬ write b < write a) : dd eqT m = outT l := by
  have hmem : ∀ x, x ∈ dd eqT m ↔ x ∈ m := by
    intro x
    cases m with
    | nil => simp [dd]
    | cons p m =>
      unfold dd; constructor
      . intro h; rcases List.mem_cons.1 h with rfl | h
        . simp
        . exact List.mem_cons_of_mem _ (ddA_sub p m x h)
      . intro h; rcases List.mem_cons.1 h with rfl | h
        . simp
        . rcases ddA_all p m x h with rfl | h
          . simp
          . exact List.mem_cons_of_mem _ h
  have hsd : SortedT (dd eqT m) := by
    cases m with
    | nil => exact List.Pairwise.nil
    | cons p m =>
      have hi : ∀ x ∈ p :: m, ∀ y ∈ p :: m, write x = write y -> x = y := fun x hx y hy => hT x (hp.mem_iff.1 hx) y (hp.mem_iff.1 hy); obtain ⟨h1, h2⟩ := ddA_sorted p m hs hi; exact List.pairwise_cons.2 ⟨h1, h2⟩
  exact sortedT_ext hsd (outT_spec l).1 fun x => by rw [hmem, hp.mem_iff, out_iff hT]
theorem tUnion_spec {l : List T} {F : Nat -> Prop} {w : World} {x0 : Option Addr} {x0l x0c : Nat} (h : TyRow ids F w (.slice x0 x0l x0c) l) (hll : l.length <= 1000000) (hT : allOk l = true -> Tells l) :
    callC Tryz.prog 97 #[.slice x0 x0l x0c] w fun v w' => ∃ q : Option Addr, v = .tuple #[.pointer q, .int .i64 (unionF l).2] /\ TyAt ids (With F w.heap.size) w' (.pointer q) (unionF l).1 /\ Upd No w w' := by
  obtain ⟨el, _, hlm, _⟩ := h.get; subst el; refine tUnion_text _ _ _ _ _ ⟨fun w' => Upd No w w' /\ l ≠ [] /\ allOk l = true, ?_, fun b w' => Upd No w w' /\ ((b = true /\ unionF l = (.nil, 2)) \/ (b = false /\ l ≠ [] /\ allOk l = true)), ?_, ?_⟩
  rotate_left
  . rintro b w' ⟨u, ⟨rfl, e⟩ | ⟨rfl, e⟩⟩ _
    . exact brC_tt rfl (by rw [e]; exact ⟨none, rfl, rfl, u⟩)
    . exact brC_ff rfl ⟨u, e⟩
  . refine brC_intro (fun hz => ⟨Upd.refl _ _, .inl ⟨rfl, ?_⟩⟩) fun hz => callC_of (tall_spec h) fun v w1 ⟨e, u1⟩ => ⟨_, e, u1, ?_⟩
    . have : l = [] := by
        have : (l.length : Int) = 0 := by simpa using hz
        exact List.eq_nil_of_length_eq_zero (by omega)
      subst this; rfl
    . have hne : l ≠ [] := fun e => by subst e; simp at hz
      have e2 : (l.all fun t => check t == 0) = allOk l := rfl; rw [e2]
      cases ha : allOk l with
      | true => exact .inr ⟨rfl, hne, rfl⟩
      | false =>
        refine .inl ⟨rfl, ?_⟩; unfold unionF; rw [ha]; simp
  rintro w1 ⟨u1, hne, hok⟩ _; have hflat := flat_ok hok; have hU := unionF_eq hne hok; generalize hn0 : w.heap.size = n0; have hw1 : n0 <= w1.heap.size := by rw [<- hn0]; exact u1.size
  have hrow0 : TyRow ids (fun b => F b /\ b < n0) w (.slice x0 l.length x0c) l := h.mono fun b hb hf => ⟨hf, by omega⟩
  refine ⟨fun p n c j w' => ∃ i : Nat, j = i /\ i <= l.length /\ Upd No w w' /\ n0 <= w'.heap.size /\ OwnT n0 n0 F w' p n c (flatT (l.take i)) /\ ∀ a ∈ l.take i, a.kind ≠ 1, fun _ _ _ j _ => (l.length - j).toNat,
    ⟨0, rfl, Nat.zero_le _, u1, hw1, OwnT.nil _ _ _ _, (fun a ha => by cases ha)⟩, ?_⟩
  rintro p n c j w9 ⟨i, rfl, hi, u9, g9, O9, hk1⟩ _; obtain ⟨en, hnc, hcm⟩ := O9.len; have hfl := flat_len hok i hi; refine brC_intro (fun hlt => ?_) fun hge => ?_
  . have hlt : i < l.length := by have := of_decide_eq_true hlt; omega
    refine ⟨fun p' n' c' w' => Upd No w w' /\ n0 <= w'.heap.size /\ OwnT n0 n0 F w' p' n' c' (flatT (l.take (i + 1))) /\ l[i].kind ≠ 1, ?_, ⟨by omega, by omega, ?_⟩⟩
    . rintro p' n' c' w15 ⟨u15, g15, O15, k15⟩ _; rw [wrap_succ (by omega)]; refine ⟨⟨i + 1, rfl, hlt, u15, g15, O15, fun a ha => ?_⟩, by dsimp only; omega⟩; rw [List.take_succ_eq_append_getElem hlt, List.mem_append, List.mem_singleton] at ha; rcases ha with ha | rfl
      . exact hk1 a ha
      . exact k15
    have hrow := hrow0.keep u9; have hchk := allOk_iff.1 hok _ (List.getElem_mem hlt); obtain ⟨hmi, hsi⟩ := check_iff.1 hchk; refine argC hrow hlt fun a x hc hx => ?_; obtain ⟨g, rfl, hg⟩ := kindC hx (may_notNil hmi); refine ptrC_some ⟨_, hg, brC_intro (fun h1 => newC_mk fun w22 B22 u22 s22 => ?_) fun h1 => ?_⟩
    . have h1 : l[i].kind = 1 := by simpa using h1
      rw [hU, if_pos (List.any_eq_true.2 ⟨_, List.getElem_mem hlt, by simpa using h1⟩)]; refine ⟨_, rfl, mkTy (nv := .slice none 0 0) (av := .slice none 0 0) (rv := .pointer none) (ns := []) (ta := []) (vs := []) (r := .nil) B22 (.inr g9) (RowAt.nil _ _ _) (fun b hb => (no_in b hb).elim) (RowAt.nil _ _ _) (fun b hb => (no_in b hb).elim) trivial rfl, up u9 u22⟩
    have h1 : l[i].kind ≠ 1 := by simpa using h1
    refine brC_intro (fun h9 => ?_) fun h9 => ?_
    . have h9 : l[i].kind = 9 := by simpa using h9
      have hsn := flat_snoc l hlt; rw [if_pos h9] at hsn; have hla := len_args hmi hsi
      have hop : ∃ p' c', w9.cell? (Addr.add g 3) = some (.slice p' l[i].args.length c') /\ TyRow ids (fun b => F b /\ b < n0) w9 (.slice p' l[i].args.length c') l[i].args := by
        cases hq : l[i] with
        | nil => rw [hq] at hmi; cases hmi
        | mk k' nm' ns' ta' r' =>
          rw [hq] at hx; obtain ⟨_, _, _, _, _, _, e, D⟩ := ty_opens hx; cases e; exact ⟨_, _, D.c3, D.args⟩
      obtain ⟨p', c', hc3, hargs⟩ := hop; obtain ⟨ys, y1, y2, y3⟩ := hargs; refine ptrC_some ⟨_, _, _, hc3, O9.grow (Nat.le_refl _) g9 y1 y3 (by omega) fun p2 n2 c2 w34 o2 v34 _ _ => ⟨?_, ?_, ?_, h1⟩⟩
      . exact u9.trans v34 fun b hb (hx : n0 <= b) => by omega
      . exact Nat.le_trans g9 v34.size
      . rw [hsn]; exact o2
    . have h9 : l[i].kind ≠ 9 := by simpa using h9
      have hsn := flat_snoc l hlt; rw [if_neg h9] at hsn; refine newC_mk fun w41 B41 v41 s41 => ?_; refine (O9.keep v41).grow1 (Nat.le_refl _) (by omega) B41 (hx.keep v41) (by omega) fun p2 n2 c2 w43 o2 v43 _ _ => ⟨?_, ?_, ?_, h1⟩
      . exact (up u9 v41).trans v43 fun b hb (hx : n0 <= b) => by omega
      . have := v43.size; omega
      . rw [hsn]; exact o2
  have hi : i = l.length := by have := of_decide_eq_false hge; omega
  rw [hi, List.take_length] at O9 hk1 en hfl
  have hany : l.any (·.kind == 1) = false := by
    rw [List.any_eq_false]; intro a ha; simpa using hk1 a ha
  rw [hany, if_neg (by simp)] at hU
  have hfne : flatT l ≠ [] := fun e => by
    obtain ⟨a, ha⟩ := List.exists_mem_of_ne_nil l hne; obtain ⟨hma, _⟩ := check_iff.1 (allOk_iff.1 hok a ha)
    have : ∃ x, x ∈ flatT l := by
      by_cases h9 : a.kind = 9
      . have h2 : 2 <= a.args.length := by
          cases Go.Ty.shape hma with
          | union _ h2 => exact h2
          | basic _ h1 h5 =>
            have h9 := h9; simp only [T.kind] at h9; omega
          | name _ _ => exact absurd h9 (by simp [T.kind])
          | record _ _ _ _ _ _ => exact absurd h9 (by simp [T.kind])
          | fn _ _ _ _ => exact absurd h9 (by simp [T.kind])
        obtain ⟨x, hx⟩ : ∃ x, x ∈ a.args := List.exists_mem_of_ne_nil _ fun e => by rw [e] at h2; simp at h2
        exact ⟨x, List.mem_flatMap.2 ⟨_, ha, by rw [if_pos h9]; exact hx⟩⟩
      . exact ⟨a, List.mem_flatMap.2 ⟨a, ha, by rw [if_neg h9]; simp⟩⟩
    obtain ⟨x, hx⟩ := this; rw [e] at hx; cases hx
  obtain ⟨vs, own9, t9⟩ := O9.ex; refine callC_of (sortT_spec own9 t9 (fun b hb => hb.2) hflat hfne (by omega)) fun v w40 ⟨e, vs', l', own40, t40, hperm, hsort, u40⟩ => ⟨e, ?_⟩; have hR : ∀ v t, (∃ q, v = Value.pointer q /\ TyAt ids (fun b => F b /\ b < n0) w40 (.pointer q) t) -> ∃ s, v = Value.pointer s := fun v t ⟨q, e, _⟩ => ⟨q, e⟩; have hnot : ∀ b, (F b /\ b < n0) -> ¬ InRow (.slice p n c) b := fun b hb hin => by have := own40.own b hin; omega
  have U40 : Upd No w w40 := u9.trans u40 fun b hb hx => by have := own9.own b hx; omega
  refine callC_of (compT_of (comp_rule (K := fun v w42 => ∃ p' n' c' xs', v = .slice p' n' c' /\ RowAt w42 ids.ptr 1 (.slice p' n' c') xs' /\ Tell (fun v t => ∃ q, v = Value.pointer q /\ TyAt ids (fun b => F b /\ b < n0) w40 (.pointer q) t) xs' (dd eqT l') /\ Upd (InRow (.slice p n c)) w40 w42 /\ (∀ b, InRow (.slice p' n' c') b -> InRow (.slice p n c) b))
    hR zTyp own40.row (tell_typs t40) (eq := eqT) (fun v u a b w' ⟨q, e1, h1⟩ ⟨q', e2, h2⟩ _ _ u' => ?_) fun p' n' c' w' xs' h1 h2 h3 h4 => ⟨p', n', c', xs', rfl, h1, h2, h3, h4⟩)) fun v w42 ⟨p', n', c', xs', e, r42, tl42, u42, in42⟩ => ⟨p', n', c', e, ?_⟩
  . subst e1; subst e2; exact inv_alike (talike_spec a b _ _ w' q q' (h1.upd u' hnot) (h2.upd u' hnot))
  rw [dd_out (hT hok) hperm hsort] at tl42; have el := tl42.len; obtain ⟨en42, _, _⟩ := row_cap r42; have U42 : Upd No w w42 := U40.trans u42 fun b hb hx => by have := own9.own b hx; omega
  have t42 : TysAt ids (fun b => F b /\ b < n0) w42 xs' (outT l) := by
    rw [tysAt_iff]; refine ⟨el, fun i v t a b => ?_⟩; obtain ⟨q, e, hq⟩ := tl42.at_ i v t a b; subst e; exact hq.upd u42 hnot
  rw [hU]; refine brC_intro (fun h1 => ?_) fun h1 => newC_mk fun w49 B49 u49 s49 => ?_
  . have h1 : (outT l).length = 1 := by have : (n' : Int) = 1 := by simpa using h1
                                        omega
    have hn1 : n' = 1 := by omega
    obtain ⟨t, ht⟩ := List.length_eq_one_iff.1 h1; rw [ht] at t42 el ⊢
    match xs', t42, el, r42 with
    | [x], t42, _, r42 =>
      obtain ⟨q, rfl, _⟩ := ptr_shape t42.1; obtain ⟨g, o, rfl, hc⟩ := r42.get (j := 0) (by simp); refine ⟨by omega, by omega, ptrC_some ⟨q, by simpa using hc, q, rfl, t42.1.mono fun b _ hb => .inl hb.1, U42⟩⟩
  . have h1 : (outT l).length ≠ 1 := fun e => by
      have : (n' : Int) = 1 := by omega
      rw [this] at h1; simp at h1
    rw [unionOf_big h1]
    have hTy : TyAt ids (With F n0) w49 (.pointer (some ⟨w42.heap.size, 0, none⟩)) (.mk 9 .empty [] (outT l) .nil) := by
      refine mkTy (nv := .slice none 0 0) (av := .slice p' n' c') (rv := .pointer none) B49 (.inr (by have := U42.size; omega)) (RowAt.nil _ _ _) (fun b hb => (no_in b hb).elim) (r42.upd u49 fun _ _ x => x) (fun b hb => .inr (own9.own b (in42 b hb))) ((t42.keep u49).mono fun b _ hb => .inl hb.1) rfl
    exact callC_of (tfits_spec hTy) fun v w51 ⟨q, e, hq, u51⟩ => ⟨_, _, e, q, rfl, hq, up (up U42 u49) u51⟩
theorem row_blk {w : World} {k : Nat} {cs : Array Value} {e : TypeId} (h : Blk w k cs e) (n : Nat) (hn : cs.size = n) (hm : n <= maxLen) : RowAt w e 1 (.slice (some ⟨k, 0, none⟩) n n) cs.toList :=
  ⟨n, by simp [hn], .inr ⟨k, 0, n, cs, rfl, h, Nat.le_refl _, hm, by omega, by rw [List.drop_zero, Nat.mul_one, List.take_of_length_le (by simp [hn])]⟩⟩
theorem in_blk {k n c b : Nat} (h : InRow (.slice (some ⟨k, 0, none⟩) n c) b) : b = k := by simpa [InRow, Value.ownBlock] using h.symm
theorem fromW {n0 m : Nat} {w : World} {v : Value} {t : T} (h : TyAt ids (With (From n0) m) w v t) (hn : n0 <= m) : TyAt ids (From n0) w v t := h.mono fun b _ hb => hb.elim id fun (hb : m <= b) => (show n0 <= b by omega)
abbrev tk (k : Int) : T := .mk k .empty [] [] .nil
section calls
variable {n0 : Nat} {w : World} {K : KV}
theorem c_rec {ns : List ByteArray} {l : List T} {p0 : Option Addr} {m0 d0 : Nat} {p : Option Addr} {n c : Nat} (hN : StrsAt w p0 ns) (hm0 : m0 = ns.length) (h : TyRow ids (From n0) w (.slice p n c) l) (hl : l.length <= 1000000) (hn : n0 <= w.heap.size)
    (hk : ∀ q w', TyAt ids (From n0) w' (.pointer q) (recF ns l).1 -> Upd No w w' -> K (.tuple #[.pointer q, .int .i64 (recF ns l).2]) w') : callC Tryz.prog 94 #[.slice p0 m0 d0, .slice p n c] w K :=
  callC_of (tRec_spec hN hm0 h hl) fun v w' ⟨q, e, h, u⟩ => e ▸ hk q w' (fromW h hn) u
theorem c_union {l : List T} {p : Option Addr} {n c : Nat} (h : TyRow ids (From n0) w (.slice p n c) l) (hl : l.length <= 1000000) (hT : allOk l = true -> Tells l) (hn : n0 <= w.heap.size)
    (hk : ∀ q w', TyAt ids (From n0) w' (.pointer q) (unionF l).1 -> Upd No w w' -> K (.tuple #[.pointer q, .int .i64 (unionF l).2]) w') : callC Tryz.prog 97 #[.slice p n c] w K :=
  callC_of (tUnion_spec h hl hT) fun v w' ⟨q, e, h, u⟩ => e ▸ hk q w' (fromW h hn) u
theorem c_fun {l : List T} {r : T} {p : Option Addr} {n c : Nat} {x : Option Addr} (h : TyRow ids (From n0) w (.slice p n c) l) (hl : l.length <= 1000000) (hr : TyAt ids (From n0) w (.pointer x) r) (hn : n0 <= w.heap.size)
    (hk : ∀ q w', TyAt ids (From n0) w' (.pointer q) (funF l r).1 -> Upd No w w' -> K (.tuple #[.pointer q, .int .i64 (funF l r).2]) w') : callC Tryz.prog 96 #[.slice p n c, .pointer x] w K :=
  callC_of (tFun_spec h hl hr) fun v w' ⟨q, e, h, u⟩ => e ▸ hk q w' (fromW h hn) u
theorem c_text {t : T} {F : Nat -> Prop} {x : Option Addr} (h : TyAt ids F w (.pointer x) t) (hk : ∀ w', Upd No w w' -> K (.string (bs (text t))) w') : callC Tryz.prog 15 #[.pointer x] w K :=
  callC_of (tText_spec h) fun v w' ⟨e, u⟩ => e ▸ hk w' u
theorem c_size {t : T} {F : Nat -> Prop} {x : Option Addr} (h : TyAt ids F w (.pointer x) t) (hk : ∀ w', Upd No w w' -> K (.int .i64 ((min (size t) 61 : Nat) : Int)) w') : callC Tryz.prog 12 #[.pointer x] w K :=
  callC_of (tSize_spec h) fun v w' ⟨e, u⟩ => e ▸ hk w' u
theorem c_same {t u : T} {F G : Nat -> Prop} {x y : Option Addr} (h : TyAt ids F w (.pointer x) t) (g : TyAt ids G w (.pointer y) u) (hk : ∀ w', Upd No w w' -> K (.bool (same t u)) w') : callC Tryz.prog 16 #[.pointer x, .pointer y] w K :=
  callC_of (tSame_spec h g) fun v w' ⟨e, u⟩ => e ▸ hk w' u
end calls
end Go.Proofs.YtdbkclnlfibgdaaGreatDoor
