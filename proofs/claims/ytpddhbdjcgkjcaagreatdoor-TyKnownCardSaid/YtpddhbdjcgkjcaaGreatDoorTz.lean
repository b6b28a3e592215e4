/- A type's text tells the type, where each name has a dot. Plain Lean. -/
import Derived.Test.YtpddhbdjcgkjcaaGreatDoorTy
namespace Go.Ty

def nameC (c : UInt8) : Bool := letter c || digit c || c.toNat == 45 || c.toNat == 47 || c.toNat == 46
def hd (h : UInt8 → Bool) (r : List UInt8) : Prop := ∀ c, r.head? = some c → h c = true
theorem hd_cons {h : UInt8 → Bool} {c : UInt8} {r : List UInt8} (hc : h c = true) : hd h (c :: r) := fun x e => by cases e; exact hc

theorem run_inj {p : UInt8 → Bool} : ∀ {x y r s : List UInt8}, x.all p = true → y.all p = true → hd (fun c => !p c) r → hd (fun c => !p c) s → x ++ r = y ++ s → x = y ∧ r = s
  | [], [], r, s, _, _, _, _, h => ⟨rfl, h⟩
  | [], b :: y, r, s, _, hy, hr, _, h => by
    simp only [List.nil_append, List.cons_append] at h
    subst h
    have : (!p b) = true := hr b rfl
    simp only [List.all_cons, Bool.and_eq_true] at hy
    rw [hy.1] at this; cases this
  | a :: x, [], r, s, hx, _, _, hs, h => by
    simp only [List.nil_append, List.cons_append] at h
    subst h
    have : (!p a) = true := hs a rfl
    simp only [List.all_cons, Bool.and_eq_true] at hx
    rw [hx.1] at this; cases this
  | a :: x, b :: y, r, s, hx, hy, hr, hs, h => by
    simp only [List.cons_append, List.cons.injEq] at h
    simp only [List.all_cons, Bool.and_eq_true] at hx hy
    obtain ⟨rfl, h⟩ := h
    obtain ⟨h1, h2⟩ := run_inj hx.2 hy.2 hr hs h
    exact ⟨by rw [h1], h2⟩

theorem join_cons (sep x : List UInt8) (l : List (List UInt8)) : join sep (x :: l) = x ++ (l.map (sep ++ ·)).flatten := by
  induction l generalizing x with
  | nil => simp [join]
  | cons y l ih => rw [join, ih]; simp
theorem join_snoc (sep x : List UInt8) (l : List (List UInt8)) : join sep (l ++ [x]) = if l = [] then x else join sep l ++ sep ++ x := by
  cases l with
  | nil => simp [join]
  | cons y l => rw [List.cons_append, join_cons, join_cons]; simp

/-- rows of texts, each behind a mark. -/
theorem rows_inj {α : Type} (E : α → List UInt8) (h : UInt8 → Bool) (s0 : UInt8) (sep : List UInt8) (h0 : h s0 = true) (good : α → Prop) :
    ∀ (l m : List α) (e f : List UInt8), (∀ a ∈ l, good a) → (∀ a ∈ m, good a) → (∀ a ∈ l, ∀ b, good b → ∀ r s, hd h r → hd h s → E a ++ r = E b ++ s → a = b ∧ r = s) →
      hd h e → hd h f → hd (fun c => c != s0) e → hd (fun c => c != s0) f →
      (l.map (fun a => (s0 :: sep) ++ E a)).flatten ++ e = (m.map (fun a => (s0 :: sep) ++ E a)).flatten ++ f → l = m ∧ e = f
  | [], [], e, f, _, _, _, _, _, _, _, q => ⟨rfl, by simpa using q⟩
  | [], b :: m, e, f, _, _, _, _, _, he, _, q => by
    simp only [List.map_nil, List.flatten_nil, List.nil_append, List.map_cons, List.flatten_cons, List.cons_append] at q
    have := he s0 (by rw [q]; rfl)
    simp at this
  | a :: l, [], e, f, _, _, _, _, _, _, hf, q => by
    simp only [List.map_nil, List.flatten_nil, List.nil_append, List.map_cons, List.flatten_cons, List.cons_append] at q
    have := hf s0 (by rw [← q]; rfl)
    simp at this
  | a :: l, b :: m, e, f, gl, gm, hi, he, hf, ne, nf, q => by
    simp only [List.map_cons, List.flatten_cons, List.append_assoc, List.append_cancel_left_eq, List.cons_append, List.cons.injEq, true_and] at q
    have tl : ∀ (l : List α) (e : List UInt8), hd h e → hd h ((l.map (fun a => s0 :: (sep ++ E a))).flatten ++ e) := by
      intro l e he
      cases l with
      | nil => simpa using he
      | cons x l => exact hd_cons h0
    obtain ⟨h1, h2⟩ := hi a (by simp) b (gm b (by simp)) _ _ (tl l e he) (tl m f hf) q
    obtain ⟨h3, h4⟩ := rows_inj E h s0 sep h0 good l m e f (fun a ha => gl a (by simp [ha])) (fun a ha => gm a (by simp [ha])) (fun a ha => hi a (by simp [ha])) he hf ne nf h2
    exact ⟨by rw [h1, h3], h4⟩

/-- the same, where a mark stands between them. -/
theorem joins_inj {α : Type} (E : α → List UInt8) (h : UInt8 → Bool) (s0 : UInt8) (sep : List UInt8) (h0 : h s0 = true) (good : α → Prop) (l m : List α) (e f : List UInt8)
    (gl : ∀ a ∈ l, good a) (gm : ∀ a ∈ m, good a) (hi : ∀ a ∈ l, ∀ b, good b → ∀ r s, hd h r → hd h s → E a ++ r = E b ++ s → a = b ∧ r = s)
    (he : hd h e) (hf : hd h f) (ne : hd (fun c => c != s0) e) (nf : hd (fun c => c != s0) f)
    (no : ∀ a, good a → ∀ r s, hd h r → E a ++ s ≠ r)
    (q : join (s0 :: sep) (l.map E) ++ e = join (s0 :: sep) (m.map E) ++ f) : l = m ∧ e = f := by
  cases l with
  | nil =>
    cases m with
    | nil => exact ⟨rfl, by simpa [join] using q⟩
    | cons b m =>
      simp only [List.map_nil, join, List.nil_append, List.map_cons, join_cons, List.append_assoc] at q
      exact (no b (gm b (by simp)) _ _ he q.symm).elim
  | cons a l =>
    cases m with
    | nil =>
      simp only [List.map_nil, join, List.nil_append, List.map_cons, join_cons, List.append_assoc] at q
      exact (no a (gl a (by simp)) _ _ hf q).elim
    | cons b m =>
      simp only [List.map_cons, join_cons, List.append_assoc, List.map_map] at q
      have tl : ∀ (l : List α) (e : List UInt8), hd h e → hd h ((l.map ((fun x => s0 :: sep ++ x) ∘ E)).flatten ++ e) := by
        intro l e he
        cases l with
        | nil => simpa using he
        | cons x l => exact hd_cons h0
      obtain ⟨h1, h2⟩ := hi a (by simp) b (gm b (by simp)) _ _ (tl l e he) (tl m f hf) q
      obtain ⟨h3, h4⟩ := rows_inj E h s0 sep h0 good l m e f (fun a ha => gl a (by simp [ha])) (fun a ha => gm a (by simp [ha])) (fun a ha => hi a (by simp [ha])) he hf ne nf h2
      exact ⟨by rw [h1, h3], h4⟩

/-! ### which names have a dot -/
mutual
def dotted : T → Bool
  | .nil => true
  | .mk k nm _ as r => (k != 6 || (txt nm).contains 46) && dotteds as && dotted r
def dotteds : List T → Bool
  | [] => true
  | t :: l => dotted t && dotteds l
end
theorem dotteds_all (l : List T) : dotteds l = l.all dotted := by
  induction l with
  | nil => rfl
  | cons t l ih => simp [dotteds, ih]
def good (t : T) : Prop := may t = true ∧ dotted t = true


/-- the shapes of types that may be. -/
inductive Shape : T → Prop
  | basic (k : Int) (h1 : 1 ≤ k) (h5 : k ≤ 5) : Shape (.mk k .empty [] [] .nil)
  | name (nm : ByteArray) (h : namedL (txt nm) = true) : Shape (.mk 6 nm [] [] .nil)
  | record (ns : List ByteArray) (as : List T) (hl : ns.length = as.length) (hf : (ns.all fun n => fieldL (txt n)) = true) (hr : rising (ns.map txt) = true) (ha : ∀ a ∈ as, may a = true) : Shape (.mk 7 .empty ns as .nil)
  | fn (as : List T) (r : T) (ha : ∀ a ∈ as, may a = true) (hr : may r = true) : Shape (.mk 8 .empty [] as r)
  | union (as : List T) (hl : 2 ≤ as.length) (hk : ∀ a ∈ as, a.kind ≠ 9 ∧ a.kind ≠ 1) (hr : rising (as.map write) = true) (ha : ∀ a ∈ as, may a = true) : Shape (.mk 9 .empty [] as .nil)
theorem shape {t : T} (h : may t = true) : Shape t := by
  cases t with
  | nil => cases h
  | mk k nm ns as r =>
    unfold may at h
    simp only [Bool.and_eq_true, decide_eq_true_eq, Bool.or_eq_true, beq_iff_eq, List.isEmpty_iff, mays_all, List.all_eq_true] at h
    obtain ⟨⟨⟨⟨⟨⟨⟨h1, h9⟩, hn⟩, hns⟩, has⟩, hr⟩, hall⟩, hx⟩ := h
    have hk : k = 1 ∨ k = 2 ∨ k = 3 ∨ k = 4 ∨ k = 5 ∨ k = 6 ∨ k = 7 ∨ k = 8 ∨ k = 9 := by omega
    have nr : ∀ {k : Int}, k ≠ 8 → (!r.isNil) = (k == 8) → r = .nil := by
      intro k hk e
      cases r with
      | nil => rfl
      | mk => simp [T.isNil] at e; exact (hk e).elim
    have small : ∀ j : Int, 1 ≤ j → j ≤ 5 → k = j → Shape (.mk k nm ns as r) := by
      rintro j hj1 hj5 rfl
      obtain rfl : nm = .empty := hn.resolve_right (by omega)
      obtain rfl : ns = [] := hns.resolve_right (by omega)
      obtain rfl : as = [] := has.resolve_right (by omega)
      obtain rfl := nr (by omega) hr
      exact .basic k hj1 hj5
    rcases hk with e | e | e | e | e | rfl | rfl | rfl | rfl
    · exact small 1 (by omega) (by omega) e
    · exact small 2 (by omega) (by omega) e
    · exact small 3 (by omega) (by omega) e
    · exact small 4 (by omega) (by omega) e
    · exact small 5 (by omega) (by omega) e
    · obtain rfl : ns = [] := hns.resolve_right (by omega)
      obtain rfl : as = [] := has.resolve_right (by omega)
      obtain rfl := nr (by omega) hr
      exact .name nm (by simpa using hx)
    · obtain rfl : nm = .empty := hn.resolve_right (by omega)
      obtain rfl := nr (by omega) hr
      rw [if_neg (by omega), if_pos rfl] at hx
      simp only [Bool.and_eq_true, beq_iff_eq] at hx
      exact .record ns as hx.1.1 hx.1.2 hx.2 hall
    · obtain rfl : nm = .empty := hn.resolve_right (by omega)
      obtain rfl : ns = [] := hns.resolve_right (by omega)
      rw [if_neg (by omega), if_neg (by omega), if_pos rfl] at hx
      exact .fn as r hall hx
    · obtain rfl : nm = .empty := hn.resolve_right (by omega)
      obtain rfl : ns = [] := hns.resolve_right (by omega)
      obtain rfl := nr (by omega) hr
      rw [if_neg (by omega), if_neg (by omega), if_neg (by omega), if_pos rfl] at hx
      simp only [Bool.and_eq_true, decide_eq_true_eq, List.all_eq_true, Bool.not_eq_true', beq_eq_false_iff_ne, writes_map] at hx
      exact .union as hx.1.1 hx.1.2 hx.2 hall


/-! ### a text tells its type -/
def hF (c : UInt8) : Bool := c.toNat == 44 || c.toNat == 125 || c.toNat == 41
def hA (c : UInt8) : Bool := hF c || c.toNat == 32
theorem nameC_bool (c : UInt8) (h : hA c = true) : nameC c = false := by
  simp only [hA, hF, Bool.or_eq_true, beq_iff_eq] at h
  rcases h with ((h | h) | h) | h <;> simp [nameC, letter, digit, h]
theorem hA_of_hF {r : List UInt8} (h : hd hF r) : hd hA r := fun c e => by rw [hA, h c e]; rfl
theorem hn_of_hA {r : List UInt8} (h : hd hA r) : hd (fun c => !nameC c) r := fun c e => by
  show (!nameC c) = true
  rw [nameC_bool c (h c e)]; rfl

theorem write_basic {k : Int} (h1 : 1 ≤ k) (h5 : k ≤ 5) : write (.mk k .empty [] [] .nil) = word k := by
  rw [write, if_neg (by omega), if_neg (by omega), if_neg (by omega), if_neg (by omega)]
theorem write_name (nm : ByteArray) : write (.mk 6 nm [] [] .nil) = txt nm := by rw [write, if_pos rfl]
theorem write_rec (ns : List ByteArray) (as : List T) : write (.mk 7 .empty ns as .nil) = 123 :: (join [44, 32] ((ns.zip as).map fun x => txt x.1 ++ [58, 32] ++ write x.2) ++ [125]) := by
  rw [write, if_neg (by omega), if_pos rfl, writes_map, List.zipWith_map_right]
  rw [List.zip, List.map_zipWith]
  rfl
theorem write_fun (as : List T) (r : T) : write (.mk 8 .empty [] as r) = [102, 110, 40] ++ join [44, 32] (as.map write) ++ [41, 32, 45, 62, 32] ++ write r := by
  rw [write, if_neg (by omega), if_neg (by omega), if_pos rfl, writes_map]
theorem write_union (as : List T) : write (.mk 9 .empty [] as .nil) = join [32, 124, 32] (as.map fun a => inPar a.kind (write a)) := by
  rw [write, if_neg (by omega), if_neg (by omega), if_neg (by omega), if_pos rfl, writes_map, List.zipWith_map_right]
  congr 1
  induction as with
  | nil => rfl
  | cons a l ih => simp [ih]
theorem word_all {k : Int} (h1 : 1 ≤ k) (h5 : k ≤ 5) : (word k).all nameC = true ∧ word k ≠ [] ∧ word k ≠ [102, 110] ∧ (word k).contains 46 = false := by
  have hk : k = 1 ∨ k = 2 ∨ k = 3 ∨ k = 4 ∨ k = 5 := by omega
  rcases hk with rfl | rfl | rfl | rfl | rfl <;> decide
theorem word_inj {k j : Int} (h1 : 1 ≤ k) (h5 : k ≤ 5) (j1 : 1 ≤ j) (j5 : j ≤ 5) (h : word k = word j) : k = j := by
  have hk : k = 1 ∨ k = 2 ∨ k = 3 ∨ k = 4 ∨ k = 5 := by omega
  have hj : j = 1 ∨ j = 2 ∨ j = 3 ∨ j = 4 ∨ j = 5 := by omega
  rcases hk with rfl | rfl | rfl | rfl | rfl <;> rcases hj with rfl | rfl | rfl | rfl | rfl <;> first | rfl | (exact absurd h (by decide))
theorem named_all {s : List UInt8} (h : namedL s = true) : s.all nameC = true ∧ s ≠ [] := by
  simp only [namedL, Bool.and_eq_true, decide_eq_true_eq] at h
  refine ⟨h.2, ?_⟩
  rintro rfl
  simp at h


theorem good_parts {k : Int} {nm : ByteArray} {ns : List ByteArray} {as : List T} {r : T} (h : good (.mk k nm ns as r)) : (∀ a ∈ as, good a) ∧ (r ≠ .nil → k = 8 → good r) := by
  obtain ⟨h1, h2⟩ := h
  have h3 := h2
  unfold dotted at h3
  simp only [Bool.and_eq_true, dotteds_all, List.all_eq_true] at h3
  have hs := shape h1
  unfold may at h1
  simp only [Bool.and_eq_true, mays_all, List.all_eq_true] at h1
  refine ⟨fun a ha => ⟨h1.1.2 a ha, h3.1.2 a ha⟩, fun _ e => ?_⟩
  subst e
  have := h1.2
  rw [if_neg (by omega), if_neg (by omega), if_pos rfl] at this
  exact ⟨this, h3.2⟩

/-- how the text of an atom begins. -/
theorem atom_head {t : T} (h : good t) (h8 : t.kind ≠ 8) (h9 : t.kind ≠ 9) : ((write t).all nameC = true ∧ write t ≠ [] ∧ write t ≠ [102, 110] ∧ t.kind ≠ 7) ∨ (∃ ns as, t = .mk 7 .empty ns as .nil) := by
  have hs := shape h.1
  have hd := h.2
  cases hs with
  | basic k h1 h5 =>
    obtain ⟨a, b, c, _⟩ := word_all h1 h5
    rw [write_basic h1 h5]
    exact .inl ⟨a, b, c, by show k ≠ 7; omega⟩
  | name nm hn =>
    rw [write_name]
    obtain ⟨a, b⟩ := named_all hn
    refine .inl ⟨a, b, fun e => ?_, by show (6 : Int) ≠ 7; omega⟩
    unfold dotted at hd
    simp [e] at hd
  | record ns as => exact .inr ⟨ns, as, rfl⟩
  | fn => exact (h8 rfl).elim
  | union => exact (h9 rfl).elim

/-- a text's first byte is none that stands behind a type. -/
theorem head_of : ∀ t, good t → ∃ c l, write t = c :: l ∧ hA c = false := by
  refine ind (fun h => by cases h.1) fun k nm ns as r ha _ h => ?_
  have hs := shape h.1
  have hp := (good_parts h).1
  have notA : ∀ c, nameC c = true → hA c = false := fun c hc => by
    cases hx : hA c with
    | false => rfl
    | true => rw [nameC_bool c hx] at hc; cases hc
  by_cases hk : k = 8 ∨ k = 9
  · cases hs with
    | basic _ h1 h5 => omega
    | name => omega
    | record => omega
    | fn => rw [write_fun]; exact ⟨102, _, rfl, by decide⟩
    | union _ hl =>
      rw [write_union]
      cases as with
      | nil => simp at hl
      | cons a as =>
        rw [List.map_cons, join_cons]
        unfold inPar
        split
        · exact ⟨40, _, rfl, by decide⟩
        · obtain ⟨c, l, e, hc⟩ := ha a (by simp) (hp a (by simp))
          rw [e]
          exact ⟨c, _, rfl, hc⟩
  · rcases atom_head h (fun e => hk (.inl e)) (fun e => hk (.inr e)) with ⟨h1, h2, _⟩ | ⟨ns', as', e⟩
    · cases hw : write (.mk k nm ns as r) with
      | nil => exact (h2 hw).elim
      | cons c l =>
        rw [hw] at h1
        simp only [List.all_cons, Bool.and_eq_true] at h1
        exact ⟨c, l, rfl, notA c h1.1⟩
    · rw [e, write_rec]
      exact ⟨123, _, rfl, by decide⟩

def tellB (t : T) : Prop := ∀ u, good u → ∀ r s, hd hF r → hd hF s → write t ++ r = write u ++ s → t = u ∧ r = s
def tellA (t : T) : Prop := t.kind ≠ 8 → t.kind ≠ 9 → ∀ u, good u → u.kind ≠ 8 → u.kind ≠ 9 → ∀ r s, hd hA r → hd hA s → write t ++ r = write u ++ s → t = u ∧ r = s

theorem zip_inj {α β : Type} : ∀ {a a' : List α} {b b' : List β}, a.length = b.length → a'.length = b'.length → a.zip b = a'.zip b' → a = a' ∧ b = b'
  | [], [], [], [], _, _, _ => ⟨rfl, rfl⟩
  | x :: a, x' :: a', y :: b, y' :: b', h, h', e => by
    simp only [List.zip_cons_cons, List.cons.injEq, Prod.mk.injEq] at e
    obtain ⟨h1, h2⟩ := zip_inj (by simpa using h) (by simpa using h') e.2
    exact ⟨by rw [e.1.1, h1], by rw [e.1.2, h2]⟩
  | [], x' :: a', [], y' :: b', _, _, e => by simp at e
  | x :: a, [], y :: b, [], _, _, e => by simp at e

theorem field_all {s : List UInt8} (h : fieldL s = true) : (s.all fun c => letter c || digit c) = true ∧ s ≠ [] := by
  simp only [fieldL, Bool.and_eq_true] at h
  refine ⟨h.2, ?_⟩
  rintro rfl
  simp at h

theorem tellA_of {t : T} (g : good t) (ih : ∀ a ∈ t.args, tellB a) : tellA t := by
  intro h8 h9 u gu u8 u9 r s hr hs q
  have ht := atom_head g h8 h9
  have hu := atom_head gu u8 u9
  rcases ht with ⟨t1, t2, t3, t7⟩ | ⟨ns, as, rfl⟩ <;> rcases hu with ⟨u1, u2, u3, u7⟩ | ⟨ms, bs, rfl⟩
  · obtain ⟨e, e'⟩ := run_inj t1 u1 (hn_of_hA hr) (hn_of_hA hs) q
    refine ⟨?_, e'⟩
    have st := shape g.1
    have su := shape gu.1
    have dt := g.2
    have du := gu.2
    cases st with
    | basic k h1 h5 =>
      rw [write_basic h1 h5] at e
      cases su with
      | basic j j1 j5 => rw [write_basic j1 j5] at e; rw [word_inj h1 h5 j1 j5 e]
      | name nm hn =>
        rw [write_name] at e
        have := (word_all h1 h5).2.2.2
        unfold dotted at du
        rw [← e, this] at du
        simp at du
      | record => exact (u7 rfl).elim
      | fn => exact (u8 rfl).elim
      | union => exact (u9 rfl).elim
    | name nm hn =>
      rw [write_name] at e
      cases su with
      | basic j j1 j5 =>
        rw [write_basic j1 j5] at e
        have := (word_all j1 j5).2.2.2
        unfold dotted at dt
        rw [e, this] at dt
        simp at dt
      | name nm' hn' => rw [write_name] at e; rw [txt_inj e]
      | record => exact (u7 rfl).elim
      | fn => exact (u8 rfl).elim
      | union => exact (u9 rfl).elim
    | record => exact (t7 rfl).elim
    | fn => exact (h8 rfl).elim
    | union => exact (h9 rfl).elim
  · rw [write_rec] at q
    cases hw : write t with
    | nil => exact (t2 hw).elim
    | cons c l =>
      rw [hw] at q t1
      simp only [List.cons_append, List.cons.injEq] at q
      rw [q.1] at t1
      simp [nameC, letter, digit] at t1
  · rw [write_rec] at q
    cases hw : write u with
    | nil => exact (u2 hw).elim
    | cons c l =>
      rw [hw] at q u1
      simp only [List.cons_append, List.cons.injEq] at q
      rw [← q.1] at u1
      simp [nameC, letter, digit] at u1
  · rw [write_rec, write_rec] at q
    replace q := (List.cons.inj q).2
    simp only [List.append_eq] at q
    rw [List.append_assoc, List.append_assoc] at q
    have sg := shape g.1
    have su := shape gu.1
    have pg := (good_parts g).1
    have pu := (good_parts gu).1
    cases sg with
    | basic => omega
    | record _ _ hl hf hrs ha =>
      cases su with
      | basic => omega
      | record _ _ hl' hf' hrs' ha' =>
        have hF1 : ∀ r, hd hF ([125] ++ r) := fun r => hd_cons (by decide)
        have hN1 : ∀ r, hd (fun c => c != 44) ([125] ++ r) := fun r => hd_cons (by decide)
        simp only [List.all_eq_true] at hf hf'
        obtain ⟨e, e'⟩ := joins_inj (fun x : ByteArray × T => txt x.1 ++ [58, 32] ++ write x.2) hF 44 [32] (by decide) (fun x => fieldL (txt x.1) = true ∧ good x.2) (ns.zip as) (ms.zip bs) ([125] ++ r) ([125] ++ s)
          (fun x hx => ⟨hf _ (List.of_mem_zip hx).1, pg _ (List.of_mem_zip hx).2⟩) (fun x hx => ⟨hf' _ (List.of_mem_zip hx).1, pu _ (List.of_mem_zip hx).2⟩)
          (fun x hx y hy r s hr hs q => by
            simp only [List.append_assoc] at q
            have hcol : ∀ z, hd (fun c => !(letter c || digit c)) ([58, 32] ++ z) := fun z => hd_cons (by decide)
            obtain ⟨e1, e2⟩ := run_inj (field_all (hf _ (List.of_mem_zip hx).1)).1 (field_all hy.1).1 (hcol _) (hcol _) q
            obtain ⟨e3, e4⟩ := ih _ (List.of_mem_zip hx).2 _ hy.2 r s hr hs (List.append_cancel_left e2)
            exact ⟨Prod.ext (txt_inj e1) e3, e4⟩)
          (hF1 r) (hF1 s) (hN1 r) (hN1 s)
          (fun x hx r s hr e => by
            obtain ⟨h1, h2⟩ := field_all hx.1
            cases hw : txt x.1 with
            | nil => exact h2 hw
            | cons c l =>
              rw [hw] at h1
              simp only [List.all_cons, Bool.and_eq_true] at h1
              have := hr c (by rw [← e, hw]; rfl)
              have hc : nameC c = false := nameC_bool c (by rw [hA, this]; rfl)
              simp [nameC, h1.1] at hc)
          q
        obtain ⟨rfl, rfl⟩ := zip_inj hl hl' e
        exact ⟨rfl, by simpa using e'⟩

theorem atom_open {y : T} {s z : List UInt8} (gy : good y) (h8 : y.kind ≠ 8) (h9 : y.kind ≠ 9) : 40 :: z ≠ write y ++ s := by
  intro q
  rcases atom_head gy h8 h9 with ⟨h1, h2, _⟩ | ⟨ns, as, rfl⟩
  · cases hw : write y with
    | nil => exact h2 hw
    | cons c l =>
      rw [hw] at q h1
      simp only [List.cons_append, List.cons.injEq] at q
      rw [← q.1] at h1
      simp [nameC, letter, digit] at h1
  · rw [write_rec] at q
    simp at q
theorem atom_fn {y : T} {s z : List UInt8} (gy : good y) (h8 : y.kind ≠ 8) (h9 : y.kind ≠ 9) (hs : hd hA s) : 102 :: 110 :: 40 :: z ≠ write y ++ s := by
  intro q
  rcases atom_head gy h8 h9 with ⟨h1, h2, h3, _⟩ | ⟨ns, as, rfl⟩
  · obtain ⟨e, _⟩ := run_inj (p := nameC) (x := [102, 110]) (r := 40 :: z) (by decide) h1 (hd_cons (by decide)) (hn_of_hA hs) q
    exact h3 e.symm
  · rw [write_rec] at q
    simp at q

/-- what stands between the marks of a union. -/
theorem tellP {a : T} (ga : good a) (a9 : a.kind ≠ 9) (h : tellA a ∧ tellB a) {b : T} (gb : good b) (b9 : b.kind ≠ 9) {r s : List UInt8} (hr : hd hA r) (hs : hd hA s) (q : inPar a.kind (write a) ++ r = inPar b.kind (write b) ++ s) : a = b ∧ r = s := by
  unfold inPar at q
  by_cases a8 : a.kind = 8 <;> by_cases b8 : b.kind = 8
  · rw [if_pos a8, if_pos b8] at q
    simp only [List.cons_append, List.cons.injEq, true_and, List.append_assoc] at q
    obtain ⟨e, e'⟩ := h.2 b gb _ _ (hd_cons (by decide)) (hd_cons (by decide)) q
    exact ⟨e, by simpa using e'⟩
  · rw [if_pos a8, if_neg b8] at q
    exact (atom_open gb b8 b9 q).elim
  · rw [if_neg a8, if_pos b8] at q
    exact (atom_open ga a8 a9 q.symm).elim
  · rw [if_neg a8, if_neg b8] at q
    exact h.1 a8 a9 b gb b8 b9 r s hr hs q

theorem union_head {as : List T} {r : List UInt8} (hl : 2 ≤ as.length) : ∃ a z, a ∈ as ∧ write (.mk 9 .empty [] as .nil) ++ r = inPar a.kind (write a) ++ 32 :: z := by
  match as, hl with
  | a :: b :: l, _ => exact ⟨a, _, by simp, by rw [write_union, List.map_cons, join_cons, List.append_assoc]; rfl⟩

theorem tell : ∀ t, good t → tellA t ∧ tellB t := by
  refine ind (fun h => by cases h.1) fun k nm ns as ret ihA ihR g => ?_
  have gp := good_parts g
  have hA1 := tellA_of g fun a ha => (ihA a ha (gp.1 a ha)).2
  refine ⟨hA1, fun u gu r s hr hs q => ?_⟩
  have sg := shape g.1
  have su := shape gu.1
  have gq := gu
  by_cases hat : k ≠ 8 ∧ k ≠ 9
  · by_cases hau : u.kind ≠ 8 ∧ u.kind ≠ 9
    · exact hA1 hat.1 hat.2 u gu hau.1 hau.2 r s (hA_of_hF hr) (hA_of_hF hs) q
    · cases su with
      | basic j => exact (hau ⟨by show j ≠ 8; omega, by show j ≠ 9; omega⟩).elim
      | name => exact (hau ⟨by show (6 : Int) ≠ 8; omega, by show (6 : Int) ≠ 9; omega⟩).elim
      | record => exact (hau ⟨by show (7 : Int) ≠ 8; omega, by show (7 : Int) ≠ 9; omega⟩).elim
      | fn =>
        rw [write_fun] at q
        exact (atom_fn g hat.1 hat.2 (hA_of_hF hr) q.symm).elim
      | union bs hl hk =>
        obtain ⟨b, z, hb, e⟩ := union_head (r := s) hl
        rw [e] at q
        have gb := (good_parts gu).1 b hb
        by_cases b8 : b.kind = 8
        · unfold inPar at q
          rw [if_pos b8] at q
          exact (atom_open g hat.1 hat.2 q.symm).elim
        · unfold inPar at q
          rw [if_neg b8] at q
          obtain ⟨_, e'⟩ := hA1 hat.1 hat.2 b gb b8 (hk b hb).1 r _ (hA_of_hF hr) (hd_cons (by decide)) q
          have := hr 32 (by rw [e']; rfl)
          exact absurd this (by decide)
  · cases sg with
    | basic => omega
    | name => omega
    | record => omega
    | fn _ _ ha hrm =>
      cases su with
      | basic j h1 h5 => rw [write_fun] at q; exact (atom_fn gu (by show j ≠ 8; omega) (by show j ≠ 9; omega) (hA_of_hF hs) q).elim
      | name => rw [write_fun] at q; exact (atom_fn gu (by show (6 : Int) ≠ 8; omega) (by show (6 : Int) ≠ 9; omega) (hA_of_hF hs) q).elim
      | record => rw [write_fun] at q; exact (atom_fn gu (by show (7 : Int) ≠ 8; omega) (by show (7 : Int) ≠ 9; omega) (hA_of_hF hs) q).elim
      | fn bs ret' hb hrm' =>
        rw [write_fun, write_fun] at q
        simp only [List.append_assoc, List.append_cancel_left_eq] at q
        have gpu := good_parts gu
        obtain ⟨e, e'⟩ := joins_inj write hF 44 [32] (by decide) good as bs _ _ gp.1 gpu.1 (fun a ha b hb r s hr hs q => (ihA a ha (gp.1 a ha)).2 b hb r s hr hs q)
          (hd_cons (by decide)) (hd_cons (by decide)) (hd_cons (by decide)) (hd_cons (by decide))
          (fun a ha r s hr e => by
            obtain ⟨c, l, h1, h2⟩ := head_of a ha
            have := hr c (by rw [← e, h1]; rfl)
            rw [hA, this] at h2
            cases h2) q
        have e' : write ret ++ r = write ret' ++ s := by simpa using e'
        have hn : ∀ {x : T}, may x = true → x ≠ .nil := by rintro x hx rfl; cases hx
        obtain ⟨e1, e2⟩ := (ihR (gp.2 (hn hrm) rfl)).2 ret' (gpu.2 (hn hrm') rfl) r s hr hs e'
        exact ⟨by rw [e, e1], e2⟩
      | union bs hl hk =>
        obtain ⟨b, z, hb, e⟩ := union_head (r := s) hl
        rw [e, write_fun] at q
        have gb := (good_parts gu).1 b hb
        unfold inPar at q
        by_cases b8 : b.kind = 8
        · rw [if_pos b8] at q
          simp at q
        · rw [if_neg b8] at q
          exact (atom_fn gb b8 (hk b hb).1 (hd_cons (by decide)) q).elim
    | union _ hl hk =>
      by_cases hau : u.kind = 9
      · cases su with
        | basic => simp only [T.kind] at hau; omega
        | name => simp [T.kind] at hau
        | record => simp [T.kind] at hau
        | fn => simp [T.kind] at hau
        | union bs hl' hk' =>
          rw [write_union, write_union] at q
          have gpu := good_parts gu
          have nA : ∀ {r}, hd hF r → hd (fun c => c != 32) r := fun hr c e => by
            have := hr c e
            cases hc : (c != 32) with
            | true => exact hc
            | false => rw [bne_eq_false_iff_eq] at hc; subst hc; exact absurd this (by decide)
          obtain ⟨e, e'⟩ := joins_inj (fun a => inPar a.kind (write a)) hA 32 [124, 32] (by decide) (fun a => good a ∧ a.kind ≠ 9) as bs r s (fun a ha => ⟨gp.1 a ha, (hk a ha).1⟩) (fun a ha => ⟨gpu.1 a ha, (hk' a ha).1⟩)
            (fun a ha b hb r s hr hs q => tellP (gp.1 a ha) (hk a ha).1 (ihA a ha (gp.1 a ha)) hb.1 hb.2 hr hs q)
            (hA_of_hF hr) (hA_of_hF hs) (nA hr) (nA hs)
            (fun a ha r s hr e => by
              unfold inPar at e
              split at e
              · have := hr 40 (by rw [← e]; rfl)
                exact absurd this (by decide)
              · obtain ⟨c, l, h1, h2⟩ := head_of a ha.1
                have := hr c (by rw [← e, h1]; rfl)
                rw [this] at h2
                cases h2) q
          exact ⟨by rw [e], e'⟩
      · obtain ⟨a, z, ha, e⟩ := union_head (r := r) hl
        rw [e] at q
        have ga := gp.1 a ha
        unfold inPar at q
        by_cases u8 : u.kind = 8
        · cases su with
          | basic => simp only [T.kind] at u8; omega
          | name => simp [T.kind] at u8
          | record => simp [T.kind] at u8
          | union => simp [T.kind] at u8
          | fn bs ret' =>
            rw [write_fun] at q
            by_cases a8 : a.kind = 8
            · rw [if_pos a8] at q
              simp at q
            · rw [if_neg a8] at q
              exact (atom_fn ga a8 (hk a ha).1 (hd_cons (by decide)) q.symm).elim
        · by_cases a8 : a.kind = 8
          · rw [if_pos a8] at q
            exact (atom_open gu u8 hau q).elim
          · rw [if_neg a8] at q
            obtain ⟨_, e'⟩ := (ihA a ha ga).1 a8 (hk a ha).1 u gu u8 hau _ s (hd_cons (by decide)) (hA_of_hF hs) q
            have := hs 32 (by rw [← e']; rfl)
            exact absurd this (by decide)

/-- A TEXT TELLS ITS TYPE. -/
theorem write_inj {t u : T} (ht : good t) (hu : good u) (h : write t = write u) : t = u := by
  have hnil : hd hF [] := fun c e => by cases e
  exact ((tell t ht).2 u hu [] [] hnil hnil (by rw [h])).1

/-! ### no text is long -/
theorem join_len (sep : List UInt8) (c : Nat) {α : Type} (E : α → List UInt8) (m : α → Nat) : ∀ l : List α, (∀ a ∈ l, (E a).length + sep.length + c ≤ m a) → (join sep (l.map E)).length + c * l.length ≤ (l.map m).sum
  | [], _ => by simp [join]
  | [a], h => by
    have := h a (by simp)
    simp [join]; omega
  | a :: b :: l, h => by
    have ih := join_len sep c E m (b :: l) fun x hx => h x (by simp [hx])
    have := h a (by simp)
    simp only [List.map_cons, join, List.length_append, List.length_cons, List.sum_cons] at ih ⊢
    have : c * (l.length + 1 + 1) = c * (l.length + 1) + c := by rw [Nat.mul_add c (l.length + 1) 1, Nat.mul_one]
    omega
theorem sizes_sum (l : List T) : (l.map fun a => 200 * size a).sum = 200 * sizes l := by
  induction l with
  | nil => rfl
  | cons t l ih => simp only [List.map_cons, List.sum_cons, ih, sizes]; omega
theorem zip_sum : ∀ (ns : List ByteArray) (as : List T), ns.length = as.length → ((ns.zip as).map fun x => 200 * size x.2).sum = 200 * sizes as
  | [], [], _ => rfl
  | n :: ns, a :: as, h => by
    have := zip_sum ns as (by simpa using h)
    simp only [List.zip_cons_cons, List.map_cons, List.sum_cons, this, sizes]; omega
theorem write_len : ∀ t, may t = true → (write t).length + 30 ≤ 200 * size t := by
  refine ind (fun h => by cases h) fun k nm ns as r ihA ihR h => ?_
  have hs := shape h
  have h1 : ∀ a ∈ as, may a = true := by
    unfold may at h
    simp only [Bool.and_eq_true, mays_all, List.all_eq_true] at h
    exact h.1.2
  have ih : ∀ a ∈ as, (write a).length + 30 ≤ 200 * size a := fun a ha => ihA a ha (h1 a ha)
  have hsz : size (.mk k nm ns as r) = 1 + sizes as + size r := by rw [size]
  rw [hsz]
  cases hs with
  | basic _ g1 g5 =>
    rw [write_basic g1 g5]
    have : (word k).length ≤ 4 := by
      have hk : k = 1 ∨ k = 2 ∨ k = 3 ∨ k = 4 ∨ k = 5 := by omega
      rcases hk with rfl | rfl | rfl | rfl | rfl <;> decide
    omega
  | name _ hn =>
    rw [write_name]
    simp only [namedL, Bool.and_eq_true, decide_eq_true_eq] at hn
    omega
  | record _ _ hl hf hr ha =>
    rw [write_rec]
    simp only [List.all_eq_true] at hf
    have := join_len [44, 32] 0 (fun x : ByteArray × T => txt x.1 ++ [58, 32] ++ write x.2) (fun x => 200 * size x.2) (ns.zip as) (fun x hx => by
      have := ih _ (List.of_mem_zip hx).2
      have hx1 := hf _ (List.of_mem_zip hx).1
      simp only [fieldL, Bool.and_eq_true, decide_eq_true_eq] at hx1
      simp only [List.length_append, List.length_cons, List.length_nil]
      omega)
    rw [zip_sum ns as hl] at this
    simp only [List.length_cons, List.length_append, List.length_nil]
    omega
  | fn _ _ ha hr =>
    rw [write_fun]
    have := join_len [44, 32] 0 write (fun x => 200 * size x) as fun x hx => by
      have := ih x hx
      simp only [List.length_cons, List.length_nil]
      omega
    rw [sizes_sum] at this
    have := ihR hr
    simp only [List.length_cons, List.length_append, List.length_nil]
    omega
  | union _ hl hk hr ha =>
    rw [write_union]
    have := join_len [32, 124, 32] 0 (fun a => inPar a.kind (write a)) (fun x => 200 * size x) as fun x hx => by
      have := ih x hx
      have : (inPar x.kind (write x)).length ≤ (write x).length + 2 := by unfold inPar; split <;> simp
      simp only [List.length_cons, List.length_nil]
      omega
    rw [sizes_sum] at this
    have : 0 < size (.nil : T) + 1 := by omega
    omega

end Go.Ty
