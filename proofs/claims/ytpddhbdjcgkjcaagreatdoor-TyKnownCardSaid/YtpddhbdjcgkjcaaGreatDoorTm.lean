/- The law's own maker of types, as a function of choices. Plain Lean. -/
import Derived.Test.YtpddhbdjcgkjcaaGreatDoorTu
namespace Go.Ty

/-- choices that are left; how many types were begun. -/
structure Mk where
  left : List UInt8
  nodes : Nat
/-- a choice below n. -/
def Mk.next (m : Mk) (n : Nat) : Nat × Mk := match m.left with
  | [] => (0, m)
  | c :: l => (c.toNat % n, ⟨l, m.nodes⟩)
/-- a, b, c, d, _x, a, b, none, 1. -/
def nameOf (i : Nat) : ByteArray := bs (([[97], [98], [99], [100], [95, 120], [97], [98], [], [49]] : List (List UInt8)).getD i [])
/-- m.T, m.U, lib/x.T, none, a b. -/
def tyNameOf (i : Nat) : ByteArray := bs (([[109, 46, 84], [109, 46, 85], [108, 105, 98, 47, 120, 46, 84], [], [97, 32, 98]] : List (List UInt8)).getD i [])
def Mk.name (m : Mk) : ByteArray × Mk :=
  let a := m.next 20
  let b := a.2.next (if a.1 < 19 then 7 else 9)
  (nameOf b.1, b.2)
def Mk.namesN : Nat → Mk → List ByteArray × Mk
  | 0, m => ([], m)
  | n + 1, m => let a := m.name; let b := namesN n a.2; (a.1 :: b.1, b.2)
def Mk.manyN (one : Mk → T × Mk) : Nat → Mk → List T × Mk
  | 0, m => ([], m)
  | n + 1, m => let a := one m; let b := manyN one n a.2; (a.1 :: b.1, b.2)
def Mk.some (one : Mk → T × Mk) (m : Mk) : List T × Mk := let a := m.next 4; manyN one a.1 a.2
/-- a type of a kind, of parts. -/
def madeF (t : T) : T × Int := if t.kind = 7 then recF t.names t.args else if t.kind = 8 then funF t.args t.ret else if t.kind = 9 then unionF t.args else (t, 0)
/-- its end: laid as it comes, or made. -/
def Mk.fin (raw : Bool) (t : T) (m : Mk) : T × Mk :=
  if raw then
    let a := m.next 6
    let b : Int × Mk := if a.1 = 5 then let c := a.2.next 12; ((c.1 : Int) - 1, c.2) else (t.kind, a.2)
    let d := b.2.next 9
    (if d.1 = 8 then .nil else .mk b.1 t.name t.names t.args t.ret, d.2)
  else (if (madeF t).2 ≠ 0 then .mk 2 .empty [] [] .nil else (madeF t).1, m)
def Mk.one : Nat → Mk → T × Mk
  | d, m0 =>
    let m1 : Mk := ⟨m0.left, m0.nodes + 1⟩
    let a := m1.next 9
    let b := if d < 1 ∨ m1.nodes > 150 then a.2.next 6 else a
    let k : Int := 1 + b.1
    let r := b.2.next 30
    let raw := r.1 == 29
    if k = 6 then
      let x := r.2.next 3
      let y := if raw then x.2.next 5 else x
      Mk.fin raw (.mk 6 (tyNameOf y.1) [] [] .nil) y.2
    else match d with
    | 0 => Mk.fin raw (.mk k .empty [] [] .nil) r.2
    | d + 1 =>
      if k = 7 then
        let l := Mk.some (Mk.one d) r.2
        let n := Mk.namesN l.1.length l.2
        Mk.fin raw (.mk 7 .empty n.1 l.1 .nil) n.2
      else if k = 8 then
        let l := Mk.some (Mk.one d) r.2
        let t := Mk.one d l.2
        Mk.fin raw (.mk 8 .empty [] l.1 t.1) t.2
      else if k = 9 then
        let l := Mk.some (Mk.one d) r.2
        Mk.fin raw (.mk 9 .empty [] l.1 .nil) l.2
      else Mk.fin raw (.mk k .empty [] [] .nil) r.2
/-- of choices. -/
def typF (c : List UInt8) : T := (Mk.one 4 ⟨c.take 300, 0⟩).1
def listF (c : List UInt8) : List T := let a := (⟨c.take 300, 0⟩ : Mk).next 6; (Mk.manyN (Mk.one 3) a.1 a.2).1

/-! ### what may be has dots -/
/-- if it may be, its names have dots. -/
def Dm (t : T) : Prop := may t = true → dotted t = true
theorem dm_of_kind {k : Int} {nm : ByteArray} {ns : List ByteArray} {as : List T} {r : T} (hn : namedL (txt nm) = true → (txt nm).contains 46 = true) (ha : ∀ a ∈ as, Dm a) (hr : Dm r) : Dm (.mk k nm ns as r) := by
  intro h
  have h' := h
  have hs := shape h
  obtain ⟨mA, mR, _⟩ := may_args h
  have hA : ∀ a ∈ as, dotted a = true := fun a hx => ha a hx (mA a hx)
  cases hs with
  | basic _ _ h5 => exact dotted_iff.2 ⟨fun e => by omega, hA, rfl⟩
  | name _ h1 => exact dotted_iff.2 ⟨fun _ => hn h1, hA, rfl⟩
  | record => exact dotted_iff.2 ⟨fun e => by omega, hA, rfl⟩
  | fn => exact dotted_iff.2 ⟨fun e => by omega, hA, hr (mR rfl)⟩
  | union => exact dotted_iff.2 ⟨fun e => by omega, hA, rfl⟩
theorem dm_nil : Dm .nil := fun h => by cases h
theorem dm_made {t : T} (ht : Dm t) (ha : ∀ a ∈ t.args, Dm a) (hr : Dm t.ret) : (madeF t).2 = 0 → Dm (madeF t).1 := by
  have key : ∀ {l : List T}, (∀ a ∈ l, Dm a) → (∀ a ∈ l, check a = 0) → ∀ a ∈ l, dotted a = true := fun h1 h2 a hx => h1 a hx (check_iff.1 (h2 a hx)).1
  unfold madeF
  split
  · intro h _
    exact recF_parts parts_dotted (key ha (recF_ok h).2.2.1)
  split
  · intro h _
    obtain ⟨_, h1, h2, _⟩ := funF_ok h
    exact funF_parts parts_dotted (key ha h1) (hr (check_iff.1 h2).1)
  split
  · intro h _
    exact unionF_dotted (key ha (unionF_ok h).2.2.1)
  · exact fun _ => ht
theorem tyName_dot (i : Nat) : namedL (txt (tyNameOf i)) = true → (txt (tyNameOf i)).contains 46 = true := by
  unfold tyNameOf
  rw [txt_bs]
  match i with
  | 0 => decide
  | 1 => decide
  | 2 => decide
  | 3 => decide
  | 4 => decide
  | n + 5 => intro h; simp [namedL] at h
theorem dm_ite {c : Prop} [Decidable c] {x y : T × Mk} (hx : Dm x.1) (hy : Dm y.1) : Dm (if c then x else y).1 := by
  split
  · exact hx
  · exact hy
theorem dm_fin {raw : Bool} {k : Int} {nm : ByteArray} {ns : List ByteArray} {as : List T} {r : T} {m : Mk} (hn : namedL (txt nm) = true → (txt nm).contains 46 = true) (ha : ∀ a ∈ as, Dm a) (hr : Dm r) : Dm (Mk.fin raw (.mk k nm ns as r) m).1 := by
  have key : ∀ b : Int × Mk, Dm (if (b.2.next 9).1 = 8 then .nil else .mk b.1 nm ns as r) := by
    intro b
    split
    · exact dm_nil
    · exact dm_of_kind hn ha hr
  unfold Mk.fin
  refine dm_ite (key _) ?_
  dsimp only
  split
  · exact dm_of_kind (fun h => absurd h (by decide)) (fun a h => by cases h) dm_nil
  · rename_i h
    exact dm_made (dm_of_kind hn ha hr) ha hr (by simpa using h)
theorem many_all {p : T → Prop} {one : Mk → T × Mk} (h : ∀ m, p (one m).1) : ∀ n m, ∀ t ∈ (Mk.manyN one n m).1, p t
  | 0, m, t, ht => by cases ht
  | n + 1, m, t, ht => by
    rcases List.mem_cons.1 ht with rfl | ht
    · exact h m
    · exact many_all h n _ t ht
theorem dm_one : ∀ d m, Dm (Mk.one d m).1 := by
  have e0 : namedL (txt .empty) = true → (txt .empty).contains 46 = true := by decide
  have nA : ∀ a ∈ ([] : List T), Dm a := fun a h => by cases h
  intro d
  induction d with
  | zero =>
    intro m
    unfold Mk.one
    exact dm_ite (dm_fin (tyName_dot _) nA dm_nil) (dm_fin e0 nA dm_nil)
  | succ d ih =>
    intro m
    have hA : ∀ m, ∀ a ∈ (Mk.some (Mk.one d) m).1, Dm a := fun m => many_all ih _ _
    unfold Mk.one
    exact dm_ite (dm_fin (tyName_dot _) nA dm_nil) (dm_ite (dm_fin e0 (hA _) dm_nil) (dm_ite (dm_fin e0 (hA _) (ih _)) (dm_ite (dm_fin e0 (hA _) dm_nil) (dm_fin e0 nA dm_nil))))
theorem dm_list (c : List UInt8) : ∀ t ∈ listF c, Dm t := many_all (dm_one 3) _ _
end Go.Ty
