/- Types as trees: size, which may be, text, sameness, records, functions, unions, and what may be handed in for what. Plain Lean: no program stands here. -/
import Derived.Test.YtpddhbdjcgkjcaaGreatDoorHp
namespace Go.Ty

/-- a type, or none. -/
inductive T where
  | nil : T
  | mk (k : Int) (name : ByteArray) (names : List ByteArray) (args : List T) (ret : T) : T

def T.kind : T → Int | .nil => 0 | .mk k _ _ _ _ => k
def T.name : T → ByteArray | .nil => .empty | .mk _ n _ _ _ => n
def T.names : T → List ByteArray | .nil => [] | .mk _ _ n _ _ => n
def T.args : T → List T | .nil => [] | .mk _ _ _ a _ => a
def T.ret : T → T | .nil => .nil | .mk _ _ _ _ r => r
def T.isNil : T → Bool | .nil => true | .mk .. => false

mutual
def size : T → Nat | .nil => 0 | .mk _ _ _ as r => 1 + sizes as + size r
def sizes : List T → Nat | [] => 0 | t :: l => size t + sizes l
end

/-- a proof over all types. -/
theorem ind {p : T → Prop} (h0 : p .nil) (h1 : ∀ k nm ns as r, (∀ a ∈ as, p a) → p r → p (.mk k nm ns as r)) : ∀ t, p t := fun t =>
  T.rec (motive_1 := p) (motive_2 := fun l => ∀ a ∈ l, p a) h0 (fun k nm ns as r ha hr => h1 k nm ns as r ha hr) (fun a h => by cases h)
    (fun t l ht hl a h => by
      rcases List.mem_cons.1 h with rfl | h
      · exact ht
      · exact hl a h) t

theorem sizes_mem {a : T} {l : List T} (h : a ∈ l) : size a ≤ sizes l := by
  induction l with
  | nil => cases h
  | cons t l ih =>
    unfold sizes
    rcases List.mem_cons.1 h with rfl | h
    · omega
    · have := ih h; omega
theorem size_arg {a : T} {k : Int} {nm : ByteArray} {ns : List ByteArray} {as : List T} {r : T} (h : a ∈ as) : size a < size (.mk k nm ns as r) := by
  have := sizes_mem h
  simp only [size]; omega
theorem size_ret {k : Int} {nm : ByteArray} {ns : List ByteArray} {as : List T} {r : T} : size r < size (.mk k nm ns as r) := by
  simp only [size]; omega
theorem size_pos {t : T} (h : t.isNil = false) : 0 < size t := by
  cases t with
  | nil => cases h
  | mk => simp only [size]; omega
theorem sizes_append (l m : List T) : sizes (l ++ m) = sizes l + sizes m := by
  induction l with
  | nil => simp [sizes]
  | cons t l ih => simp only [List.cons_append, sizes, ih]; omega
theorem length_le_sizes {l : List T} (h : ∀ a ∈ l, a.isNil = false) : l.length ≤ sizes l := by
  induction l with
  | nil => simp
  | cons t l ih =>
    have h1 := size_pos (h t (by simp))
    have h2 := ih fun a ha => h a (by simp [ha])
    simp only [List.length_cons, sizes]; omega

/-! ### texts -/
def letter (c : UInt8) : Bool := (97 ≤ c.toNat && c.toNat ≤ 122) || (65 ≤ c.toNat && c.toNat ≤ 90) || c.toNat == 95
def digit (c : UInt8) : Bool := 48 ≤ c.toNat && c.toNat ≤ 57
def fieldL (s : List UInt8) : Bool := s.length ≤ 24 && (match s with | [] => false | c :: _ => letter c) && s.all fun c => letter c || digit c
def namedL (s : List UInt8) : Bool := 1 ≤ s.length && s.length ≤ 161 && s.all fun c => letter c || digit c || c.toNat == 45 || c.toNat == 47 || c.toNat == 46
def txt (s : ByteArray) : List UInt8 := s.data.toList
def bs (l : List UInt8) : ByteArray := ⟨l.toArray⟩
theorem txt_bs (l : List UInt8) : txt (bs l) = l := by simp [txt, bs]
theorem bs_txt (s : ByteArray) : bs (txt s) = s := by cases s; simp [txt, bs]
theorem txt_inj {a b : ByteArray} (h : txt a = txt b) : a = b := by rw [← bs_txt a, h, bs_txt]
def rising : List (List UInt8) → Bool
  | a :: b :: l => decide (a < b) && rising (b :: l)
  | _ => true
def join (sep : List UInt8) : List (List UInt8) → List UInt8
  | [] => []
  | [x] => x
  | x :: y :: l => x ++ sep ++ join sep (y :: l)
def word (k : Int) : List UInt8 :=
  if k = 1 then [97, 110, 121] else if k = 2 then [105, 110, 116] else if k = 3 then [98, 111, 111, 108] else if k = 4 then [115, 116, 114] else if k = 5 then [110, 105, 108] else []
def inPar (k : Int) (s : List UInt8) : List UInt8 := if k = 8 then 40 :: s ++ [41] else s

mutual
def write : T → List UInt8
  | .nil => []
  | .mk k nm ns as r =>
    if k = 6 then txt nm
    else if k = 7 then 123 :: join [44, 32] (List.zipWith (fun n t => txt n ++ [58, 32] ++ t) ns (writes as)) ++ [125]
    else if k = 8 then [102, 110, 40] ++ join [44, 32] (writes as) ++ [41, 32, 45, 62, 32] ++ write r
    else if k = 9 then join [32, 124, 32] (List.zipWith (fun a t => inPar a.kind t) as (writes as))
    else word k
def writes : List T → List (List UInt8)
  | [] => []
  | t :: l => write t :: writes l
end
theorem writes_map (l : List T) : writes l = l.map write := by
  induction l with
  | nil => rfl
  | cons t l ih => simp [writes, ih]

mutual
def may : T → Bool
  | .nil => false
  | .mk k nm ns as r =>
    decide (1 ≤ k) && decide (k ≤ 9) && (decide (nm = .empty) || k == 6) && (ns.isEmpty || k == 7) && (as.isEmpty || decide (7 ≤ k)) && ((!r.isNil) == (k == 8)) && mays as &&
      (if k = 6 then namedL (txt nm)
       else if k = 7 then ns.length == as.length && (ns.all fun n => fieldL (txt n)) && rising (ns.map txt)
       else if k = 8 then may r
       else if k = 9 then decide (2 ≤ as.length) && (as.all fun a => !(a.kind == 9) && !(a.kind == 1)) && rising (writes as)
       else true)
def mays : List T → Bool
  | [] => true
  | t :: l => may t && mays l
end
theorem mays_all (l : List T) : mays l = l.all may := by
  induction l with
  | nil => rfl
  | cons t l ih => simp [mays, ih]

/-- 0: it may be; 1: there is none; 2: it may not; 3: it is too large. -/
def check (t : T) : Int := if t.isNil then 1 else if 60 < size t then 3 else if may t then 0 else 2
def text (t : T) : List UInt8 := if check t = 0 then write t else []

mutual
def alike : T → T → Bool
  | .nil, .nil => true
  | .mk k nm ns as r, .mk k' nm' ns' as' r' => k == k' && decide (nm = nm') && decide (ns = ns') && alikes as as' && alike r r'
  | _, _ => false
def alikes : List T → List T → Bool
  | [], [] => true
  | t :: l, t' :: l' => alike t t' && alikes l l'
  | _, _ => false
end
theorem alike_iff : ∀ a b : T, alike a b = true ↔ a = b := by
  have key : ∀ l : List T, (∀ a ∈ l, ∀ b, alike a b = true ↔ a = b) → ∀ m, alikes l m = true ↔ l = m := by
    intro l
    induction l with
    | nil => intro _ m; cases m <;> simp [alikes]
    | cons t l ih =>
      intro h m
      cases m with
      | nil => simp [alikes]
      | cons t' m => simp only [alikes, Bool.and_eq_true, h t (by simp), ih (fun a ha => h a (by simp [ha])), List.cons.injEq]
  refine ind (fun b => by cases b <;> simp [alike]) fun k nm ns as r ha hr b => ?_
  cases b with
  | nil => simp [alike]
  | mk k' nm' ns' as' r' => simp only [alike, Bool.and_eq_true, beq_iff_eq, decide_eq_true_eq, key as ha, hr, T.mk.injEq, and_assoc]
instance : DecidableEq T := fun a b => decidable_of_iff (alike a b = true) (alike_iff a b)
def same (a b : T) : Bool := decide (size a ≤ 60) && decide (size b ≤ 60) && alike a b

/-! ### making -/
def fits (t : T) : T × Int := if 60 < size t then (.nil, 3) else (t, 0)
def allOk (l : List T) : Bool := l.all fun t => check t == 0
/-- a pair, in its place by its name. -/
def insP (n : ByteArray) (a : T) : List (ByteArray × T) → List (ByteArray × T)
  | [] => [(n, a)]
  | (m, b) :: l => if txt m < txt n then (m, b) :: insP n a l else (n, a) :: (m, b) :: l
def sortP (l : List (ByteArray × T)) : List (ByteArray × T) := l.foldl (fun m x => insP x.1 x.2 m) []
def recF (ns : List ByteArray) (as : List T) : T × Int :=
  if ns.length = as.length ∧ allOk as = true ∧ (ns.all fun n => fieldL (txt n)) = true ∧ ns.Nodup then
    fits (.mk 7 .empty ((sortP (ns.zip as)).map (·.1)) ((sortP (ns.zip as)).map (·.2)) .nil)
  else (.nil, 2)
def funF (as : List T) (r : T) : T × Int := if allOk as && check r == 0 then fits (.mk 8 .empty [] as r) else (.nil, 2)
/-- a type, in its place by its text; not, if its text is there. -/
def insT (t : T) : List T → List T
  | [] => [t]
  | u :: l => if write u < write t then u :: insT t l else if write u = write t then u :: l else t :: u :: l
def flatT (l : List T) : List T := l.flatMap fun t => if t.kind = 9 then t.args else [t]
def outT (l : List T) : List T := (flatT l).foldl (fun m t => insT t m) []
def unionF (l : List T) : T × Int :=
  if l.isEmpty || !allOk l then (.nil, 2)
  else if l.any (·.kind == 1) then (.mk 1 .empty [] [] .nil, 0)
  else match outT l with
    | [t] => (t, 0)
    | out => fits (.mk 9 .empty [] out .nil)

/-! ### may this be handed in there? -/
def lookAll (f : T → Bool × Nat) : List T → Nat → Bool × Nat
  | [], k => (true, k)
  | x :: l, k => if (f x).1 then lookAll f l (k + (f x).2) else (false, k + (f x).2)
def lookAny (f : T → Bool × Nat) : List T → Nat → Bool × Nat
  | [], k => (false, k)
  | x :: l, k => if (f x).1 then (true, k + (f x).2) else lookAny f l (k + (f x).2)
/-- each pair. -/
def lookEach (f : T → T → Bool × Nat) : List (T × T) → Nat → Bool × Nat
  | [], k => (true, k)
  | x :: l, k => if (f x.1 x.2).1 then lookEach f l (k + (f x.1 x.2).2) else (false, k + (f x.1 x.2).2)
/-- each field. -/
def lookRec (f : T → T → Bool × Nat) (as : List (ByteArray × T)) : List (ByteArray × T) → Nat → Bool × Nat
  | [], k => (true, k)
  | x :: l, k =>
    match as.find? fun y => decide (y.1 = x.1) with
    | none => (false, k)
    | some y => if (f y.2 x.2).1 then lookRec f as l (k + (f y.2 x.2).2) else (false, k + (f y.2 x.2).2)
/-- may a be handed in for b, and how many pairs are looked at; at most n deep. -/
def look : Nat → T → T → Bool × Nat
  | 0, _, _ => (false, 0)
  | n + 1, a, b =>
    if a.kind = 1 ∨ b.kind = 1 then (true, 1)
    else if a.kind = 9 then lookAll (fun x => look n x b) a.args 1
    else if b.kind = 9 then lookAny (fun x => look n a x) b.args 1
    else if a.kind ≠ b.kind then (false, 1)
    else if a.kind = 6 then (decide (a.name = b.name), 1)
    else if a.kind = 7 then lookRec (look n) (a.names.zip a.args) (b.names.zip b.args) 1
    else if a.kind = 8 then (if a.args.length ≠ b.args.length then (false, 1) else lookEach (look n) (b.args.zip a.args ++ [(a.ret, b.ret)]) 1)
    else (true, 1)
/-- Sub. -/
def subF (a b : T) : Bool × Nat := if check a = 0 ∧ check b = 0 then look (size a + size b + 1) a b else (false, 0)
def meetF (a b : T) : Bool × Nat := if (subF a b).1 then (true, (subF a b).2) else ((subF b a).1, (subF a b).2 + (subF b a).2)

end Go.Ty
