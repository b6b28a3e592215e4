/- The engine: a weakest-precondition function over the model's code that the kernel can run at symbolic values; its soundness against the model's own rules (Code.wp, Calls). Nothing of a program stands here. -/
import Derived.Calls
import Derived.Wp
import Derived.Laws.World
import Derived.Laws.Sem
namespace Go.SX

abbrev Env := List (Nat × Value)

def look : Env → Nat → Value
  | [], _ => undef
  | (j, v) :: r, i => match Nat.beq i j with | true => v | false => look r i

def ev (env : Env) : Operand → Value
  | .tmp t => look env t
  | .const v => v
  | .global g => .pointer (some ⟨g, 0, none⟩)
  | .func f => .func (.func f) #[] #[]

def putE (n : Nat) (env : Env) (d : Option Tmp) (v : Value) : Env :=
  match d with
  | none => env
  | some d => match Nat.blt d n with | true => (d, v) :: env | false => env

/-- What a frame of n slots has to do with an environment. -/
structure Fits (n : Nat) (env : Env) (a : Act) : Prop where
  size : a.tmps.size = n
  defers : a.defers = []
  at_ : ∀ i, a.tmps.getD i undef = look env i

theorem Fits.eval {n : Nat} {env : Env} {a : Act} (h : Fits n env a) (o : Operand) : a.eval o = ev env o := by
  cases o <;> simp [Act.eval, ev, h.at_]

theorem Fits.eval_fun {n : Nat} {env : Env} {a : Act} (h : Fits n env a) : a.eval = ev env := funext h.eval

theorem Fits.put {n : Nat} {env : Env} {a : Act} (h : Fits n env a) (d : Option Tmp) (v : Value) : Fits n (putE n env d v) (a.put d v) := by
  cases d with
  | none => simpa [putE, Act.put] using h
  | some d =>
    refine ⟨by simpa [Act.put] using h.size, by simpa [Act.put] using h.defers, fun i => ?_⟩
    have hs := h.size
    have hi := h.at_ i
    simp only [Act.put, putE]
    rw [Array.getD_eq_getD_getElem?] at hi ⊢
    by_cases hd : d < n
    · have : Nat.blt d n = true := Nat.ble_eq_true_of_le hd
      simp only [this, look]
      by_cases hid : i = d
      · subst hid
        simp [hs, hd]
      · have hb : Nat.beq i d = false := by
          cases hb : Nat.beq i d with
          | false => rfl
          | true => exact (hid (Nat.eq_of_beq_eq_true hb)).elim
        simp only [hb]
        rw [Array.getElem?_setIfInBounds_ne (by omega)]
        exact hi
    · have : Nat.blt d n = false := by
        cases hb : Nat.blt d n with
        | false => rfl
        | true => exact (hd (Nat.le_of_ble_eq_true hb)).elim
      simp only [this]
      rw [Array.setIfInBounds]
      simp [hs, hd]
      rw [← hi]

/-! ### Kinds: what a cell of a static type holds -/
inductive Kind where
  | int (k : IntKind) | bool | str | ptr | slice | map | any

def beqK : IntKind → IntKind → Bool
  | .i8, .i8 | .i16, .i16 | .i32, .i32 | .i64, .i64 | .u8, .u8 | .u16, .u16 | .u32, .u32 | .u64, .u64 => true
  | _, _ => false
theorem beqK_eq {a b : IntKind} (h : beqK a b = true) : a = b := by cases a <;> cases b <;> first | rfl | cases h

/-- some value of a kind. -/
def exK (k : Kind) (K : Value → Prop) : Prop :=
  match k with
  | .int k => ∃ n : Int, K (.int k n)
  | .bool => ∃ b : Bool, K (.bool b)
  | .str => ∃ s : ByteArray, K (.string s)
  | .ptr => ∃ a : Option Addr, K (.pointer a)
  | .slice => ∃ (a : Option Addr) (l c : Nat), K (.slice a l c)
  | .map => ∃ r : Option Nat, K (.map r)
  | .any => ∃ v : Value, K v
theorem exK_ex {k : Kind} {K : Value → Prop} (h : exK k K) : ∃ v, K v := by
  cases k <;> simp only [exK] at h
  case slice => obtain ⟨a, l, c, h⟩ := h; exact ⟨_, h⟩
  all_goals obtain ⟨n, h⟩ := h; exact ⟨_, h⟩

def kindOfZero : Value → Kind
  | .int k _ => .int k
  | .bool _ => .bool
  | .string _ => .str
  | .pointer _ => .ptr
  | .slice .. => .slice
  | .map _ => .map
  | _ => .any

/-- the kinds of a type's cells; is it of one cell and no aggregate? -/
def kindsOf (P : Program) (t : TypeId) : List Kind :=
  match P.info? t with
  | some i => match i.zero with
    | some (.agg cs) => cs.toList.map kindOfZero
    | some v => [kindOfZero v]
    | none => []
  | none => []

def isAggT (P : Program) (t : TypeId) : Bool :=
  match P.underlying t with
  | some (.struct _) | some (.array _ _) => true
  | _ => false

/-- cells of kinds at an address, one behind the other. -/
def ldCells (w : World) (a : Addr) : Nat → List Kind → (List Value → Prop) → Prop
  | _, [], K => K []
  | i, k :: ks, K => exK k fun v => w.cell? (a.add i) = some v ∧ ldCells w a (i + 1) ks fun vs => K (v :: vs)

/-- typed results. -/
def exKs : List Kind → (List Value → Prop) → Prop
  | [], K => K []
  | k :: ks, K => exK k fun v => exKs ks fun vs => K (v :: vs)

inductive Shape where
  | one (k : Kind) | agg (ks : List Kind)

def shapeOf (P : Program) (t : TypeId) : Shape :=
  match isAggT P t with
  | true => .agg (kindsOf P t)
  | false => .one (match kindsOf P t with | k :: _ => k | [] => .any)

def exShape (s : Shape) (K : Value → Prop) : Prop :=
  match s with
  | .one k => exK k K
  | .agg ks => exKs ks fun vs => K (.agg vs.toArray)
theorem exKs_ex {ks : List Kind} : ∀ {K : List Value → Prop}, exKs ks K → ∃ v, K v := by
  induction ks with
  | nil => exact fun h => ⟨_, h⟩
  | cons k ks ih =>
    intro K h
    obtain ⟨v, h⟩ := exK_ex h
    obtain ⟨vs, h⟩ := ih h
    exact ⟨_, h⟩
theorem exShape_ex {s : Shape} {K : Value → Prop} (h : exShape s K) : ∃ v, K v := by
  cases s with
  | one k => exact exK_ex h
  | agg ks => obtain ⟨vs, h⟩ := exKs_ex h; exact ⟨_, h⟩

def exShapes : List Shape → (List Value → Prop) → Prop
  | [], K => K []
  | s :: ss, K => exShape s fun v => exShapes ss fun vs => K (v :: vs)
theorem exShapes_ex {ss : List Shape} : ∀ {K : List Value → Prop}, exShapes ss K → ∃ v, K v := by
  induction ss with
  | nil => exact fun h => ⟨_, h⟩
  | cons s ss ih =>
    intro K h
    obtain ⟨v, h⟩ := exShape_ex h
    obtain ⟨vs, h⟩ := ih h
    exact ⟨_, h⟩

/-! ### Words that stay in a text -/
def brC (b : Bool) (t e : Prop) : Prop := match b with | true => t | false => e
theorem brC_intro {b : Bool} {t e : Prop} (ht : b = true → t) (he : b = false → e) : brC b t e := by
  cases b
  · exact he rfl
  · exact ht rfl
theorem brC_false {b : Int} {t : Prop} (h : brC (b != 0) t False) : b ≠ 0 ∧ t := by
  cases hb : (b != 0) with
  | true => rw [hb] at h; exact ⟨by simpa using hb, h⟩
  | false => rw [hb] at h; exact h.elim
def newC (w : World) (o : Obj) (K : Nat → World → Prop) : Prop := K w.heap.size (w.alloc o)
def stC (w : World) (a : Addr) (v : Value) (K : World → Prop) : Prop :=
  (∃ u, w.cell? a = some u) ∧ w.frozen? a = false ∧ K (w.setCell a v)
def drawC (w : World) (K : World → Prop) : Prop := K w.drew
/-- a call: what it answers, typed by shapes. -/
def callC (P : Program) (f : FuncId) (args : Array Value) (w : World) (K : Value → World → Prop) : Prop :=
  Calls P f args w fun e w' => match e with | .returned v => K v w' | _ => False

/-! ### The model's own reckoning, run: reading alone ('none': no world is looked at) -/
def semR (P : Program) {α : Type} : Sem α → (α → Prop) → Option World → Prop
  | .pure a, Q, _ => Q a
  | .load _ a k, Q, some w => ∃ v, w.cell? a = some v ∧ semR P (k v) Q (some w)
  | .shape r k, Q, some w => semR P (k (w.shape? r)) Q (some w)
  | .frozen a k, Q, some w => semR P (k (w.frozen? a)) Q (some w)
  | .program k, Q, w => semR P (k P) Q w
  | .mark _ k, Q, w => semR P k Q w
  | _, _, _ => False

/-- which worlds are meant. -/
def at_ (w : World) : Option World → Prop
  | some w' => w = w'
  | none => True

theorem semR_out {P : Program} {α : Type} {e : Sem α} {Q : α → Prop} {ow : Option World} (h : semR P e Q ow) : ∃ a, Q a ∧ ∀ w, at_ w ow → e.run P w = .ok a w := by
  induction e with
  | pure a => exact ⟨a, h, fun _ _ => rfl⟩
  | load m a k ih =>
    cases ow with
    | none => exact h.elim
    | some w0 =>
      obtain ⟨v, hc, h⟩ := h
      obtain ⟨x, hx, hr⟩ := ih _ h
      refine ⟨x, hx, fun w hw => ?_⟩
      cases hw
      simp only [Sem.run, hc]
      exact hr _ rfl
  | shape r k ih =>
    cases ow with
    | none => exact h.elim
    | some w0 =>
      obtain ⟨x, hx, hr⟩ := ih _ h
      exact ⟨x, hx, fun w hw => by cases hw; exact hr _ rfl⟩
  | frozen r k ih =>
    cases ow with
    | none => exact h.elim
    | some w0 =>
      obtain ⟨x, hx, hr⟩ := ih _ h
      exact ⟨x, hx, fun w hw => by cases hw; exact hr _ rfl⟩
  | program k ih =>
    have h' : semR P (k P) Q ow := by cases ow <;> exact h
    obtain ⟨x, hx, hr⟩ := ih _ h'
    exact ⟨x, hx, hr⟩
  | mark m k ih =>
    have h' : semR P k Q ow := by cases ow <;> exact h
    obtain ⟨x, hx, hr⟩ := ih h'
    exact ⟨x, hx, hr⟩
  | _ => cases ow <;> exact h.elim

theorem semR_pure (P : Program) {α : Type} (a : α) (Q : α → Prop) (w : Option World) : semR P (pure a) Q w = Q a := by cases w <;> rfl
theorem semR_program (P : Program) (Q : Program → Prop) (w : Option World) : semR P program Q w = Q P := by cases w <;> rfl
theorem semR_bind (P : Program) {α β : Type} (x : Sem α) (f : α → Sem β) (Q : β → Prop) (w : Option World) :
    semR P (x >>= f) Q w = semR P x (fun a => semR P (f a) Q w) w := by
  show semR P (Sem.bind x f) Q w = _
  induction x with
  | pure a => cases w <;> rfl
  | load m a k ih => cases w <;> simp only [Sem.bind, semR, ih]
  | shape r k ih => cases w <;> simp only [Sem.bind, semR, ih]
  | frozen a k ih => cases w <;> simp only [Sem.bind, semR, ih]
  | program k ih => cases w <;> simp only [Sem.bind, semR, ih]
  | mark m k ih => cases w <;> simp only [Sem.bind, semR, ih]
  | _ => cases w <;> rfl
theorem semR_load (P : Program) (a : Addr) (m : Mode) (Q : Value → Prop) (w : World) : semR P (Go.load a m) Q (some w) = ∃ v, w.cell? a = some v ∧ Q v := rfl
theorem semR_info {P : Program} {t : TypeId} {i : TypeInfo} (h : P.info? t = some i) (Q : TypeInfo → Prop) (w : Option World) : semR P (typeInfo t) Q w = Q i := by
  simp only [typeInfo, semR_bind, semR_program, h, semR_pure]
theorem semR_underlying {P : Program} {t : TypeId} {d : TypeDesc} (h : P.underlying t = some d) (Q : TypeDesc → Prop) (w : Option World) : semR P (underlying t) Q w = Q d := by
  simp only [underlying, semR_bind, semR_program, h, semR_pure]
theorem info_of_underlying {P : Program} {t : TypeId} {d : TypeDesc} (h : P.underlying t = some d) : ∃ i, P.info? t = some i := by
  unfold Program.underlying at h
  split at h
  · exact ⟨_, by assumption⟩
  · exact ⟨_, by assumption⟩
  · cases h
/-- the size of a type as the program's table has it. -/
def sizeT (P : Program) (t : TypeId) : Nat := match P.info? t with | some i => i.size | none => 0
theorem semR_size {P : Program} {t : TypeId} {d : TypeDesc} (h : P.underlying t = some d) (Q : Nat → Prop) (w : Option World) : semR P (sizeOf t) Q w = Q (sizeT P t) := by
  obtain ⟨i, hi⟩ := info_of_underlying h
  simp only [sizeOf, semR_bind, semR_info hi, semR_pure, sizeT, hi]
theorem semR_isAgg {P : Program} {t : TypeId} {d : TypeDesc} (h : P.underlying t = some d) (Q : Bool → Prop) (w : Option World) : semR P (isAgg t) Q w = Q (isAggT P t) := by
  simp only [isAgg, semR_bind, semR_underlying h, isAggT, h]
  cases d <;> simp only [semR_pure]

theorem loadCellsFrom_vc (P : Program) (a : Addr) (Q : Array Value → Prop) (w : World) : ∀ (ks : List Kind) (i : Nat) (acc : Array Value),
    ldCells w a i ks (fun vs => Q (acc ++ vs.toArray)) → semR P (loadCellsFrom a i ks.length acc) Q (some w)
  | [], i, acc, h => by simpa [loadCellsFrom, ldCells, semR_pure] using h
  | k :: ks, i, acc, h => by
    simp only [ldCells] at h
    obtain ⟨v, hc, h⟩ := exK_ex h
    simp only [List.length_cons, loadCellsFrom, semR_bind, semR_load]
    refine ⟨v, hc, loadCellsFrom_vc P a Q w ks (i + 1) (acc.push v) ?_⟩
    have e : ∀ vs : List Value, acc ++ (v :: vs).toArray = acc.push v ++ vs.toArray := fun vs => by
      apply Array.ext'; simp
    simpa only [e] using h

/-- a typed load. -/
def ldVC (P : Program) (t : TypeId) (w : World) (a : Addr) (K : Value → Prop) : Prop :=
  match P.underlying t with
  | none => False
  | some _ =>
    match shapeOf P t with
    | .one k => exK k fun v => w.cell? a = some v ∧ K v
    | .agg ks => match Nat.beq ks.length (sizeT P t) with | true => ldCells w a 0 ks fun vs => K (.agg vs.toArray) | false => False
theorem ldVC_sound {P : Program} {t : TypeId} {w : World} {a : Addr} {K : Value → Prop} (h : ldVC P t w a K) : semR P (loadVar t a) K (some w) := by
  unfold ldVC at h
  split at h
  · exact h.elim
  · rename_i d hd
    simp only [loadVar, semR_bind, semR_isAgg hd]
    unfold shapeOf at h
    cases hag : isAggT P t with
    | false =>
      simp only [hag] at h
      obtain ⟨v, hc, h⟩ := exK_ex h
      exact ⟨v, hc, h⟩
    | true =>
      simp only [hag] at h
      simp only [if_true, semR_bind, semR_size hd, loadCells]
      cases hb : Nat.beq (kindsOf P t).length (sizeT P t) with
      | false => simp only [hb] at h
      | true =>
        simp only [hb] at h
        rw [← Nat.eq_of_beq_eq_true hb]
        refine loadCellsFrom_vc P a _ w _ 0 #[] ?_
        simpa [semR_pure] using h

def ptrC (p : Option Addr) (K : Addr → Prop) : Prop := match p with | some a => K a | none => False
theorem ptrC_out {p : Option Addr} {K : Addr → Prop} (h : ptrC p K) : ∃ a, p = some a ∧ K a := by
  cases p with
  | none => exact h.elim
  | some a => exact ⟨a, rfl, h⟩
/-- a pointer that is not nil. -/
def ptrV (v : Value) (K : Addr → Prop) : Prop := match v with | .pointer p => ptrC p K | _ => False
theorem ptrV_out {v : Value} {K : Addr → Prop} (h : ptrV v K) : ∃ a, v = .pointer (some a) ∧ K a := by
  cases v with
  | pointer p => obtain ⟨a, rfl, h⟩ := ptrC_out h; exact ⟨a, rfl, h⟩
  | _ => exact h.elim

/-- an element's place. -/
def idxC (i : Int) (len : Nat) (K : Prop) : Prop := 0 ≤ i ∧ i < len ∧ K

/-- a byte of a string. -/
def byteAt (s : ByteArray) (i : Nat) : Int := match s[i]? with | some b => b.toNat | none => 0

def nextR (K : Value → Prop) : Next → Prop
  | .value v => K v
  | _ => False

/-- a reckoning of the model's own that only reads, left as it stands. -/
def runR (P : Program) {α : Type} (e : Sem α) (ow : Option World) (K : α → Prop) : Prop := ∃ v, K v ∧ ∀ w, at_ w ow → e.run P w = .ok v w
/-- a reckoning of the model's own, left as it stands. -/
def runC (P : Program) {α : Type} (e : Sem α) (w : World) (K : α → World → Prop) : Prop := ∃ v w', e.run P w = .ok v w' ∧ K v w'
/-- bounds of a slice expression. -/
def slcC (lo hi : Int) (cap : Nat) (K : Prop) : Prop := 0 ≤ lo ∧ lo ≤ hi ∧ hi ≤ cap ∧ K
def capOf (h : Option Int) (n c : Nat) : Nat := match h with | none => n | some _ => c
def subP (a : Option Addr) (m l size : Nat) : Option Addr := if m = l then a else a.map (·.add (l * size))

def tyC (ss : List Shape) (single : Bool) (v : Value) (K : Value → Prop) : Prop :=
  match single, ss with
  | true, s :: _ => exShape s fun x => v = x ∧ K x
  | _, ss => exShapes ss fun xs => v = .tuple xs.toArray ∧ K (.tuple xs.toArray)
theorem tyC_out {ss : List Shape} {single : Bool} {v : Value} {K : Value → Prop} (h : tyC ss single v K) : K v := by
  unfold tyC at h
  split at h
  · obtain ⟨x, hx, h'⟩ := exShape_ex h; rw [hx]; exact h'
  · obtain ⟨x, hx, h'⟩ := exShapes_ex h; rw [hx]; exact h'
/-- an answer, by the type of the operation. -/
def tyOf (P : Program) (t : TypeId) (v : Value) (K : Value → Prop) : Prop :=
  match P.underlying t with
  | some (.tuple es) => tyC (es.toList.map (shapeOf P)) false v K
  | _ => tyC [shapeOf P t] true v K
theorem tyOf_out {P : Program} {t : TypeId} {v : Value} {K : Value → Prop} (h : tyOf P t v K) : K v := by
  unfold tyOf at h
  split at h <;> exact tyC_out h

/-- '==' against nil, the sort of nil given. -/
def nilEq (P : Program) (t : TypeId) (x y : Value) : Option Bool :=
  match y with
  | .pointer none => (match x with | .pointer a => (match P.underlying t with | some (.pointer _) => some a.isNone | _ => none) | _ => none)
  | .slice none _ _ => (match x with | .slice a _ _ => (match P.underlying t with | some (.slice _) => some a.isNone | _ => none) | _ => none)
  | .map none => (match x with | .map a => (match P.underlying t with | some (.map _ _) => some a.isNone | _ => none) | _ => none)
  | _ => none

theorem equalIn_nil {P : Program} (d : Nat) {t : TypeId} {x y : Value} {b : Bool} (h : nilEq P t x y = some b) (Q : Bool → Prop) (w : Option World) (hq : Q b) : semR P (Op.equalIn (d + 1) t x y) Q w := by
  unfold nilEq at h
  split at h
  · split at h
    · split at h
      · rename_i a _ e ht
        cases h
        cases a <;> (simp only [Op.equalIn, semR_bind, semR_underlying ht, semR_pure]; exact hq)
      · cases h
    · cases h
  · split at h
    · split at h
      · rename_i a _ _ _ e ht
        cases h
        cases a <;> (simp only [Op.equalIn, semR_bind, semR_underlying ht, semR_pure]; exact hq)
      · cases h
    · cases h
  · split at h
    · split at h
      · rename_i a _ e e' ht
        cases h
        cases a <;> (simp only [Op.equalIn, semR_bind, semR_underlying ht, semR_pure]; exact hq)
      · cases h
    · cases h
  · cases h

theorem nilEq_shape {P : Program} {t : TypeId} {x y : Value} {b : Bool} (h : nilEq P t x y = some b) :
    (∃ a, x = .pointer a) ∨ (∃ a l c, x = .slice a l c) ∨ (∃ a, x = .map a) := by
  unfold nilEq at h
  split at h
  · split at h
    · exact .inl ⟨_, rfl⟩
    · cases h
  · split at h
    · exact .inr (.inl ⟨_, _, _, rfl⟩)
    · cases h
  · split at h
    · exact .inr (.inr ⟨_, rfl⟩)
    · cases h
  · cases h

/-- an operator on two values; 'other': what else is to be met. -/
def binR (P : Program) (op : BinOp) (t : TypeId) (x y : Value) (K : Value → Prop) (other : Prop) : Prop :=
  match op with
  | .quo => (match x, y with
    | .int k a, .int k' b => (match beqK k k' with | true => brC (b != 0) (K (.int k (k.wrap (a.tdiv b)))) False | false => False)
    | _, _ => other)
  | .rem => (match x, y with
    | .int k a, .int k' b => (match beqK k k' with | true => brC (b != 0) (K (.int k (a.tmod b))) False | false => False)
    | _, _ => other)
  | .add => (match x, y with
    | .string a, .string b => ((a.size + b.size : Nat) : Int) ≤ IntKind.i64.max ∧ K (.string (a ++ b))
    | _, _ => other)
  | .eql => (match nilEq P t x y with | some b => K (.bool b) | none => other)
  | .neq => (match nilEq P t x y with | some b => K (.bool !b) | none => other)
  | _ => other

theorem eqGuard_nil {P : Program} {t : TypeId} {x y : Value} {b : Bool} (h : nilEq P t x y = some b) (op : BinOp) (ox oy : Operand) : eqGuard op t ox oy x y = pure () := by
  rcases nilEq_shape h with ⟨a, rfl⟩ | ⟨a, l, c, rfl⟩ | ⟨a, rfl⟩ <;> cases op <;> rfl

theorem binR_out {P : Program} {op : BinOp} {t : TypeId} {ox oy : Operand} {x y : Value} {K : Value → Prop} {other : Prop} {ow : Option World}
    (h : binR P op t x y K other) (ho : other → semR P (do eqGuard op t ox oy x y; binOp op t x y) K ow) : semR P (do eqGuard op t ox oy x y; binOp op t x y) K ow := by
  unfold binR at h
  split at h
  · split at h
    · split at h
      · rename_i hk
        obtain ⟨hb, h⟩ := brC_false h
        have := beqK_eq hk
        subst this
        simp only [eqGuard, binOp, semR_bind]
        simp only [Op.intDiv, hb, semR_pure, if_false, ne_eq, not_true_eq_false, ite_false]
        exact h
      · exact h.elim
    · exact ho h
  · split at h
    · split at h
      · rename_i hk
        obtain ⟨hb, h⟩ := brC_false h
        have := beqK_eq hk
        subst this
        simp only [eqGuard, binOp, semR_bind]
        simp only [Op.intDiv, hb, semR_pure, if_false, ne_eq, not_true_eq_false, ite_false]
        exact h
      · exact h.elim
    · exact ho h
  · split at h
    · rename_i a b
      obtain ⟨hb, h⟩ := h
      simp only [eqGuard, binOp, semR_bind]
      have hb' : ¬ (((a.size + b.size : Nat) : Int) > IntKind.i64.max) := by omega
      simp only [Op.stringOp, hb', semR_pure, if_false]
      exact h
    · exact ho h
  · split at h
    · rename_i b hb
      rw [eqGuard_nil hb]
      have he : binOp .eql t x y = Op.equal t x y >>= fun b => pure (.bool b) := by
        rcases nilEq_shape hb with ⟨a, rfl⟩ | ⟨a, l, c, rfl⟩ | ⟨a, rfl⟩ <;> rfl
      rw [semR_bind, semR_pure, he, semR_bind]
      exact equalIn_nil 9999 hb _ _ (by rw [semR_pure]; exact h)
    · exact ho h
  · split at h
    · rename_i b hb
      rw [eqGuard_nil hb]
      have he : binOp .neq t x y = Op.equal t x y >>= fun b => pure (.bool !b) := by
        rcases nilEq_shape hb with ⟨a, rfl⟩ | ⟨a, l, c, rfl⟩ | ⟨a, rfl⟩ <;> rfl
      rw [semR_bind, semR_pure, he, semR_bind]
      exact equalIn_nil 9999 hb _ _ (by rw [semR_pure]; exact h)
    · exact ho h
  · exact ho h

/-- '==' or '!=' of two structs, as the model has it. -/
def eqSem (op : BinOp) (t : TypeId) (x y : Operand) (a b : Value) : Sem Value := do
  eqGuard op t x y a b
  binOp op t a b

/-- the ends of a slice expression, where they are integers. -/
def sliceEnds (env : Env) (lo hi : Option Operand) : Option (Option Int × Option Int) :=
  match lo with
  | none => (match hi with
    | none => some (none, none)
    | some h => match ev env h with | .int _ y => some (none, some y) | _ => none)
  | some l => match ev env l with
    | .int _ x => (match hi with
      | none => some (some x, none)
      | some h => match ev env h with | .int _ y => some (some x, some y) | _ => none)
    | _ => none

theorem runR_rd {P : Program} {ow : Option World} {K : Value → Prop} {e : Sem Value} {x : Sem Next} (hx : x = e >>= fun v => pure (.value v)) (h : runR P e ow K) :
    ∃ v, K v ∧ ∀ w, at_ w ow → x.run P w = .ok (.value v) w := by
  obtain ⟨v, hk, hr⟩ := h
  exact ⟨v, hk, fun w hw => by rw [hx, Sem.run_bind, hr w hw]; rfl⟩

/-- the bounds of a slice expression, as the model has them. -/
theorem sliceBounds_vc {P : Program} {env : Env} {lo hi : Option Operand} {l h : Option Int} (he : sliceEnds env lo hi = some (l, h)) (b : Bool) (len cap : Nat)
    (h0 : 0 ≤ l.getD 0) (h1 : l.getD 0 ≤ h.getD len) (h2 : h.getD len ≤ capOf h len cap) (Q : Nat × Nat × Nat → Prop) (w : Option World)
    (hq : Q ((l.getD 0).toNat, (h.getD len).toNat, cap)) : semR P (Instr.sliceBounds b len cap (lo.map (ev env)) (hi.map (ev env)) none) Q w := by
  unfold sliceEnds at he
  split at he
  · split at he
    · cases he
      simp only [Instr.sliceBounds, Option.map_none, semR_bind, semR_pure]
      simpa using hq
    · rename_i hh
      split at he
      · rename_i k y hy
        cases he
        simp only [Option.getD_some, Option.getD_none, capOf] at h0 h1 h2 hq
        have hc : 0 ≤ y ∧ y ≤ (cap : Int) := ⟨h1, h2⟩
        simp only [Instr.sliceBounds, Option.map_none, Option.map_some, semR_bind, semR_pure, Instr.sliceBound, hy, asIntOf, hc, and_self, if_true]
        simpa using hq
      · cases he
  · rename_i ll
    split at he
    · rename_i k x hx
      split at he
      · cases he
        simp only [Option.getD_some, Option.getD_none, capOf] at h0 h1 h2 hq
        simp only [Instr.sliceBounds, Option.map_none, Option.map_some, semR_bind, semR_pure, Instr.sliceBound, hx, asIntOf, h0, h1, and_self, if_true]
        simpa using hq
      · rename_i hh
        split at he
        · rename_i k' y hy
          cases he
          simp only [Option.getD_some, capOf] at h0 h1 h2 hq
          have hc : 0 ≤ y ∧ y ≤ (cap : Int) := ⟨by omega, h2⟩
          have hd : 0 ≤ x ∧ x ≤ (y.toNat : Int) := ⟨h0, by omega⟩
          simp only [Instr.sliceBounds, Option.map_none, Option.map_some, semR_bind, semR_pure, Instr.sliceBound, hx, hy, asIntOf, hc, hd, and_self, if_true]
          exact hq
        · cases he
    · cases he

/-- Operations that leave the world alone. -/
def rdOp (P : Program) (o : Oper) (env : Env) (ow : Option World) (K : Value → Prop) : Prop :=
  match o.op with
  | .move x => K (ev env x)
  | .assign x => K (ev env x)
  | .pick c a b => match ev env c with
    | .bool t => brC t (K (ev env a)) (K (ev env b))
    | _ => False
  | .load t x => match ow with
    | some w => ptrV (ev env x) fun a => ldVC P t w a K
    | none => False
  | .nilCheck x => match ev env x with
    | .pointer p => ptrC p fun a => K (.pointer (some a))
    | .func (.func f) x y => K (.func (.func f) x y)
    | _ => False
  | .fieldAddr s x f => match P.underlying s with
    | some (.struct fields) => match fields[f]? with
      | some fi => match Nat.beq (sizeT P fi.type) 0 with
        | false => match P.underlying fi.type with
          | some _ => ptrV (ev env x) fun a => K (.pointer (some (a.add fi.offset)))
          | none => False
        | true => False
      | none => False
    | _ => False
  | .indexAddr t x i => match ev env i with
    | .int _ n => match P.underlying t with
      | some (.array len elem) => match P.underlying elem with
        | some _ => ptrV (ev env x) fun a => idxC n len (K (.pointer (some (a.add (n.toNat * sizeT P elem)))))
        | none => False
      | some (.slice elem) => match P.underlying elem with
        | some _ => match ev env x with
          | .slice base len _ => idxC n len (ptrC base fun a => K (.pointer (some (a.add (n.toNat * sizeT P elem)))))
          | _ => False
        | none => False
      | _ => False
    | _ => False
  | .index t x i => match ev env i, ev env x with
    | .int _ n, .string s => match P.underlying t with
      | some .string => idxC n s.size (K (.int .u8 (byteAt s n.toNat)))
      | _ => False
    | .int k n, .agg cs => runR P (Instr.index t (.agg cs) (.int k n)) ow fun v => tyOf P o.type v K
    | _, _ => semR P (execOp (ev env) o) (nextR K) ow
  | .binOp op t x y _ => match ev env x, ev env y with
    | .agg a, .agg b => runR P (eqSem op t x y (.agg a) (.agg b)) ow fun v => tyOf P o.type v K
    | .pointer a, .pointer b => match y with
      | .const _ => binR P op t (.pointer a) (.pointer b) K (semR P (execOp (ev env) o) (nextR K) ow)
      | _ => runR P (eqSem op t x y (.pointer a) (.pointer b)) ow fun v => tyOf P o.type v K
    | _, _ => binR P op t (ev env x) (ev env y) K (semR P (execOp (ev env) o) (nextR K) ow)
  | .lookup t x i ok => runR P (Instr.lookup t (ev env x) (ev env i) ok) ow fun v => tyOf P o.type v K
  | .slice t x lo hi none => match sliceEnds env lo hi with
    | none => False
    | some (l, h) => match P.underlying t with
      | some .string => match ev env x with
        | .string s => slcC (l.getD 0) (h.getD s.size) s.size (K (.string (s.extract (l.getD 0).toNat (h.getD s.size).toNat)))
        | _ => False
      | some (.slice elem) => match P.underlying elem with
        | some _ => match ev env x with
          | .slice a n c => slcC (l.getD 0) (h.getD n) (capOf h n c) (K (.slice (subP a c (l.getD 0).toNat (sizeT P elem)) ((h.getD n).toNat - (l.getD 0).toNat) (c - (l.getD 0).toNat)))
          | _ => False
        | none => False
      | some (.array n elem) => match P.underlying elem with
        | some _ => ptrV (ev env x) fun a => slcC (l.getD 0) (h.getD n) n (K (.slice (subP (some a) n (l.getD 0).toNat (sizeT P elem)) ((h.getD n).toNat - (l.getD 0).toNat) (n - (l.getD 0).toNat)))
        | none => False
      | _ => False
  | .call c => match c.callee with
    | .builtin .len => match c.args.toList with
      | [x] => match ev env x with
        | .map r => runR P (Builtin.len_ c.argTypes o.type (c.args.map (ev env))) ow fun v => tyOf P o.type v K
        | _ => semR P (execOp (ev env) o) (nextR K) ow
      | _ => False
    | _ => semR P (execOp (ev env) o) (nextR K) ow
  | _ => semR P (execOp (ev env) o) (nextR K) ow

theorem rd_of_semR {P : Program} {o : Oper} {env : Env} {ow : Option World} {K : Value → Prop} (h : semR P (execOp (ev env) o) (nextR K) ow) :
    ∃ v, K v ∧ ∀ w, at_ w ow → (execOp (ev env) o).run P w = .ok (.value v) w := by
  obtain ⟨x, hx, hr⟩ := semR_out h
  cases x with
  | value v => exact ⟨v, hx, hr⟩
  | _ => exact hx.elim

theorem rdOp_out {P : Program} {o : Oper} {env : Env} {ow : Option World} {K : Value → Prop} (h : rdOp P o env ow K) :
    ∃ v, K v ∧ ∀ w, at_ w ow → (execOp (ev env) o).run P w = .ok (.value v) w := by
  obtain ⟨dst, op, ty, pos, after, guard⟩ := o
  unfold rdOp at h
  simp only at h
  split at h
  · refine rd_of_semR ?_; simp only [execOp, semR_pure]; exact h
  · refine rd_of_semR ?_; simp only [execOp, semR_pure]; exact h
  · rename_i c a b
    refine rd_of_semR ?_
    cases hc : ev env c with
    | bool t =>
      rw [hc] at h
      simp only [execOp, semR_bind, hc, asBool, semR_pure]
      cases t <;> exact h
    | _ => rw [hc] at h; exact h.elim
  · rename_i t x
    refine rd_of_semR ?_
    cases ow with
    | none => exact h.elim
    | some w =>
      obtain ⟨a, hx, h⟩ := ptrV_out h
      simp only [execOp, Instr.loadAt, hx, Instr.sureAddr, semR_bind, semR_pure]
      exact ldVC_sound (K := fun v => nextR K (.value v)) h
  · rename_i x
    refine rd_of_semR ?_
    cases hx : ev env x with
    | pointer p =>
      rw [hx] at h
      obtain ⟨a, rfl, h⟩ := ptrC_out h
      simp only [execOp, hx, semR_pure]
      exact h
    | func fn a b =>
      rw [hx] at h
      cases fn with
      | func f => simp only [execOp, hx, semR_pure]; exact h
      | _ => exact h.elim
    | _ => rw [hx] at h; exact h.elim
  · rename_i s x f
    refine rd_of_semR ?_
    split at h
    case h_2 => exact h.elim
    rename_i fields hs
    split at h
    case h_2 => exact h.elim
    rename_i fi hf
    split at h
    case h_2 => exact h.elim
    rename_i hz
    split at h
    case h_2 => exact h.elim
    rename_i d hd
    obtain ⟨a, hx, h⟩ := ptrV_out h
    have hz' : ¬ sizeT P fi.type = 0 := fun e => by rw [e] at hz; cases hz
    simp only [execOp, Instr.fieldAt, fieldPlace, hx, Instr.sureAddr, semR_bind, semR_underlying hs, hf, semR_pure, semR_size hd, hz', if_false]
    exact h
  · rename_i t x i
    refine rd_of_semR ?_
    cases hi : ev env i with
    | int k n =>
      rw [hi] at h
      simp only at h
      split at h
      · rename_i len elem ht
        split at h
        case h_2 => exact h.elim
        rename_i d hd
        obtain ⟨a, hx, h0, h1, h⟩ := ptrV_out h
        simp only [execOp, Instr.indexAt, hx, hi, asIntOf, Instr.sureAddr, semR_bind, semR_underlying ht, semR_pure, h0, h1, and_self, if_true, semR_size hd]
        exact h
      · rename_i elem ht
        split at h
        case h_2 => exact h.elim
        rename_i d hd
        cases hx : ev env x with
        | slice base len cap =>
          rw [hx] at h
          obtain ⟨h0, h1, h⟩ := h
          obtain ⟨a, rfl, h⟩ := ptrC_out h
          simp only [execOp, Instr.indexAt, hx, hi, asIntOf, semR_bind, semR_underlying ht, semR_pure, h0, h1, and_self, if_true, semR_size hd]
          exact h
        | _ => rw [hx] at h; exact h.elim
      · exact h.elim
    | _ => rw [hi] at h; exact h.elim
  · rename_i t x i
    split at h
    · rename_i k n s hi hx
      refine rd_of_semR ?_
      split at h
      · rename_i ht
        obtain ⟨h0, h1, h⟩ := h
        have hlt : n.toNat < s.size := by omega
        have hb : byteAt s n.toNat = (s[n.toNat]'hlt).toNat := by
          unfold byteAt
          rw [getElem?_pos s n.toNat hlt]
        rw [hb] at h
        simp only [execOp, Instr.index, hx, hi, asIntOf, semR_bind, semR_pure, semR_underlying ht, h0, if_true, getElem?_pos s n.toNat hlt]
        exact h
      · exact h.elim
    · rename_i k n cs hi hx
      have he : execOp (ev env) ⟨dst, .index t x i, ty, pos, after, guard⟩ = (Instr.index t (.agg cs) (.int k n)) >>= fun v => pure (.value v) := by
        rw [← hi, ← hx]; rfl
      obtain ⟨v, hk, hr⟩ := runR_rd he h
      exact ⟨v, tyOf_out hk, hr⟩
    · exact rd_of_semR h
  · rename_i op t x y ty'
    have hx : execOp (ev env) ⟨dst, .binOp op t x y ty', ty, pos, after, guard⟩ = (do eqGuard op t x y (ev env x) (ev env y); binOp op t (ev env x) (ev env y)) >>= fun v => pure (.value v) := rfl
    split at h
    · rename_i a b ha hb
      rw [ha, hb] at hx
      obtain ⟨v, hk, hr⟩ := runR_rd (e := eqSem op t x y (.agg a) (.agg b)) hx h
      exact ⟨v, tyOf_out hk, hr⟩
    · rename_i a b ha hb
      split at h
      · refine rd_of_semR ?_
        rw [hx] at h ⊢
        rw [semR_bind] at h ⊢
        rw [ha, hb] at h ⊢
        simp only [semR_pure] at h ⊢
        exact binR_out h fun x => x
      · rw [ha, hb] at hx
        obtain ⟨v, hk, hr⟩ := runR_rd (e := eqSem op t x _ (.pointer a) (.pointer b)) hx h
        exact ⟨v, tyOf_out hk, hr⟩
    · refine rd_of_semR ?_
      rw [hx] at h ⊢
      rw [semR_bind] at h ⊢
      simp only [semR_pure] at h ⊢
      exact binR_out h fun x => x
  · rename_i t x i ok
    obtain ⟨v, hk, hr⟩ := runR_rd (x := execOp (ev env) ⟨dst, .lookup t x i ok, ty, pos, after, guard⟩) rfl h
    exact ⟨v, tyOf_out hk, hr⟩
  · rename_i t x lo hi
    refine rd_of_semR ?_
    split at h
    · exact h.elim
    rename_i l hh he
    have hx : execOp (ev env) ⟨dst, .slice t x lo hi none, ty, pos, after, guard⟩ = (Instr.sliceAt t (ev env x) (lo.map (ev env)) (hi.map (ev env)) none) >>= fun v => pure (.value v) := rfl
    rw [hx, semR_bind]
    simp only [semR_pure]
    split at h
    · rename_i ht
      split at h
      · rename_i s hs
        obtain ⟨h0, h1, h2, h⟩ := h
        simp only [Instr.sliceAt, semR_bind, semR_underlying ht, Instr.slice, hs]
        simp only [Option.isSome_none, Bool.false_eq_true, if_false, semR_bind, semR_pure]
        refine sliceBounds_vc he false s.size s.size h0 h1 ?_ _ _ ?_
        · cases hh <;> exact h2
        · simp only [semR_pure]; exact h
      · exact h.elim
    · rename_i elem ht
      split at h
      case h_2 => exact h.elim
      rename_i d hd
      split at h
      · rename_i a n c hs
        obtain ⟨h0, h1, h2, h⟩ := h
        simp only [Instr.sliceAt, semR_bind, semR_underlying ht, Instr.slice, hs]
        refine sliceBounds_vc he true n c h0 h1 h2 _ _ ?_
        simp only [semR_bind, semR_size hd, semR_pure]
        exact h
      · exact h.elim
    · rename_i n elem ht
      split at h
      case h_2 => exact h.elim
      rename_i d hd
      obtain ⟨a, ha, h0, h1, h2, h⟩ := ptrV_out h
      simp only [Instr.sliceAt, semR_bind, semR_underlying ht, ha, Instr.sureAddr, semR_pure]
      refine sliceBounds_vc he false n n h0 h1 ?_ _ _ ?_
      · cases hh <;> exact h2
      · simp only [semR_bind, semR_size hd, semR_pure]
        have : subP (some a) n (l.getD 0).toNat (sizeT P elem) = some (if n = (l.getD 0).toNat then a else a.add ((l.getD 0).toNat * sizeT P elem)) := by
          unfold subP; split <;> rfl
        rw [this] at h
        exact h
    · exact h.elim
  · rename_i c
    split at h
    · rename_i hc
      split at h
      · rename_i x hargs
        split at h
        · rename_i r hr
          have hx : execOp (ev env) ⟨dst, .call c, ty, pos, after, guard⟩ = (Builtin.len_ c.argTypes ty (c.args.map (ev env))) >>= fun v => pure (.value v) := by
            simp only [execOp, resolve, hc]; rfl
          obtain ⟨v, hk, hr⟩ := runR_rd hx h
          exact ⟨v, tyOf_out hk, hr⟩
        · exact rd_of_semR h
      · exact h.elim
    · exact rd_of_semR h
  · exact rd_of_semR h

/-! ### The model's own reckoning, run -/
def semVC (P : Program) {α : Type} : Sem α → (α → World → Prop) → World → Prop
  | .pure a, Q, w => Q a w
  | .load _ a k, Q, w => ∃ v, w.cell? a = some v ∧ semVC P (k v) Q w
  | .store _ a v k, Q, w => v.oneCell = true ∧ stC w a v fun w' => semVC P k Q w'
  | .new o k, Q, w => newC w o fun b w' => semVC P (k b) Q w'
  | .shape r k, Q, w => semVC P (k (w.shape? r)) Q w
  | .frozen a k, Q, w => semVC P (k (w.frozen? a)) Q w
  | .program k, Q, w => semVC P (k P) Q w
  | .mark _ k, Q, w => semVC P k Q w
  | _, _, _ => False

theorem semVC_sound (P : Program) {α : Type} (e : Sem α) (Q : α → World → Prop) (E : Halt → World → Prop) (w : World) (h : semVC P e Q w) : e.wp P Q E w := by
  induction e generalizing w with
  | pure a => exact h
  | load m a k ih =>
    obtain ⟨v, hc, h⟩ := h
    simp only [Sem.wp, hc]
    exact ih _ _ h
  | store m a v k ih =>
    obtain ⟨ho, ⟨u, hc⟩, hf, h⟩ := h
    simp only [Sem.wp, ho, hc, hf]
    exact ih _ h
  | new o k ih => exact ih _ _ h
  | shape r k ih => exact ih _ _ h
  | frozen a k ih => exact ih _ _ h
  | program k ih => exact ih _ _ h
  | mark m k ih => exact ih _ h
  | _ => exact h.elim

/-- What an operation's run comes to, handed on. -/
def nextVC (P : Program) (K : Value → World → Prop) : Next → World → Prop
  | .value v, w => K v w
  | .skip, w => K undef w
  | .enter f args, w => callC P f args w K
  | _, _ => False

/-- 'o' run at an environment comes to K. -/
def OpOk (P : Program) (o : Oper) (env : Env) (w : World) (K : Value → World → Prop) : Prop :=
  ∀ (a : Act) (next : Act → World → Prop) (Q : Exit → Act → World → Prop), a.eval = ev env → (∀ v w', K v w' → next (a.put o.dst v) w') → a.defers = [] → o.wp P a w next Q

theorem opOk_of_wp {P : Program} {o : Oper} {env : Env} {w : World} {K : Value → World → Prop} (h : (execOp (ev env) o).wp P (nextVC P K) (fun _ _ => False) w) : OpOk P o env w K := by
  intro a next Q he hn hd
  rw [Sem.wp_iff_run] at h
  unfold Oper.wp
  rw [he]
  cases hr : (execOp (ev env) o).run P w with
  | halt x w' => rw [hr] at h; exact h.elim
  | ok x w' =>
    rw [hr] at h
    cases x with
    | value v => exact hn _ _ h
    | skip => exact hn _ _ h
    | enter f args =>
      refine Calls.mono h ?_
      intro e w'' hk
      cases e with
      | returned v => exact hn _ _ hk
      | _ => exact hk.elim
    | _ => exact h.elim

/-- the same, of an equation on the run. -/
theorem opOk_of_run {P : Program} {o : Oper} {env : Env} {w w' : World} {v : Value} {K : Value → World → Prop} (h : (execOp (ev env) o).run P w = .ok (.value v) w') (hk : K v w') : OpOk P o env w K :=
  opOk_of_wp (by rw [Sem.wp_iff_run, h]; exact hk)

/-! ### The laws of 'semVC' -/
theorem semVC_bind (P : Program) {α β : Type} (x : Sem α) (f : α → Sem β) (Q : β → World → Prop) (w : World) :
    semVC P (x >>= f) Q w = semVC P x (fun a w' => semVC P (f a) Q w') w := by
  show semVC P (Sem.bind x f) Q w = _
  induction x generalizing w with
  | pure a => rfl
  | load m a k ih => simp only [Sem.bind, semVC, ih]
  | store m a v k ih => simp only [Sem.bind, semVC, stC, ih]
  | new o k ih => simp only [Sem.bind, semVC, newC, ih]
  | shape r k ih => simp only [Sem.bind, semVC, ih]
  | frozen a k ih => simp only [Sem.bind, semVC, ih]
  | program k ih => simp only [Sem.bind, semVC, ih]
  | mark m k ih => simp only [Sem.bind, semVC, ih]
  | _ => rfl
theorem semVC_pure (P : Program) {α : Type} (a : α) (Q : α → World → Prop) (w : World) : semVC P (pure a) Q w = Q a w := rfl
theorem semVC_program (P : Program) (Q : Program → World → Prop) (w : World) : semVC P program Q w = Q P w := rfl
theorem semVC_load (P : Program) (a : Addr) (m : Mode) (Q : Value → World → Prop) (w : World) : semVC P (Go.load a m) Q w = ∃ v, w.cell? a = some v ∧ Q v w := rfl
theorem semVC_store (P : Program) (a : Addr) (v : Value) (m : Mode) (Q : Unit → World → Prop) (w : World) : semVC P (Go.store a v m) Q w = (v.oneCell = true ∧ stC w a v fun w' => Q () w') := rfl
theorem semVC_newObj (P : Program) (o : Obj) (Q : Nat → World → Prop) (w : World) : semVC P (newObj o) Q w = newC w o Q := rfl
theorem semVC_info {P : Program} {t : TypeId} {i : TypeInfo} (h : P.info? t = some i) (Q : TypeInfo → World → Prop) (w : World) : semVC P (typeInfo t) Q w = Q i w := by
  simp only [typeInfo, semVC_bind, semVC_program, h, semVC_pure]
theorem semVC_underlying {P : Program} {t : TypeId} {d : TypeDesc} (h : P.underlying t = some d) (Q : TypeDesc → World → Prop) (w : World) : semVC P (underlying t) Q w = Q d w := by
  simp only [underlying, semVC_bind, semVC_program, h, semVC_pure]
theorem semVC_sizeOf {P : Program} {t : TypeId} {i : TypeInfo} (h : P.info? t = some i) (Q : Nat → World → Prop) (w : World) : semVC P (sizeOf t) Q w = Q i.size w := by
  simp only [sizeOf, semVC_bind, semVC_info h, semVC_pure]
theorem semVC_size' {P : Program} {t : TypeId} {d : TypeDesc} (h : P.underlying t = some d) (Q : Nat → World → Prop) (w : World) : semVC P (sizeOf t) Q w = Q (sizeT P t) w := by
  obtain ⟨i, hi⟩ := info_of_underlying h
  simp only [semVC_sizeOf hi, sizeT, hi]

def stCells : List Value → World → Addr → Nat → (World → Prop) → Prop
  | [], w, _, _, K => K w
  | v :: vs, w, a, i, K => stC w (a.add i) v fun w' => stCells vs w' a (i + 1) K

/-- the cells of a value, if each is one. -/
def oneC (v : Value) (K : Prop) : Prop := match v with | .agg _ | .tuple _ => False | _ => K
theorem oneC_out {v : Value} {K : Prop} (h : oneC v K) : v.oneCell = true ∧ v.cells = #[v] ∧ K := by
  cases v <;> first | exact ⟨rfl, rfl, h⟩ | exact h.elim
def onesC : List Value → Prop → Prop
  | [], K => K
  | v :: vs, K => oneC v (onesC vs K)
theorem onesC_out {vs : List Value} {K : Prop} (h : onesC vs K) : (∀ v ∈ vs, v.oneCell = true) ∧ K := by
  induction vs with
  | nil => exact ⟨by simp, h⟩
  | cons v vs ih =>
    obtain ⟨h1, _, h⟩ := oneC_out h
    obtain ⟨h2, h⟩ := ih h
    exact ⟨fun x hx => (List.mem_cons.1 hx).elim (fun e => e ▸ h1) (h2 x), h⟩
theorem storeCells_vc (P : Program) (a : Addr) (Q : Unit → World → Prop) : ∀ (vs : List Value) (i : Nat) (w : World), (∀ v ∈ vs, v.oneCell = true) →
    stCells vs w a i (fun w' => Q () w') → semVC P (storeCells a vs i) Q w
  | [], i, w, _, h => h
  | v :: vs, i, w, ho, h => by
    simp only [storeCells, semVC_bind, semVC_store]
    exact ⟨ho v (by simp), h.1, h.2.1, storeCells_vc P a Q vs (i + 1) _ (fun x hx => ho x (by simp [hx])) h.2.2⟩

/-- a store. -/
def stVC (P : Program) (t : TypeId) (w : World) (a : Addr) (v : Value) (K : World → Prop) : Prop :=
  match P.underlying t with
  | none => False
  | some _ =>
    match isAggT P t with
    | false => match Nat.beq 1 (sizeT P t) with | true => oneC v (stC w a v K) | false => False
    | true => match v with
      | .agg cs => match Nat.beq cs.size (sizeT P t) with | true => onesC cs.toList (stCells cs.toList w a 0 K) | false => False
      | _ => False
theorem addr_add_zero (a : Addr) : a.add 0 = a := by simp [Addr.add]
theorem stVC_sound {P : Program} {t : TypeId} {w : World} {a : Addr} {v : Value} {K : Unit → World → Prop} (h : stVC P t w a v fun w' => K () w') : semVC P (storeVar t a v) K w := by
  unfold stVC at h
  split at h
  · exact h.elim
  · rename_i d hd
    simp only [storeVar, semVC_bind, semVC_size' hd]
    split at h
    · split at h
      · rename_i _ hb
        obtain ⟨h1, h2, h⟩ := oneC_out h
        rw [h2]
        have : sizeT P t = 1 := (Nat.eq_of_beq_eq_true hb).symm
        rw [this]
        simp only [List.size_toArray, List.length_cons, List.length_nil, Nat.zero_add, ne_eq, not_true_eq_false, if_false, semVC_bind, semVC_pure]
        refine storeCells_vc P a K [v] 0 w (by simpa using h1) ?_
        simpa only [stCells, addr_add_zero] using h
      · exact h.elim
    · split at h
      · rename_i cs
        split at h
        · rename_i hb
          obtain ⟨h1, h⟩ := onesC_out h
          have hs : cs.size = sizeT P t := Nat.eq_of_beq_eq_true hb
          simp only [Value.cells, hs, ne_eq, not_true_eq_false, if_false, semVC_bind, semVC_pure]
          exact storeCells_vc P a K cs.toList 0 w h1 h
        · exact h.elim
      · exact h.elim

/-- does it leave the world alone? -/
def isRd : Op → Bool
  | .move _ | .assign _ | .pick .. | .load .. | .nilCheck _ | .fieldAddr .. | .field .. | .indexAddr .. | .index .. | .binOp .. | .unOp .. | .extract .. | .build .. | .makeFunc .. | .makeInterface .. | .lookup .. | .slice .. => true
  | .call c => (match c.callee with | .builtin .len | .builtin .cap | .builtin .min | .builtin .max => true | _ => false)
  | _ => false

/-- a function value is called. -/
def invC (P : Program) (f : Value) (args : Array Value) (w : World) (K : Value → World → Prop) : Prop :=
  semVC P (do let d ← Deferred.ofValue f args; invoke d.target d.args) (nextVC P K) w

/-- a method of an interface value is called. -/
def methC (P : Program) (recv : Value) (name : String) (args : Array Value) (w : World) (K : Value → World → Prop) : Prop :=
  semVC P (callMethod recv name args) (nextVC P K) w

/-- The operations that have a law of their own; all others: the model's own reckoning. -/
def vcOp (P : Program) (o : Oper) (env : Env) (w : World) (K : Value → World → Prop) : Prop :=
  match isRd o.op with
  | true => rdOp P o env (some w) fun v => K v w
  | false => match o.op with
    | .store t x v => ptrV (ev env x) fun a => stVC P t w a (ev env v) fun w' => K undef w'
    | .call c => match c.callee with
      | .builtin .append => runC P (Builtin.append_ c.argTypes o.type (c.args.map (ev env))) w fun v w' => tyOf P o.type v fun v => K v w'
      | .builtin .copy => runC P (Builtin.copy_ c.argTypes o.type (c.args.map (ev env))) w fun v w' => tyOf P o.type v fun v => K v w'
      | .builtin .clear => runC P (Builtin.clear_ c.argTypes o.type (c.args.map (ev env))) w fun v w' => K v w'
      | .builtin .delete => runC P (Builtin.delete_ c.argTypes o.type (c.args.map (ev env))) w fun v w' => K v w'
      | .builtin _ => semVC P (execOp (ev env) o) (nextVC P K) w
      | .value f => invC P (ev env f) (c.args.map (ev env)) w fun v w' => tyOf P o.type v fun v => K v w'
      | .invoke r name => methC P (ev env r) name (c.args.map (ev env)) w fun v w' => tyOf P o.type v fun v => K v w'
    | .typeAssert x t a ok => runC P (Instr.typeAssert (ev env x) t a ok) w fun v w' => tyOf P o.type v fun v => K v w'
    | .mapUpdate t m k x | .insert t m k x => runC P (Instr.mapUpdate t (ev env m) (ev env k) (ev env x)) w fun _ w' => K undef w'
    | .makeSlice t l c => runC P (Instr.makeSlice t (ev env l) (ev env c)) w fun v w' => tyOf P o.type v fun v => K v w'
    | .range t x => runC P (Instr.range t (ev env x)) w fun v w' => K v w'
    | .next it isS => runC P (Instr.next (ev env it) isS o.type) w fun v w' => tyOf P o.type v fun v => K v w'
    | .entry it => runC P (Instr.entry (ev env it)) w fun v w' => tyOf P o.type v fun v => K v w'
    | .convert src dst x => match P.underlying src, P.underlying dst with
      | some (.int _), some (.int _) => semVC P (execOp (ev env) o) (nextVC P K) w
      | _, _ => runC P (convert src dst (ev env x)) w fun v w' => tyOf P o.type v fun v => K v w'
    | _ => semVC P (execOp (ev env) o) (nextVC P K) w

/-- an operation that is one reckoning, its value handed on. -/
theorem opOk_of_runC {P : Program} {o : Oper} {env : Env} {w : World} {K : Value → World → Prop} {e : Sem Value} (hx : execOp (ev env) o = e >>= fun v => pure (.value v)) (h : runC P e w K) : OpOk P o env w K := by
  obtain ⟨v, w', hr, hk⟩ := h
  exact opOk_of_run (by rw [hx, Sem.run_bind, hr]; rfl) hk
theorem runC_mono {P : Program} {α : Type} {e : Sem α} {w : World} {K K' : α → World → Prop} (h : runC P e w K) (hk : ∀ v w', K v w' → K' v w') : runC P e w K' :=
  let ⟨v, w', hr, hx⟩ := h; ⟨v, w', hr, hk _ _ hx⟩

theorem opOk_of_vc {P : Program} {o : Oper} {env : Env} {w : World} {K : Value → World → Prop} (h : semVC P (execOp (ev env) o) (nextVC P K) w) : OpOk P o env w K :=
  opOk_of_wp (semVC_sound _ _ _ _ _ h)

theorem callC_mono {P : Program} {f : FuncId} {args : Array Value} {w : World} {K K' : Value → World → Prop} (h : callC P f args w K) (hk : ∀ v w', K v w' → K' v w') : callC P f args w K' :=
  Calls.mono h fun e w' x => by
    cases e with
    | returned v => exact hk _ _ x
    | _ => exact x.elim
theorem nextVC_mono {P : Program} {K K' : Value → World → Prop} (hk : ∀ v w', K v w' → K' v w') : ∀ (x : Next) (w : World), nextVC P K x w → nextVC P K' x w := by
  intro x w h
  cases x with
  | value v => exact hk _ _ h
  | skip => exact hk _ _ h
  | enter f args => exact callC_mono h hk
  | _ => exact h.elim
theorem semVC_mono {P : Program} {α : Type} {Q Q' : α → World → Prop} (hq : ∀ a w, Q a w → Q' a w) (x : Sem α) (w : World) (h : semVC P x Q w) : semVC P x Q' w := by
  induction x generalizing w with
  | pure a => exact hq _ _ h
  | load m a k ih => obtain ⟨v, hc, h⟩ := h; exact ⟨v, hc, ih _ _ h⟩
  | store m a v k ih => exact ⟨h.1, h.2.1, h.2.2.1, ih _ h.2.2.2⟩
  | new o k ih => exact ih _ _ h
  | shape r k ih => exact ih _ _ h
  | frozen a k ih => exact ih _ _ h
  | program k ih => exact ih _ _ h
  | mark m k ih => exact ih _ h
  | _ => exact h.elim

theorem vcOp_sound {P : Program} {o : Oper} {env : Env} {w : World} {K : Value → World → Prop} (h : vcOp P o env w K) : OpOk P o env w K := by
  unfold vcOp at h
  split at h
  · obtain ⟨v, hk, hr⟩ := rdOp_out h
    exact opOk_of_run (hr w rfl) hk
  obtain ⟨dst, op, ty, pos, after, guard⟩ := o
  simp only at h
  split at h
  · rename_i t x v
    apply opOk_of_vc
    obtain ⟨a, hx, h⟩ := ptrV_out h
    simp only [execOp, Instr.storeAt, hx, Instr.sureAddr, semVC_bind, semVC_pure]
    exact stVC_sound (K := fun _ w => nextVC P K .skip w) h
  · rename_i c _
    split at h
    · rename_i hc
      exact opOk_of_runC (by simp only [execOp, resolve, hc]; rfl) (runC_mono h fun v w' x => tyOf_out x)
    · rename_i hc
      exact opOk_of_runC (by simp only [execOp, resolve, hc]; rfl) (runC_mono h fun v w' x => tyOf_out x)
    · rename_i hc
      exact opOk_of_runC (by simp only [execOp, resolve, hc]; rfl) h
    · rename_i hc
      exact opOk_of_runC (by simp only [execOp, resolve, hc]; rfl) h
    · exact opOk_of_vc h
    · rename_i f hc
      apply opOk_of_vc
      have hx : execOp (ev env) ⟨dst, .call c, ty, pos, after, guard⟩ = (do let d ← Deferred.ofValue (ev env f) (c.args.map (ev env)); invoke d.target d.args) := by
        simp only [execOp, resolve, hc]
      rw [hx]
      exact semVC_mono (nextVC_mono fun v w' x => tyOf_out x) _ _ h
    · rename_i r name hc
      apply opOk_of_vc
      have hx : execOp (ev env) ⟨dst, .call c, ty, pos, after, guard⟩ = callMethod (ev env r) name (c.args.map (ev env)) := by
        have e1 : (#[ev env r] ++ c.args.map (ev env))[0]? = some (ev env r) := by
          rw [Array.getElem?_append_left (by simp)]; rfl
        have e2 : (#[ev env r] ++ c.args.map (ev env)).extract 1 (#[ev env r] ++ c.args.map (ev env)).size = c.args.map (ev env) := by
          apply Array.ext'
          simp only [Array.toList_extract, Array.toList_append, List.extract_eq_take_drop]
          rw [List.take_of_length_le (by simp)]
          rfl
        simp only [execOp, resolve, hc]
        show invoke (.fn (.method name) #[]) (#[ev env r] ++ c.args.map (ev env)) = _
        unfold invoke
        simp only [e1, e2]
      rw [hx]
      exact semVC_mono (nextVC_mono fun v w' x => tyOf_out x) _ _ h
  · exact opOk_of_runC rfl (runC_mono h fun v w' x => tyOf_out x)
  · rename_i t m k x _
    obtain ⟨v, w', hr, hk⟩ := h
    apply opOk_of_wp
    rw [Sem.wp_iff_run]
    have hx : execOp (ev env) ⟨dst, .mapUpdate t m k x, ty, pos, after, guard⟩ = (Instr.mapUpdate t (ev env m) (ev env k) (ev env x)) >>= fun _ => pure .skip := rfl
    rw [hx, Sem.run_bind, hr]
    exact hk
  · rename_i t m k x _
    obtain ⟨v, w', hr, hk⟩ := h
    apply opOk_of_wp
    rw [Sem.wp_iff_run]
    have hx : execOp (ev env) ⟨dst, .insert t m k x, ty, pos, after, guard⟩ = (Instr.mapUpdate t (ev env m) (ev env k) (ev env x)) >>= fun _ => pure .skip := rfl
    rw [hx, Sem.run_bind, hr]
    exact hk
  · exact opOk_of_runC rfl (runC_mono h fun v w' x => tyOf_out x)
  · exact opOk_of_runC rfl h
  · exact opOk_of_runC rfl (runC_mono h fun v w' x => tyOf_out x)
  · exact opOk_of_runC rfl (runC_mono h fun v w' x => tyOf_out x)
  · split at h
    · exact opOk_of_vc h
    · exact opOk_of_runC rfl (runC_mono h fun v w' x => tyOf_out x)
  · exact opOk_of_vc h

end Go.SX
