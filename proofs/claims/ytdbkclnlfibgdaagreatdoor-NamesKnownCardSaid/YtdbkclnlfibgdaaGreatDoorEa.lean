/- Joined by program of: Sx, Sy, Sz, Sd. -/
import Derived.Calls
import Derived.Wp
import Derived.Laws.World
import Derived.Laws.Sem
import Derived.Tactics
import Derived.StillTail
import Derived.OrdersHeld
import Derived.RangeFuncSeq
import Derived.TacticsIn
import Derived.ControlIn
import Derived.Defers
import Derived.Recover

/- The engine: a weakest-precondition function over the model's code that the kernel can run at symbolic values; its soundness against the model's own rules (Code.wp, Calls). Nothing of a program stands here. -/
namespace Go.SX

abbrev Env := List (Nat × Value)

def look : Env → Nat → Value
  | [], _ => undef
  | (j, v) :: r, i => match Nat.beq i j with | true => v | false => look r i

def ev (env : Env) : Operand → Value
  | .tmp t => look env t
  | .const v => v
  | .global g => .pointer (some ⟨g, 0, none⟩)
  | .func f => .func (.func f) #[] #[]

def putE (n : Nat) (env : Env) (d : Option Tmp) (v : Value) : Env :=
  match d with
  | none => env
  | some d => match Nat.blt d n with | true => (d, v) :: env | false => env

/-- What a frame of n slots has to do with an environment. -/
structure Fits (n : Nat) (D : List Deferred) (env : Env) (a : Act) : Prop where
  size : a.tmps.size = n
  defers : a.defers = D
  at_ : ∀ i, a.tmps.getD i undef = look env i

theorem Fits.eval {n : Nat} {D : List Deferred} {env : Env} {a : Act} (h : Fits n D env a) (o : Operand) : a.eval o = ev env o := by
  cases o <;> simp [Act.eval, ev, h.at_]

theorem Fits.eval_fun {n : Nat} {D : List Deferred} {env : Env} {a : Act} (h : Fits n D env a) : a.eval = ev env := funext h.eval

theorem Fits.put {n : Nat} {D : List Deferred} {env : Env} {a : Act} (h : Fits n D env a) (d : Option Tmp) (v : Value) : Fits n D (putE n env d v) (a.put d v) := by
  cases d with
  | none => simpa [putE, Act.put] using h
  | some d =>
    refine ⟨by simpa [Act.put] using h.size, by simpa [Act.put] using h.defers, fun i => ?_⟩
    have hs := h.size
    have hi := h.at_ i
    simp only [Act.put, putE]
    rw [Array.getD_eq_getD_getElem?] at hi ⊢
    by_cases hd : d < n
    · have : Nat.blt d n = true := Nat.ble_eq_true_of_le hd
      simp only [this, look]
      by_cases hid : i = d
      · subst hid
        simp [hs, hd]
      · have hb : Nat.beq i d = false := by
          cases hb : Nat.beq i d with
          | false => rfl
          | true => exact (hid (Nat.eq_of_beq_eq_true hb)).elim
        simp only [hb]
        rw [Array.getElem?_setIfInBounds_ne (by omega)]
        exact hi
    · have : Nat.blt d n = false := by
        cases hb : Nat.blt d n with
        | false => rfl
        | true => exact (hd (Nat.le_of_ble_eq_true hb)).elim
      simp only [this]
      rw [Array.setIfInBounds]
      simp [hs, hd]
      rw [← hi]

/-! ### Kinds: what a cell of a static type holds -/
inductive Kind where
  | int (k : IntKind) | bool | str | ptr | slice | map | any

def beqK : IntKind → IntKind → Bool
  | .i8, .i8 | .i16, .i16 | .i32, .i32 | .i64, .i64 | .u8, .u8 | .u16, .u16 | .u32, .u32 | .u64, .u64 => true
  | _, _ => false
theorem beqK_eq {a b : IntKind} (h : beqK a b = true) : a = b := by cases a <;> cases b <;> first | rfl | cases h

/-- some value of a kind. -/
def exK (k : Kind) (K : Value → Prop) : Prop :=
  match k with
  | .int k => ∃ n : Int, K (.int k n)
  | .bool => ∃ b : Bool, K (.bool b)
  | .str => ∃ s : ByteArray, K (.string s)
  | .ptr => ∃ a : Option Addr, K (.pointer a)
  | .slice => ∃ (a : Option Addr) (l c : Nat), K (.slice a l c)
  | .map => ∃ r : Option Nat, K (.map r)
  | .any => ∃ v : Value, K v
theorem exK_ex {k : Kind} {K : Value → Prop} (h : exK k K) : ∃ v, K v := by
  cases k <;> simp only [exK] at h
  case slice => obtain ⟨a, l, c, h⟩ := h; exact ⟨_, h⟩
  all_goals obtain ⟨n, h⟩ := h; exact ⟨_, h⟩

def kindOfZero : Value → Kind
  | .int k _ => .int k
  | .bool _ => .bool
  | .string _ => .str
  | .pointer _ => .ptr
  | .slice .. => .slice
  | .map _ => .map
  | _ => .any

/-- the kinds of a type's cells; is it of one cell and no aggregate? -/
def kindsOf (P : Program) (t : TypeId) : List Kind :=
  match P.info? t with
  | some i => match i.zero with
    | some (.agg cs) => cs.toList.map kindOfZero
    | some v => [kindOfZero v]
    | none => []
  | none => []

def isAggT (P : Program) (t : TypeId) : Bool :=
  match P.underlying t with
  | some (.struct _) | some (.array _ _) => true
  | _ => false

/-- cells of kinds at an address, one behind the other. -/
def ldCells (w : World) (a : Addr) : Nat → List Kind → (List Value → Prop) → Prop
  | _, [], K => K []
  | i, k :: ks, K => exK k fun v => w.cell? (a.add i) = some v ∧ ldCells w a (i + 1) ks fun vs => K (v :: vs)

/-- typed results. -/
def exKs : List Kind → (List Value → Prop) → Prop
  | [], K => K []
  | k :: ks, K => exK k fun v => exKs ks fun vs => K (v :: vs)

inductive Shape where
  | one (k : Kind) | agg (ks : List Kind)

def shapeOf (P : Program) (t : TypeId) : Shape :=
  match isAggT P t with
  | true => .agg (kindsOf P t)
  | false => .one (match kindsOf P t with | k :: _ => k | [] => .any)

def exShape (s : Shape) (K : Value → Prop) : Prop :=
  match s with
  | .one k => exK k K
  | .agg ks => exKs ks fun vs => K (.agg vs.toArray)
theorem exKs_ex {ks : List Kind} : ∀ {K : List Value → Prop}, exKs ks K → ∃ v, K v := by
  induction ks with
  | nil => exact fun h => ⟨_, h⟩
  | cons k ks ih =>
    intro K h
    obtain ⟨v, h⟩ := exK_ex h
    obtain ⟨vs, h⟩ := ih h
    exact ⟨_, h⟩
theorem exShape_ex {s : Shape} {K : Value → Prop} (h : exShape s K) : ∃ v, K v := by
  cases s with
  | one k => exact exK_ex h
  | agg ks => obtain ⟨vs, h⟩ := exKs_ex h; exact ⟨_, h⟩

def exShapes : List Shape → (List Value → Prop) → Prop
  | [], K => K []
  | s :: ss, K => exShape s fun v => exShapes ss fun vs => K (v :: vs)
theorem exShapes_ex {ss : List Shape} : ∀ {K : List Value → Prop}, exShapes ss K → ∃ v, K v := by
  induction ss with
  | nil => exact fun h => ⟨_, h⟩
  | cons s ss ih =>
    intro K h
    obtain ⟨v, h⟩ := exShape_ex h
    obtain ⟨vs, h⟩ := ih h
    exact ⟨_, h⟩

/-! ### Words that stay in a text -/
def brC (b : Bool) (t e : Prop) : Prop := match b with | true => t | false => e
theorem brC_intro {b : Bool} {t e : Prop} (ht : b = true → t) (he : b = false → e) : brC b t e := by
  cases b
  · exact he rfl
  · exact ht rfl
theorem brC_false {b : Int} {t : Prop} (h : brC (b != 0) t False) : b ≠ 0 ∧ t := by
  cases hb : (b != 0) with
  | true => rw [hb] at h; exact ⟨by simpa using hb, h⟩
  | false => rw [hb] at h; exact h.elim
def newC (w : World) (o : Obj) (K : Nat → World → Prop) : Prop := K w.heap.size (w.alloc o)
def stC (w : World) (a : Addr) (v : Value) (K : World → Prop) : Prop :=
  (∃ u, w.cell? a = some u) ∧ w.frozen? a = false ∧ K (w.setCell a v)
def drawC (w : World) (K : World → Prop) : Prop := K w.drew
/-- a call: what it answers, typed by shapes. -/
def callC (P : Program) (f : FuncId) (args : Array Value) (w : World) (K : Value → World → Prop) : Prop :=
  Calls P f args w fun e w' => match e with | .returned v => K v w' | _ => False

/-- a call that may panic: K: it returns; R: it panics with a value. -/
def panK (R : Value → World → Prop) : List PanicEntry → World → Prop
  | [⟨v, false, false⟩], w => R v w
  | _, _ => False
def endK (K R : Value → World → Prop) : Ending → World → Prop
  | .returned v, w => K v w
  | .panicked c, w => panK R c w
  | _, _ => False
def callX (P : Program) (f : FuncId) (args : Array Value) (w : World) (K R : Value → World → Prop) : Prop := Calls P f args w (endK K R)
theorem panK_out {R : Value → World → Prop} {c : List PanicEntry} {w : World} (h : panK R c w) : ∃ v, c = [{ v, recovered := false }] ∧ R v w := by
  unfold panK at h
  split at h
  · exact ⟨_, rfl, h⟩
  · exact h.elim
/-- which functions may panic; may function values? -/
structure Px where
  fns : List Nat
  val : Bool
def memN : List Nat → Nat → Bool
  | [], _ => false
  | j :: r, i => match Nat.beq i j with | true => true | false => memN r i

/-! ### The model's own reckoning, run: reading alone ('none': no world is looked at) -/
def semR (P : Program) {α : Type} : Sem α → (α → Prop) → Option World → Prop
  | .pure a, Q, _ => Q a
  | .load _ a k, Q, some w => ∃ v, w.cell? a = some v ∧ semR P (k v) Q (some w)
  | .shape r k, Q, some w => semR P (k (w.shape? r)) Q (some w)
  | .frozen a k, Q, some w => semR P (k (w.frozen? a)) Q (some w)
  | .program k, Q, w => semR P (k P) Q w
  | .mark _ k, Q, w => semR P k Q w
  | _, _, _ => False

/-- which worlds are meant. -/
def at_ (w : World) : Option World → Prop
  | some w' => w = w'
  | none => True

theorem semR_out {P : Program} {α : Type} {e : Sem α} {Q : α → Prop} {ow : Option World} (h : semR P e Q ow) : ∃ a, Q a ∧ ∀ w, at_ w ow → e.run P w = .ok a w := by
  induction e with
  | pure a => exact ⟨a, h, fun _ _ => rfl⟩
  | load m a k ih =>
    cases ow with
    | none => exact h.elim
    | some w0 =>
      obtain ⟨v, hc, h⟩ := h
      obtain ⟨x, hx, hr⟩ := ih _ h
      refine ⟨x, hx, fun w hw => ?_⟩
      cases hw
      simp only [Sem.run, hc]
      exact hr _ rfl
  | shape r k ih =>
    cases ow with
    | none => exact h.elim
    | some w0 =>
      obtain ⟨x, hx, hr⟩ := ih _ h
      exact ⟨x, hx, fun w hw => by cases hw; exact hr _ rfl⟩
  | frozen r k ih =>
    cases ow with
    | none => exact h.elim
    | some w0 =>
      obtain ⟨x, hx, hr⟩ := ih _ h
      exact ⟨x, hx, fun w hw => by cases hw; exact hr _ rfl⟩
  | program k ih =>
    have h' : semR P (k P) Q ow := by cases ow <;> exact h
    obtain ⟨x, hx, hr⟩ := ih _ h'
    exact ⟨x, hx, hr⟩
  | mark m k ih =>
    have h' : semR P k Q ow := by cases ow <;> exact h
    obtain ⟨x, hx, hr⟩ := ih h'
    exact ⟨x, hx, hr⟩
  | _ => cases ow <;> exact h.elim

theorem semR_pure (P : Program) {α : Type} (a : α) (Q : α → Prop) (w : Option World) : semR P (pure a) Q w = Q a := by cases w <;> rfl
theorem semR_program (P : Program) (Q : Program → Prop) (w : Option World) : semR P program Q w = Q P := by cases w <;> rfl
theorem semR_bind (P : Program) {α β : Type} (x : Sem α) (f : α → Sem β) (Q : β → Prop) (w : Option World) :
    semR P (x >>= f) Q w = semR P x (fun a => semR P (f a) Q w) w := by
  show semR P (Sem.bind x f) Q w = _
  induction x with
  | pure a => cases w <;> rfl
  | load m a k ih => cases w <;> simp only [Sem.bind, semR, ih]
  | shape r k ih => cases w <;> simp only [Sem.bind, semR, ih]
  | frozen a k ih => cases w <;> simp only [Sem.bind, semR, ih]
  | program k ih => cases w <;> simp only [Sem.bind, semR, ih]
  | mark m k ih => cases w <;> simp only [Sem.bind, semR, ih]
  | _ => cases w <;> rfl
theorem semR_load (P : Program) (a : Addr) (m : Mode) (Q : Value → Prop) (w : World) : semR P (Go.load a m) Q (some w) = ∃ v, w.cell? a = some v ∧ Q v := rfl
theorem semR_info {P : Program} {t : TypeId} {i : TypeInfo} (h : P.info? t = some i) (Q : TypeInfo → Prop) (w : Option World) : semR P (typeInfo t) Q w = Q i := by
  simp only [typeInfo, semR_bind, semR_program, h, semR_pure]
theorem semR_underlying {P : Program} {t : TypeId} {d : TypeDesc} (h : P.underlying t = some d) (Q : TypeDesc → Prop) (w : Option World) : semR P (underlying t) Q w = Q d := by
  simp only [underlying, semR_bind, semR_program, h, semR_pure]
theorem info_of_underlying {P : Program} {t : TypeId} {d : TypeDesc} (h : P.underlying t = some d) : ∃ i, P.info? t = some i := by
  unfold Program.underlying at h
  split at h
  · exact ⟨_, by assumption⟩
  · exact ⟨_, by assumption⟩
  · cases h
/-- the size of a type as the program's table has it. -/
def sizeT (P : Program) (t : TypeId) : Nat := match P.info? t with | some i => i.size | none => 0
theorem semR_size {P : Program} {t : TypeId} {d : TypeDesc} (h : P.underlying t = some d) (Q : Nat → Prop) (w : Option World) : semR P (sizeOf t) Q w = Q (sizeT P t) := by
  obtain ⟨i, hi⟩ := info_of_underlying h
  simp only [sizeOf, semR_bind, semR_info hi, semR_pure, sizeT, hi]
theorem semR_isAgg {P : Program} {t : TypeId} {d : TypeDesc} (h : P.underlying t = some d) (Q : Bool → Prop) (w : Option World) : semR P (isAgg t) Q w = Q (isAggT P t) := by
  simp only [isAgg, semR_bind, semR_underlying h, isAggT, h]
  cases d <;> simp only [semR_pure]

theorem loadCellsFrom_vc (P : Program) (a : Addr) (Q : Array Value → Prop) (w : World) : ∀ (ks : List Kind) (i : Nat) (acc : Array Value),
    ldCells w a i ks (fun vs => Q (acc ++ vs.toArray)) → semR P (loadCellsFrom a i ks.length acc) Q (some w)
  | [], i, acc, h => by simpa [loadCellsFrom, ldCells, semR_pure] using h
  | k :: ks, i, acc, h => by
    simp only [ldCells] at h
    obtain ⟨v, hc, h⟩ := exK_ex h
    simp only [List.length_cons, loadCellsFrom, semR_bind, semR_load]
    refine ⟨v, hc, loadCellsFrom_vc P a Q w ks (i + 1) (acc.push v) ?_⟩
    have e : ∀ vs : List Value, acc ++ (v :: vs).toArray = acc.push v ++ vs.toArray := fun vs => by
      apply Array.ext'; simp
    simpa only [e] using h

/-- a typed load. -/
def ldVC (P : Program) (t : TypeId) (w : World) (a : Addr) (K : Value → Prop) : Prop :=
  match P.underlying t with
  | none => False
  | some _ =>
    match shapeOf P t with
    | .one k => exK k fun v => w.cell? a = some v ∧ K v
    | .agg ks => match Nat.beq ks.length (sizeT P t) with | true => ldCells w a 0 ks fun vs => K (.agg vs.toArray) | false => False
theorem ldVC_sound {P : Program} {t : TypeId} {w : World} {a : Addr} {K : Value → Prop} (h : ldVC P t w a K) : semR P (loadVar t a) K (some w) := by
  unfold ldVC at h
  split at h
  · exact h.elim
  · rename_i d hd
    simp only [loadVar, semR_bind, semR_isAgg hd]
    unfold shapeOf at h
    cases hag : isAggT P t with
    | false =>
      simp only [hag] at h
      obtain ⟨v, hc, h⟩ := exK_ex h
      exact ⟨v, hc, h⟩
    | true =>
      simp only [hag] at h
      simp only [if_true, semR_bind, semR_size hd, loadCells]
      cases hb : Nat.beq (kindsOf P t).length (sizeT P t) with
      | false => simp only [hb] at h
      | true =>
        simp only [hb] at h
        rw [← Nat.eq_of_beq_eq_true hb]
        refine loadCellsFrom_vc P a _ w _ 0 #[] ?_
        simpa [semR_pure] using h

def ptrC (p : Option Addr) (K : Addr → Prop) : Prop := match p with | some a => K a | none => False
theorem ptrC_out {p : Option Addr} {K : Addr → Prop} (h : ptrC p K) : ∃ a, p = some a ∧ K a := by
  cases p with
  | none => exact h.elim
  | some a => exact ⟨a, rfl, h⟩
/-- a pointer that is not nil. -/
def ptrV (v : Value) (K : Addr → Prop) : Prop := match v with | .pointer p => ptrC p K | _ => False
theorem ptrV_out {v : Value} {K : Addr → Prop} (h : ptrV v K) : ∃ a, v = .pointer (some a) ∧ K a := by
  cases v with
  | pointer p => obtain ⟨a, rfl, h⟩ := ptrC_out h; exact ⟨a, rfl, h⟩
  | _ => exact h.elim

/-- an element's place. -/
def idxC (i : Int) (len : Nat) (K : Prop) : Prop := 0 ≤ i ∧ i < len ∧ K

/-- a byte of a string. -/
def byteAt (s : ByteArray) (i : Nat) : Int := match s[i]? with | some b => b.toNat | none => 0

def nextR (K : Value → Prop) : Next → Prop
  | .value v => K v
  | _ => False

/-- a reckoning of the model's own that only reads, left as it stands. -/
def runR (P : Program) {α : Type} (e : Sem α) (ow : Option World) (K : α → Prop) : Prop := ∃ v, K v ∧ ∀ w, at_ w ow → e.run P w = .ok v w
/-- a reckoning of the model's own, left as it stands. -/
def runC (P : Program) {α : Type} (e : Sem α) (w : World) (K : α → World → Prop) : Prop := ∃ v w', e.run P w = .ok v w' ∧ K v w'
/-- bounds of a slice expression. -/
def slcC (lo hi : Int) (cap : Nat) (K : Prop) : Prop := 0 ≤ lo ∧ lo ≤ hi ∧ hi ≤ cap ∧ K
def capOf (h : Option Int) (n c : Nat) : Nat := match h with | none => n | some _ => c
def subP (a : Option Addr) (m l size : Nat) : Option Addr := if m = l then a else a.map (·.add (l * size))

def tyC (ss : List Shape) (single : Bool) (v : Value) (K : Value → Prop) : Prop :=
  match single, ss with
  | true, s :: _ => exShape s fun x => v = x ∧ K x
  | _, ss => exShapes ss fun xs => v = .tuple xs.toArray ∧ K (.tuple xs.toArray)
theorem tyC_out {ss : List Shape} {single : Bool} {v : Value} {K : Value → Prop} (h : tyC ss single v K) : K v := by
  unfold tyC at h
  split at h
  · obtain ⟨x, hx, h'⟩ := exShape_ex h; rw [hx]; exact h'
  · obtain ⟨x, hx, h'⟩ := exShapes_ex h; rw [hx]; exact h'
/-- an answer, by the type of the operation. -/
def tyOf (P : Program) (t : TypeId) (v : Value) (K : Value → Prop) : Prop :=
  match P.underlying t with
  | some (.tuple es) => tyC (es.toList.map (shapeOf P)) false v K
  | _ => tyC [shapeOf P t] true v K
theorem tyOf_out {P : Program} {t : TypeId} {v : Value} {K : Value → Prop} (h : tyOf P t v K) : K v := by
  unfold tyOf at h
  split at h <;> exact tyC_out h

/-- '==' against nil, the sort of nil given. -/
def nilEq (P : Program) (t : TypeId) (x y : Value) : Option Bool :=
  match y with
  | .pointer none => (match x with | .pointer a => (match P.underlying t with | some (.pointer _) => some a.isNone | _ => none) | _ => none)
  | .slice none _ _ => (match x with | .slice a _ _ => (match P.underlying t with | some (.slice _) => some a.isNone | _ => none) | _ => none)
  | .map none => (match x with | .map a => (match P.underlying t with | some (.map _ _) => some a.isNone | _ => none) | _ => none)
  | _ => none

theorem equalIn_nil {P : Program} (d : Nat) {t : TypeId} {x y : Value} {b : Bool} (h : nilEq P t x y = some b) (Q : Bool → Prop) (w : Option World) (hq : Q b) : semR P (Op.equalIn (d + 1) t x y) Q w := by
  unfold nilEq at h
  split at h
  · split at h
    · split at h
      · rename_i a _ e ht
        cases h
        cases a <;> (simp only [Op.equalIn, semR_bind, semR_underlying ht, semR_pure]; exact hq)
      · cases h
    · cases h
  · split at h
    · split at h
      · rename_i a _ _ _ e ht
        cases h
        cases a <;> (simp only [Op.equalIn, semR_bind, semR_underlying ht, semR_pure]; exact hq)
      · cases h
    · cases h
  · split at h
    · split at h
      · rename_i a _ e e' ht
        cases h
        cases a <;> (simp only [Op.equalIn, semR_bind, semR_underlying ht, semR_pure]; exact hq)
      · cases h
    · cases h
  · cases h

theorem nilEq_shape {P : Program} {t : TypeId} {x y : Value} {b : Bool} (h : nilEq P t x y = some b) :
    (∃ a, x = .pointer a) ∨ (∃ a l c, x = .slice a l c) ∨ (∃ a, x = .map a) := by
  unfold nilEq at h
  split at h
  · split at h
    · exact .inl ⟨_, rfl⟩
    · cases h
  · split at h
    · exact .inr (.inl ⟨_, _, _, rfl⟩)
    · cases h
  · split at h
    · exact .inr (.inr ⟨_, rfl⟩)
    · cases h
  · cases h

/-- an operator on two values; 'other': what else is to be met. -/
def binR (P : Program) (op : BinOp) (t : TypeId) (x y : Value) (K : Value → Prop) (other : Prop) : Prop :=
  match op with
  | .quo => (match x, y with
    | .int k a, .int k' b => (match beqK k k' with | true => brC (b != 0) (K (.int k (k.wrap (a.tdiv b)))) False | false => False)
    | _, _ => other)
  | .rem => (match x, y with
    | .int k a, .int k' b => (match beqK k k' with | true => brC (b != 0) (K (.int k (a.tmod b))) False | false => False)
    | _, _ => other)
  | .add => (match x, y with
    | .string a, .string b => ((a.size + b.size : Nat) : Int) ≤ IntKind.i64.max ∧ K (.string (a ++ b))
    | _, _ => other)
  | .eql => (match nilEq P t x y with | some b => K (.bool b) | none => other)
  | .neq => (match nilEq P t x y with | some b => K (.bool !b) | none => other)
  | _ => other

theorem eqGuard_nil {P : Program} {t : TypeId} {x y : Value} {b : Bool} (h : nilEq P t x y = some b) (op : BinOp) (ox oy : Operand) : eqGuard op t ox oy x y = pure () := by
  rcases nilEq_shape h with ⟨a, rfl⟩ | ⟨a, l, c, rfl⟩ | ⟨a, rfl⟩ <;> cases op <;> rfl

theorem binR_out {P : Program} {op : BinOp} {t : TypeId} {ox oy : Operand} {x y : Value} {K : Value → Prop} {other : Prop} {ow : Option World}
    (h : binR P op t x y K other) (ho : other → semR P (do eqGuard op t ox oy x y; binOp op t x y) K ow) : semR P (do eqGuard op t ox oy x y; binOp op t x y) K ow := by
  unfold binR at h
  split at h
  · split at h
    · split at h
      · rename_i hk
        obtain ⟨hb, h⟩ := brC_false h
        have := beqK_eq hk
        subst this
        simp only [eqGuard, binOp, semR_bind]
        simp only [Op.intDiv, hb, semR_pure, if_false, ne_eq, not_true_eq_false, ite_false]
        exact h
      · exact h.elim
    · exact ho h
  · split at h
    · split at h
      · rename_i hk
        obtain ⟨hb, h⟩ := brC_false h
        have := beqK_eq hk
        subst this
        simp only [eqGuard, binOp, semR_bind]
        simp only [Op.intDiv, hb, semR_pure, if_false, ne_eq, not_true_eq_false, ite_false]
        exact h
      · exact h.elim
    · exact ho h
  · split at h
    · rename_i a b
      obtain ⟨hb, h⟩ := h
      simp only [eqGuard, binOp, semR_bind]
      have hb' : ¬ (((a.size + b.size : Nat) : Int) > IntKind.i64.max) := by omega
      simp only [Op.stringOp, hb', semR_pure, if_false]
      exact h
    · exact ho h
  · split at h
    · rename_i b hb
      rw [eqGuard_nil hb]
      have he : binOp .eql t x y = Op.equal t x y >>= fun b => pure (.bool b) := by
        rcases nilEq_shape hb with ⟨a, rfl⟩ | ⟨a, l, c, rfl⟩ | ⟨a, rfl⟩ <;> rfl
      rw [semR_bind, semR_pure, he, semR_bind]
      exact equalIn_nil 9999 hb _ _ (by rw [semR_pure]; exact h)
    · exact ho h
  · split at h
    · rename_i b hb
      rw [eqGuard_nil hb]
      have he : binOp .neq t x y = Op.equal t x y >>= fun b => pure (.bool !b) := by
        rcases nilEq_shape hb with ⟨a, rfl⟩ | ⟨a, l, c, rfl⟩ | ⟨a, rfl⟩ <;> rfl
      rw [semR_bind, semR_pure, he, semR_bind]
      exact equalIn_nil 9999 hb _ _ (by rw [semR_pure]; exact h)
    · exact ho h
  · exact ho h

/-- '==' or '!=' of two structs, as the model has it. -/
def eqSem (op : BinOp) (t : TypeId) (x y : Operand) (a b : Value) : Sem Value := do
  eqGuard op t x y a b
  binOp op t a b

/-- the ends of a slice expression, where they are integers. -/
def sliceEnds (env : Env) (lo hi : Option Operand) : Option (Option Int × Option Int) :=
  match lo with
  | none => (match hi with
    | none => some (none, none)
    | some h => match ev env h with | .int _ y => some (none, some y) | _ => none)
  | some l => match ev env l with
    | .int _ x => (match hi with
      | none => some (some x, none)
      | some h => match ev env h with | .int _ y => some (some x, some y) | _ => none)
    | _ => none

theorem runR_rd {P : Program} {ow : Option World} {K : Value → Prop} {e : Sem Value} {x : Sem Next} (hx : x = e >>= fun v => pure (.value v)) (h : runR P e ow K) :
    ∃ v, K v ∧ ∀ w, at_ w ow → x.run P w = .ok (.value v) w := by
  obtain ⟨v, hk, hr⟩ := h
  exact ⟨v, hk, fun w hw => by rw [hx, Sem.run_bind, hr w hw]; rfl⟩

/-- the bounds of a slice expression, as the model has them. -/
theorem sliceBounds_vc {P : Program} {env : Env} {lo hi : Option Operand} {l h : Option Int} (he : sliceEnds env lo hi = some (l, h)) (b : Bool) (len cap : Nat)
    (h0 : 0 ≤ l.getD 0) (h1 : l.getD 0 ≤ h.getD len) (h2 : h.getD len ≤ capOf h len cap) (Q : Nat × Nat × Nat → Prop) (w : Option World)
    (hq : Q ((l.getD 0).toNat, (h.getD len).toNat, cap)) : semR P (Instr.sliceBounds b len cap (lo.map (ev env)) (hi.map (ev env)) none) Q w := by
  unfold sliceEnds at he
  split at he
  · split at he
    · cases he
      simp only [Instr.sliceBounds, Option.map_none, semR_bind, semR_pure]
      simpa using hq
    · rename_i hh
      split at he
      · rename_i k y hy
        cases he
        simp only [Option.getD_some, Option.getD_none, capOf] at h0 h1 h2 hq
        have hc : 0 ≤ y ∧ y ≤ (cap : Int) := ⟨h1, h2⟩
        simp only [Instr.sliceBounds, Option.map_none, Option.map_some, semR_bind, semR_pure, Instr.sliceBound, hy, asIntOf, hc, and_self, if_true]
        simpa using hq
      · cases he
  · rename_i ll
    split at he
    · rename_i k x hx
      split at he
      · cases he
        simp only [Option.getD_some, Option.getD_none, capOf] at h0 h1 h2 hq
        simp only [Instr.sliceBounds, Option.map_none, Option.map_some, semR_bind, semR_pure, Instr.sliceBound, hx, asIntOf, h0, h1, and_self, if_true]
        simpa using hq
      · rename_i hh
        split at he
        · rename_i k' y hy
          cases he
          simp only [Option.getD_some, capOf] at h0 h1 h2 hq
          have hc : 0 ≤ y ∧ y ≤ (cap : Int) := ⟨by omega, h2⟩
          have hd : 0 ≤ x ∧ x ≤ (y.toNat : Int) := ⟨h0, by omega⟩
          simp only [Instr.sliceBounds, Option.map_none, Option.map_some, semR_bind, semR_pure, Instr.sliceBound, hx, hy, asIntOf, hc, hd, and_self, if_true]
          exact hq
        · cases he
    · cases he

/-- Operations that leave the world alone. -/
def rdOp (P : Program) (o : Oper) (env : Env) (ow : Option World) (K : Value → Prop) : Prop :=
  match o.op with
  | .move x => K (ev env x)
  | .assign x => K (ev env x)
  | .pick c a b => match ev env c with
    | .bool t => brC t (K (ev env a)) (K (ev env b))
    | _ => False
  | .load t x => match ow with
    | some w => ptrV (ev env x) fun a => ldVC P t w a K
    | none => False
  | .nilCheck x => match ev env x with
    | .pointer p => ptrC p fun a => K (.pointer (some a))
    | .func (.func f) x y => K (.func (.func f) x y)
    | _ => False
  | .fieldAddr s x f => match P.underlying s with
    | some (.struct fields) => match fields[f]? with
      | some fi => match Nat.beq (sizeT P fi.type) 0 with
        | false => match P.underlying fi.type with
          | some _ => ptrV (ev env x) fun a => K (.pointer (some (a.add fi.offset)))
          | none => False
        | true => False
      | none => False
    | _ => False
  | .indexAddr t x i => match ev env i with
    | .int _ n => match P.underlying t with
      | some (.array len elem) => match P.underlying elem with
        | some _ => ptrV (ev env x) fun a => idxC n len (K (.pointer (some (a.add (n.toNat * sizeT P elem)))))
        | none => False
      | some (.slice elem) => match P.underlying elem with
        | some _ => match ev env x with
          | .slice base len _ => idxC n len (ptrC base fun a => K (.pointer (some (a.add (n.toNat * sizeT P elem)))))
          | _ => False
        | none => False
      | _ => False
    | _ => False
  | .index t x i => match ev env i, ev env x with
    | .int _ n, .string s => match P.underlying t with
      | some .string => idxC n s.size (K (.int .u8 (byteAt s n.toNat)))
      | _ => False
    | .int k n, .agg cs => runR P (Instr.index t (.agg cs) (.int k n)) ow fun v => tyOf P o.type v K
    | _, _ => semR P (execOp (ev env) o) (nextR K) ow
  | .binOp op t x y _ => match ev env y with
    | .nilIface => runR P (eqSem op t x y (ev env x) .nilIface) ow fun v => tyOf P o.type v K
    | _ => match ev env x, ev env y with
      | .agg a, .agg b => runR P (eqSem op t x y (.agg a) (.agg b)) ow fun v => tyOf P o.type v K
      | .pointer a, .pointer b => match y with
        | .const _ => binR P op t (.pointer a) (.pointer b) K (semR P (execOp (ev env) o) (nextR K) ow)
        | _ => runR P (eqSem op t x y (.pointer a) (.pointer b)) ow fun v => tyOf P o.type v K
      | _, _ => binR P op t (ev env x) (ev env y) K (semR P (execOp (ev env) o) (nextR K) ow)
  | .lookup t x i ok => runR P (Instr.lookup t (ev env x) (ev env i) ok) ow fun v => tyOf P o.type v K
  | .slice t x lo hi none => match sliceEnds env lo hi with
    | none => False
    | some (l, h) => match P.underlying t with
      | some .string => match ev env x with
        | .string s => slcC (l.getD 0) (h.getD s.size) s.size (K (.string (s.extract (l.getD 0).toNat (h.getD s.size).toNat)))
        | _ => False
      | some (.slice elem) => match P.underlying elem with
        | some _ => match ev env x with
          | .slice a n c => slcC (l.getD 0) (h.getD n) (capOf h n c) (K (.slice (subP a c (l.getD 0).toNat (sizeT P elem)) ((h.getD n).toNat - (l.getD 0).toNat) (c - (l.getD 0).toNat)))
          | _ => False
        | none => False
      | some (.array n elem) => match P.underlying elem with
        | some _ => ptrV (ev env x) fun a => slcC (l.getD 0) (h.getD n) n (K (.slice (subP (some a) n (l.getD 0).toNat (sizeT P elem)) ((h.getD n).toNat - (l.getD 0).toNat) (n - (l.getD 0).toNat)))
        | none => False
      | _ => False
  | .call c => match c.callee with
    | .builtin .len => match c.args.toList with
      | [x] => match ev env x with
        | .map r => runR P (Builtin.len_ c.argTypes o.type (c.args.map (ev env))) ow fun v => tyOf P o.type v K
        | _ => semR P (execOp (ev env) o) (nextR K) ow
      | _ => False
    | _ => semR P (execOp (ev env) o) (nextR K) ow
  | _ => semR P (execOp (ev env) o) (nextR K) ow

theorem rd_of_semR {P : Program} {o : Oper} {env : Env} {ow : Option World} {K : Value → Prop} (h : semR P (execOp (ev env) o) (nextR K) ow) :
    ∃ v, K v ∧ ∀ w, at_ w ow → (execOp (ev env) o).run P w = .ok (.value v) w := by
  obtain ⟨x, hx, hr⟩ := semR_out h
  cases x with
  | value v => exact ⟨v, hx, hr⟩
  | _ => exact hx.elim

theorem rdOp_out {P : Program} {o : Oper} {env : Env} {ow : Option World} {K : Value → Prop} (h : rdOp P o env ow K) :
    ∃ v, K v ∧ ∀ w, at_ w ow → (execOp (ev env) o).run P w = .ok (.value v) w := by
  obtain ⟨dst, op, ty, pos, after, guard⟩ := o
  unfold rdOp at h
  simp only at h
  split at h
  · refine rd_of_semR ?_; simp only [execOp, semR_pure]; exact h
  · refine rd_of_semR ?_; simp only [execOp, semR_pure]; exact h
  · rename_i c a b
    refine rd_of_semR ?_
    cases hc : ev env c with
    | bool t =>
      rw [hc] at h
      simp only [execOp, semR_bind, hc, asBool, semR_pure]
      cases t <;> exact h
    | _ => rw [hc] at h; exact h.elim
  · rename_i t x
    refine rd_of_semR ?_
    cases ow with
    | none => exact h.elim
    | some w =>
      obtain ⟨a, hx, h⟩ := ptrV_out h
      simp only [execOp, Instr.loadAt, hx, Instr.sureAddr, semR_bind, semR_pure]
      exact ldVC_sound (K := fun v => nextR K (.value v)) h
  · rename_i x
    refine rd_of_semR ?_
    cases hx : ev env x with
    | pointer p =>
      rw [hx] at h
      obtain ⟨a, rfl, h⟩ := ptrC_out h
      simp only [execOp, hx, semR_pure]
      exact h
    | func fn a b =>
      rw [hx] at h
      cases fn with
      | func f => simp only [execOp, hx, semR_pure]; exact h
      | _ => exact h.elim
    | _ => rw [hx] at h; exact h.elim
  · rename_i s x f
    refine rd_of_semR ?_
    split at h
    case h_2 => exact h.elim
    rename_i fields hs
    split at h
    case h_2 => exact h.elim
    rename_i fi hf
    split at h
    case h_2 => exact h.elim
    rename_i hz
    split at h
    case h_2 => exact h.elim
    rename_i d hd
    obtain ⟨a, hx, h⟩ := ptrV_out h
    have hz' : ¬ sizeT P fi.type = 0 := fun e => by rw [e] at hz; cases hz
    simp only [execOp, Instr.fieldAt, fieldPlace, hx, Instr.sureAddr, semR_bind, semR_underlying hs, hf, semR_pure, semR_size hd, hz', if_false]
    exact h
  · rename_i t x i
    refine rd_of_semR ?_
    cases hi : ev env i with
    | int k n =>
      rw [hi] at h
      simp only at h
      split at h
      · rename_i len elem ht
        split at h
        case h_2 => exact h.elim
        rename_i d hd
        obtain ⟨a, hx, h0, h1, h⟩ := ptrV_out h
        simp only [execOp, Instr.indexAt, hx, hi, asIntOf, Instr.sureAddr, semR_bind, semR_underlying ht, semR_pure, h0, h1, and_self, if_true, semR_size hd]
        exact h
      · rename_i elem ht
        split at h
        case h_2 => exact h.elim
        rename_i d hd
        cases hx : ev env x with
        | slice base len cap =>
          rw [hx] at h
          obtain ⟨h0, h1, h⟩ := h
          obtain ⟨a, rfl, h⟩ := ptrC_out h
          simp only [execOp, Instr.indexAt, hx, hi, asIntOf, semR_bind, semR_underlying ht, semR_pure, h0, h1, and_self, if_true, semR_size hd]
          exact h
        | _ => rw [hx] at h; exact h.elim
      · exact h.elim
    | _ => rw [hi] at h; exact h.elim
  · rename_i t x i
    split at h
    · rename_i k n s hi hx
      refine rd_of_semR ?_
      split at h
      · rename_i ht
        obtain ⟨h0, h1, h⟩ := h
        have hlt : n.toNat < s.size := by omega
        have hb : byteAt s n.toNat = (s[n.toNat]'hlt).toNat := by
          unfold byteAt
          rw [getElem?_pos s n.toNat hlt]
        rw [hb] at h
        simp only [execOp, Instr.index, hx, hi, asIntOf, semR_bind, semR_pure, semR_underlying ht, h0, if_true, getElem?_pos s n.toNat hlt]
        exact h
      · exact h.elim
    · rename_i k n cs hi hx
      have he : execOp (ev env) ⟨dst, .index t x i, ty, pos, after, guard⟩ = (Instr.index t (.agg cs) (.int k n)) >>= fun v => pure (.value v) := by
        rw [← hi, ← hx]; rfl
      obtain ⟨v, hk, hr⟩ := runR_rd he h
      exact ⟨v, tyOf_out hk, hr⟩
    · exact rd_of_semR h
  · rename_i op t x y ty'
    have hx : execOp (ev env) ⟨dst, .binOp op t x y ty', ty, pos, after, guard⟩ = (do eqGuard op t x y (ev env x) (ev env y); binOp op t (ev env x) (ev env y)) >>= fun v => pure (.value v) := rfl
    split at h
    · rename_i hb
      rw [hb] at hx
      obtain ⟨v, hk, hr⟩ := runR_rd (e := eqSem op t x y (ev env x) .nilIface) hx h
      exact ⟨v, tyOf_out hk, hr⟩
    split at h
    · rename_i a b ha hb
      rw [ha, hb] at hx
      obtain ⟨v, hk, hr⟩ := runR_rd (e := eqSem op t x y (.agg a) (.agg b)) hx h
      exact ⟨v, tyOf_out hk, hr⟩
    · rename_i a b ha hb
      split at h
      · refine rd_of_semR ?_
        rw [hx] at h ⊢
        rw [semR_bind] at h ⊢
        rw [ha, hb] at h ⊢
        simp only [semR_pure] at h ⊢
        exact binR_out h fun x => x
      · rw [ha, hb] at hx
        obtain ⟨v, hk, hr⟩ := runR_rd (e := eqSem op t x _ (.pointer a) (.pointer b)) hx h
        exact ⟨v, tyOf_out hk, hr⟩
    · refine rd_of_semR ?_
      rw [hx] at h ⊢
      rw [semR_bind] at h ⊢
      simp only [semR_pure] at h ⊢
      exact binR_out h fun x => x
  · rename_i t x i ok
    obtain ⟨v, hk, hr⟩ := runR_rd (x := execOp (ev env) ⟨dst, .lookup t x i ok, ty, pos, after, guard⟩) rfl h
    exact ⟨v, tyOf_out hk, hr⟩
  · rename_i t x lo hi
    refine rd_of_semR ?_
    split at h
    · exact h.elim
    rename_i l hh he
    have hx : execOp (ev env) ⟨dst, .slice t x lo hi none, ty, pos, after, guard⟩ = (Instr.sliceAt t (ev env x) (lo.map (ev env)) (hi.map (ev env)) none) >>= fun v => pure (.value v) := rfl
    rw [hx, semR_bind]
    simp only [semR_pure]
    split at h
    · rename_i ht
      split at h
      · rename_i s hs
        obtain ⟨h0, h1, h2, h⟩ := h
        simp only [Instr.sliceAt, semR_bind, semR_underlying ht, Instr.slice, hs]
        simp only [Option.isSome_none, Bool.false_eq_true, if_false, semR_bind, semR_pure]
        refine sliceBounds_vc he false s.size s.size h0 h1 ?_ _ _ ?_
        · cases hh <;> exact h2
        · simp only [semR_pure]; exact h
      · exact h.elim
    · rename_i elem ht
      split at h
      case h_2 => exact h.elim
      rename_i d hd
      split at h
      · rename_i a n c hs
        obtain ⟨h0, h1, h2, h⟩ := h
        simp only [Instr.sliceAt, semR_bind, semR_underlying ht, Instr.slice, hs]
        refine sliceBounds_vc he true n c h0 h1 h2 _ _ ?_
        simp only [semR_bind, semR_size hd, semR_pure]
        exact h
      · exact h.elim
    · rename_i n elem ht
      split at h
      case h_2 => exact h.elim
      rename_i d hd
      obtain ⟨a, ha, h0, h1, h2, h⟩ := ptrV_out h
      simp only [Instr.sliceAt, semR_bind, semR_underlying ht, ha, Instr.sureAddr, semR_pure]
      refine sliceBounds_vc he false n n h0 h1 ?_ _ _ ?_
      · cases hh <;> exact h2
      · simp only [semR_bind, semR_size hd, semR_pure]
        have : subP (some a) n (l.getD 0).toNat (sizeT P elem) = some (if n = (l.getD 0).toNat then a else a.add ((l.getD 0).toNat * sizeT P elem)) := by
          unfold subP; split <;> rfl
        rw [this] at h
        exact h
    · exact h.elim
  · rename_i c
    split at h
    · rename_i hc
      split at h
      · rename_i x hargs
        split at h
        · rename_i r hr
          have hx : execOp (ev env) ⟨dst, .call c, ty, pos, after, guard⟩ = (Builtin.len_ c.argTypes ty (c.args.map (ev env))) >>= fun v => pure (.value v) := by
            simp only [execOp, resolve, hc]; rfl
          obtain ⟨v, hk, hr⟩ := runR_rd hx h
          exact ⟨v, tyOf_out hk, hr⟩
        · exact rd_of_semR h
      · exact h.elim
    · exact rd_of_semR h
  · exact rd_of_semR h

/-! ### The model's own reckoning, run -/
def semVC (P : Program) {α : Type} : Sem α → (α → World → Prop) → World → Prop
  | .pure a, Q, w => Q a w
  | .load _ a k, Q, w => ∃ v, w.cell? a = some v ∧ semVC P (k v) Q w
  | .store _ a v k, Q, w => v.oneCell = true ∧ stC w a v fun w' => semVC P k Q w'
  | .new o k, Q, w => newC w o fun b w' => semVC P (k b) Q w'
  | .shape r k, Q, w => semVC P (k (w.shape? r)) Q w
  | .frozen a k, Q, w => semVC P (k (w.frozen? a)) Q w
  | .program k, Q, w => semVC P (k P) Q w
  | .mark _ k, Q, w => semVC P k Q w
  | _, _, _ => False

theorem semVC_sound (P : Program) {α : Type} (e : Sem α) (Q : α → World → Prop) (E : Halt → World → Prop) (w : World) (h : semVC P e Q w) : e.wp P Q E w := by
  induction e generalizing w with
  | pure a => exact h
  | load m a k ih =>
    obtain ⟨v, hc, h⟩ := h
    simp only [Sem.wp, hc]
    exact ih _ _ h
  | store m a v k ih =>
    obtain ⟨ho, ⟨u, hc⟩, hf, h⟩ := h
    simp only [Sem.wp, ho, hc, hf]
    exact ih _ h
  | new o k ih => exact ih _ _ h
  | shape r k ih => exact ih _ _ h
  | frozen a k ih => exact ih _ _ h
  | program k ih => exact ih _ _ h
  | mark m k ih => exact ih _ h
  | _ => exact h.elim

/-- What an operation's run comes to, handed on. -/
def nextVC (P : Program) (K : Value → World → Prop) : Next → World → Prop
  | .value v, w => K v w
  | .skip, w => K undef w
  | .enter f args, w => callC P f args w K
  | _, _ => False

/-- the same, where a call may panic. -/
def nextVX (P : Program) (px : Px) (K R : Value → World → Prop) : Next → World → Prop
  | .value v, w => K v w
  | .skip, w => K undef w
  | .enter f args, w => match memN px.fns f with | true => callX P f args w K R | false => callC P f args w K
  | _, _ => False
def nextVV (P : Program) (K R : Value → World → Prop) : Next → World → Prop
  | .value v, w => K v w
  | .skip, w => K undef w
  | .enter f args, w => callX P f args w K R
  | _, _ => False

/-- 'o' run at an environment comes to K, or panics with R. -/
def OpOk (P : Program) (o : Oper) (env : Env) (w : World) (K R : Value → World → Prop) : Prop :=
  ∀ (a : Act) (next : Act → World → Prop) (Q : Exit → Act → World → Prop), a.eval = ev env → (∀ v w', K v w' → next (a.put o.dst v) w') → (∀ v w', R v w' → Q (.panic [{ v, recovered := false }]) a w') → o.wp P a w next Q

theorem opOk_of_wp {P : Program} {o : Oper} {env : Env} {w : World} {K R : Value → World → Prop} (h : (execOp (ev env) o).wp P (nextVV P K R) (fun _ _ => False) w) : OpOk P o env w K R := by
  intro a next Q he hn hp
  rw [Sem.wp_iff_run] at h
  unfold Oper.wp
  rw [he]
  cases hr : (execOp (ev env) o).run P w with
  | halt x w' => rw [hr] at h; exact h.elim
  | ok x w' =>
    rw [hr] at h
    cases x with
    | value v => exact hn _ _ h
    | skip => exact hn _ _ h
    | enter f args =>
      refine Calls.mono h ?_
      intro e w'' hk
      cases e with
      | returned v => exact hn _ _ hk
      | panicked c => obtain ⟨v, rfl, hk⟩ := panK_out hk; exact hp _ _ hk
      | outgrown => exact hk.elim
    | _ => exact h.elim

/-- the same, of an equation on the run. -/
theorem opOk_of_run {P : Program} {o : Oper} {env : Env} {w w' : World} {v : Value} {K : Value → World → Prop} {R : Value → World → Prop} (h : (execOp (ev env) o).run P w = .ok (.value v) w') (hk : K v w') : OpOk P o env w K R :=
  opOk_of_wp (by rw [Sem.wp_iff_run, h]; exact hk)

/-! ### The laws of 'semVC' -/
theorem semVC_bind (P : Program) {α β : Type} (x : Sem α) (f : α → Sem β) (Q : β → World → Prop) (w : World) :
    semVC P (x >>= f) Q w = semVC P x (fun a w' => semVC P (f a) Q w') w := by
  show semVC P (Sem.bind x f) Q w = _
  induction x generalizing w with
  | pure a => rfl
  | load m a k ih => simp only [Sem.bind, semVC, ih]
  | store m a v k ih => simp only [Sem.bind, semVC, stC, ih]
  | new o k ih => simp only [Sem.bind, semVC, newC, ih]
  | shape r k ih => simp only [Sem.bind, semVC, ih]
  | frozen a k ih => simp only [Sem.bind, semVC, ih]
  | program k ih => simp only [Sem.bind, semVC, ih]
  | mark m k ih => simp only [Sem.bind, semVC, ih]
  | _ => rfl
theorem semVC_pure (P : Program) {α : Type} (a : α) (Q : α → World → Prop) (w : World) : semVC P (pure a) Q w = Q a w := rfl
theorem semVC_program (P : Program) (Q : Program → World → Prop) (w : World) : semVC P program Q w = Q P w := rfl
theorem semVC_load (P : Program) (a : Addr) (m : Mode) (Q : Value → World → Prop) (w : World) : semVC P (Go.load a m) Q w = ∃ v, w.cell? a = some v ∧ Q v w := rfl
theorem semVC_store (P : Program) (a : Addr) (v : Value) (m : Mode) (Q : Unit → World → Prop) (w : World) : semVC P (Go.store a v m) Q w = (v.oneCell = true ∧ stC w a v fun w' => Q () w') := rfl
theorem semVC_newObj (P : Program) (o : Obj) (Q : Nat → World → Prop) (w : World) : semVC P (newObj o) Q w = newC w o Q := rfl
theorem semVC_info {P : Program} {t : TypeId} {i : TypeInfo} (h : P.info? t = some i) (Q : TypeInfo → World → Prop) (w : World) : semVC P (typeInfo t) Q w = Q i w := by
  simp only [typeInfo, semVC_bind, semVC_program, h, semVC_pure]
theorem semVC_underlying {P : Program} {t : TypeId} {d : TypeDesc} (h : P.underlying t = some d) (Q : TypeDesc → World → Prop) (w : World) : semVC P (underlying t) Q w = Q d w := by
  simp only [underlying, semVC_bind, semVC_program, h, semVC_pure]
theorem semVC_sizeOf {P : Program} {t : TypeId} {i : TypeInfo} (h : P.info? t = some i) (Q : Nat → World → Prop) (w : World) : semVC P (sizeOf t) Q w = Q i.size w := by
  simp only [sizeOf, semVC_bind, semVC_info h, semVC_pure]
theorem semVC_size' {P : Program} {t : TypeId} {d : TypeDesc} (h : P.underlying t = some d) (Q : Nat → World → Prop) (w : World) : semVC P (sizeOf t) Q w = Q (sizeT P t) w := by
  obtain ⟨i, hi⟩ := info_of_underlying h
  simp only [semVC_sizeOf hi, sizeT, hi]

def stCells : List Value → World → Addr → Nat → (World → Prop) → Prop
  | [], w, _, _, K => K w
  | v :: vs, w, a, i, K => stC w (a.add i) v fun w' => stCells vs w' a (i + 1) K

/-- the cells of a value, if each is one. -/
def oneC (v : Value) (K : Prop) : Prop := match v with | .agg _ | .tuple _ => False | _ => K
theorem oneC_out {v : Value} {K : Prop} (h : oneC v K) : v.oneCell = true ∧ v.cells = #[v] ∧ K := by
  cases v <;> first | exact ⟨rfl, rfl, h⟩ | exact h.elim
def onesC : List Value → Prop → Prop
  | [], K => K
  | v :: vs, K => oneC v (onesC vs K)
theorem onesC_out {vs : List Value} {K : Prop} (h : onesC vs K) : (∀ v ∈ vs, v.oneCell = true) ∧ K := by
  induction vs with
  | nil => exact ⟨by simp, h⟩
  | cons v vs ih =>
    obtain ⟨h1, _, h⟩ := oneC_out h
    obtain ⟨h2, h⟩ := ih h
    exact ⟨fun x hx => (List.mem_cons.1 hx).elim (fun e => e ▸ h1) (h2 x), h⟩
theorem storeCells_vc (P : Program) (a : Addr) (Q : Unit → World → Prop) : ∀ (vs : List Value) (i : Nat) (w : World), (∀ v ∈ vs, v.oneCell = true) →
    stCells vs w a i (fun w' => Q () w') → semVC P (storeCells a vs i) Q w
  | [], i, w, _, h => h
  | v :: vs, i, w, ho, h => by
    simp only [storeCells, semVC_bind, semVC_store]
    exact ⟨ho v (by simp), h.1, h.2.1, storeCells_vc P a Q vs (i + 1) _ (fun x hx => ho x (by simp [hx])) h.2.2⟩

/-- a store. -/
def stVC (P : Program) (t : TypeId) (w : World) (a : Addr) (v : Value) (K : World → Prop) : Prop :=
  match P.underlying t with
  | none => False
  | some _ =>
    match isAggT P t with
    | false => match Nat.beq 1 (sizeT P t) with | true => oneC v (stC w a v K) | false => False
    | true => match v with
      | .agg cs => match Nat.beq cs.size (sizeT P t) with | true => onesC cs.toList (stCells cs.toList w a 0 K) | false => False
      | _ => False
theorem addr_add_zero (a : Addr) : a.add 0 = a := by simp [Addr.add]
theorem stVC_sound {P : Program} {t : TypeId} {w : World} {a : Addr} {v : Value} {K : Unit → World → Prop} (h : stVC P t w a v fun w' => K () w') : semVC P (storeVar t a v) K w := by
  unfold stVC at h
  split at h
  · exact h.elim
  · rename_i d hd
    simp only [storeVar, semVC_bind, semVC_size' hd]
    split at h
    · split at h
      · rename_i _ hb
        obtain ⟨h1, h2, h⟩ := oneC_out h
        rw [h2]
        have : sizeT P t = 1 := (Nat.eq_of_beq_eq_true hb).symm
        rw [this]
        simp only [List.size_toArray, List.length_cons, List.length_nil, Nat.zero_add, ne_eq, not_true_eq_false, if_false, semVC_bind, semVC_pure]
        refine storeCells_vc P a K [v] 0 w (by simpa using h1) ?_
        simpa only [stCells, addr_add_zero] using h
      · exact h.elim
    · split at h
      · rename_i cs
        split at h
        · rename_i hb
          obtain ⟨h1, h⟩ := onesC_out h
          have hs : cs.size = sizeT P t := Nat.eq_of_beq_eq_true hb
          simp only [Value.cells, hs, ne_eq, not_true_eq_false, if_false, semVC_bind, semVC_pure]
          exact storeCells_vc P a K cs.toList 0 w h1 h
        · exact h.elim
      · exact h.elim

/-- does it leave the world alone? -/
def isRd : Op → Bool
  | .move _ | .assign _ | .pick .. | .load .. | .nilCheck _ | .fieldAddr .. | .field .. | .indexAddr .. | .index .. | .binOp .. | .unOp .. | .extract .. | .build .. | .makeFunc .. | .makeInterface .. | .lookup .. | .slice .. => true
  | .call c => (match c.callee with | .builtin .len | .builtin .cap | .builtin .min | .builtin .max => true | _ => false)
  | _ => false

/-- a function value is called. -/
def invC (P : Program) (f : Value) (args : Array Value) (w : World) (K : Value → World → Prop) : Prop :=
  semVC P (do let d ← Deferred.ofValue f args; invoke d.target d.args) (nextVC P K) w

/-- a method of an interface value is called. -/
def methC (P : Program) (recv : Value) (name : String) (args : Array Value) (w : World) (K : Value → World → Prop) : Prop :=
  semVC P (callMethod recv name args) (nextVC P K) w

/-- a function value, a method, that may panic. -/
def invX (P : Program) (f : Value) (args : Array Value) (w : World) (K R : Value → World → Prop) : Prop :=
  semVC P (do let d ← Deferred.ofValue f args; invoke d.target d.args) (nextVV P K R) w

/-- a function value that is known is entered as that function. -/
def invK (P : Program) (px : Px) (f : Value) (args : Array Value) (w : World) (K R : Value → World → Prop) : Prop :=
  semVC P (do let d ← Deferred.ofValue f args; invoke d.target d.args) (nextVX P px K R) w
def invB (P : Program) (px : Px) (f : Value) (args : Array Value) (w : World) (K R : Value → World → Prop) : Prop :=
  match f with
  | .func (.func g) a b => invK P px (.func (.func g) a b) args w K R
  | f => match px.val with
    | true => invX P f args w K R
    | false => invC P f args w K

/-- The operations that have a law of their own; all others: the model's own reckoning. -/
def vcOp (P : Program) (px : Px) (o : Oper) (env : Env) (w : World) (K R : Value → World → Prop) : Prop :=
  match isRd o.op with
  | true => rdOp P o env (some w) fun v => K v w
  | false => match o.op with
    | .store t x v => ptrV (ev env x) fun a => stVC P t w a (ev env v) fun w' => K undef w'
    | .call c => match c.callee with
      | .builtin .append => runC P (Builtin.append_ c.argTypes o.type (c.args.map (ev env))) w fun v w' => tyOf P o.type v fun v => K v w'
      | .builtin .copy => runC P (Builtin.copy_ c.argTypes o.type (c.args.map (ev env))) w fun v w' => tyOf P o.type v fun v => K v w'
      | .builtin .clear => runC P (Builtin.clear_ c.argTypes o.type (c.args.map (ev env))) w fun v w' => K v w'
      | .builtin .delete => runC P (Builtin.delete_ c.argTypes o.type (c.args.map (ev env))) w fun v w' => K v w'
      | .builtin _ => semVC P (execOp (ev env) o) (nextVC P K) w
      | .value f => match px.fns with
        | [] => invC P (ev env f) (c.args.map (ev env)) w fun v w' => tyOf P o.type v fun v => K v w'
        | _ => invB P px (ev env f) (c.args.map (ev env)) w (fun v w' => tyOf P o.type v fun v => K v w') R
      | .invoke r name => methC P (ev env r) name (c.args.map (ev env)) w fun v w' => tyOf P o.type v fun v => K v w'
    | .typeAssert x t a ok => runC P (Instr.typeAssert (ev env x) t a ok) w fun v w' => tyOf P o.type v fun v => K v w'
    | .mapUpdate t m k x | .insert t m k x => runC P (Instr.mapUpdate t (ev env m) (ev env k) (ev env x)) w fun _ w' => K undef w'
    | .makeSlice t l c => runC P (Instr.makeSlice t (ev env l) (ev env c)) w fun v w' => tyOf P o.type v fun v => K v w'
    | .range t x => runC P (Instr.range t (ev env x)) w fun v w' => K v w'
    | .next it isS => runC P (Instr.next (ev env it) isS o.type) w fun v w' => tyOf P o.type v fun v => K v w'
    | .entry it => runC P (Instr.entry (ev env it)) w fun v w' => tyOf P o.type v fun v => K v w'
    | .convert src dst x => match P.underlying src, P.underlying dst with
      | some (.int _), some (.int _) => semVC P (execOp (ev env) o) (nextVC P K) w
      | _, _ => runC P (convert src dst (ev env x)) w fun v w' => tyOf P o.type v fun v => K v w'
    | .panic x => match ev env x with | .iface t v => R (.iface t v) w | _ => False
    | _ => semVC P (execOp (ev env) o) (nextVX P px K R) w

/-- an operation that is one reckoning, its value handed on. -/
theorem opOk_of_runC {P : Program} {o : Oper} {env : Env} {w : World} {K R : Value → World → Prop} {e : Sem Value} (hx : execOp (ev env) o = e >>= fun v => pure (.value v)) (h : runC P e w K) : OpOk P o env w K R := by
  obtain ⟨v, w', hr, hk⟩ := h
  exact opOk_of_run (by rw [hx, Sem.run_bind, hr]; rfl) hk
theorem runC_mono {P : Program} {α : Type} {e : Sem α} {w : World} {K K' : α → World → Prop} (h : runC P e w K) (hk : ∀ v w', K v w' → K' v w') : runC P e w K' :=
  let ⟨v, w', hr, hx⟩ := h; ⟨v, w', hr, hk _ _ hx⟩

theorem opOk_of_vv {P : Program} {o : Oper} {env : Env} {w : World} {K R : Value → World → Prop} (h : semVC P (execOp (ev env) o) (nextVV P K R) w) : OpOk P o env w K R :=
  opOk_of_wp (semVC_sound _ _ _ _ _ h)

theorem callC_mono {P : Program} {f : FuncId} {args : Array Value} {w : World} {K K' : Value → World → Prop} (h : callC P f args w K) (hk : ∀ v w', K v w' → K' v w') : callC P f args w K' :=
  Calls.mono h fun e w' x => by
    cases e with
    | returned v => exact hk _ _ x
    | _ => exact x.elim
theorem nextVC_mono {P : Program} {K K' : Value → World → Prop} (hk : ∀ v w', K v w' → K' v w') : ∀ (x : Next) (w : World), nextVC P K x w → nextVC P K' x w := by
  intro x w h
  cases x with
  | value v => exact hk _ _ h
  | skip => exact hk _ _ h
  | enter f args => exact callC_mono h hk
  | _ => exact h.elim
theorem semVC_mono {P : Program} {α : Type} {Q Q' : α → World → Prop} (hq : ∀ a w, Q a w → Q' a w) (x : Sem α) (w : World) (h : semVC P x Q w) : semVC P x Q' w := by
  induction x generalizing w with
  | pure a => exact hq _ _ h
  | load m a k ih => obtain ⟨v, hc, h⟩ := h; exact ⟨v, hc, ih _ _ h⟩
  | store m a v k ih => exact ⟨h.1, h.2.1, h.2.2.1, ih _ h.2.2.2⟩
  | new o k ih => exact ih _ _ h
  | shape r k ih => exact ih _ _ h
  | frozen a k ih => exact ih _ _ h
  | program k ih => exact ih _ _ h
  | mark m k ih => exact ih _ h
  | _ => exact h.elim

theorem nextVV_of {P : Program} {K R : Value → World → Prop} : ∀ (x : Next) (w : World), nextVC P K x w → nextVV P K R x w := by
  intro x w h
  cases x with
  | enter f args =>
    refine Calls.mono h ?_
    intro e w' x
    cases e
    · exact x
    · exact x.elim
    · exact x.elim
  | _ => exact h
theorem nextVV_ofX {P : Program} {px : Px} {K R : Value → World → Prop} : ∀ (x : Next) (w : World), nextVX P px K R x w → nextVV P K R x w := by
  intro x w h
  cases x with
  | enter f args =>
    unfold nextVX at h
    simp only at h
    split at h
    · exact h
    · exact nextVV_of (.enter f args) w h
  | _ => exact h
theorem nextVV_mono {P : Program} {K K' R : Value → World → Prop} (hk : ∀ v w', K v w' → K' v w') : ∀ (x : Next) (w : World), nextVV P K R x w → nextVV P K' R x w := by
  intro x w h
  cases x with
  | value v => exact hk _ _ h
  | skip => exact hk _ _ h
  | enter f args =>
    refine Calls.mono h ?_
    intro e w' x
    cases e
    · exact hk _ _ x
    · exact x
    · exact x
  | _ => exact h.elim
theorem opOk_of_vc {P : Program} {o : Oper} {env : Env} {w : World} {K R : Value → World → Prop} (h : semVC P (execOp (ev env) o) (nextVC P K) w) : OpOk P o env w K R :=
  opOk_of_vv (semVC_mono nextVV_of _ _ h)

theorem vcOp_sound {P : Program} {px : Px} {o : Oper} {env : Env} {w : World} {K R : Value → World → Prop} (h : vcOp P px o env w K R) : OpOk P o env w K R := by
  unfold vcOp at h
  split at h
  · obtain ⟨v, hk, hr⟩ := rdOp_out h
    exact opOk_of_run (hr w rfl) hk
  obtain ⟨dst, op, ty, pos, after, guard⟩ := o
  simp only at h
  split at h
  · rename_i t x v
    apply opOk_of_vc
    obtain ⟨a, hx, h⟩ := ptrV_out h
    simp only [execOp, Instr.storeAt, hx, Instr.sureAddr, semVC_bind, semVC_pure]
    exact stVC_sound (K := fun _ w => nextVC P K .skip w) h
  · rename_i c _
    split at h
    · rename_i hc
      exact opOk_of_runC (by simp only [execOp, resolve, hc]; rfl) (runC_mono h fun v w' x => tyOf_out x)
    · rename_i hc
      exact opOk_of_runC (by simp only [execOp, resolve, hc]; rfl) (runC_mono h fun v w' x => tyOf_out x)
    · rename_i hc
      exact opOk_of_runC (by simp only [execOp, resolve, hc]; rfl) h
    · rename_i hc
      exact opOk_of_runC (by simp only [execOp, resolve, hc]; rfl) h
    · exact opOk_of_vc h
    · rename_i f hc
      have hx : execOp (ev env) ⟨dst, .call c, ty, pos, after, guard⟩ = (do let d ← Deferred.ofValue (ev env f) (c.args.map (ev env)); invoke d.target d.args) := by
        simp only [execOp, resolve, hc]
      split at h
      · apply opOk_of_vc
        rw [hx]
        exact semVC_mono (nextVC_mono fun v w' x => tyOf_out x) _ _ h
      · apply opOk_of_vv
        rw [hx]
        refine semVC_mono (nextVV_mono (K := fun v w' => tyOf P ty v fun v => K v w') fun v w' x => tyOf_out x) _ _ ?_
        unfold invB at h
        split at h
        · rename_i hv
          rw [hv]
          exact semVC_mono nextVV_ofX _ _ h
        · split at h
          · exact h
          · exact semVC_mono nextVV_of _ _ h
    · rename_i r name hc
      apply opOk_of_vc
      have hx : execOp (ev env) ⟨dst, .call c, ty, pos, after, guard⟩ = callMethod (ev env r) name (c.args.map (ev env)) := by
        have e1 : (#[ev env r] ++ c.args.map (ev env))[0]? = some (ev env r) := by
          rw [Array.getElem?_append_left (by simp)]; rfl
        have e2 : (#[ev env r] ++ c.args.map (ev env)).extract 1 (#[ev env r] ++ c.args.map (ev env)).size = c.args.map (ev env) := by
          apply Array.ext'
          simp only [Array.toList_extract, Array.toList_append, List.extract_eq_take_drop]
          rw [List.take_of_length_le (by simp)]
          rfl
        simp only [execOp, resolve, hc]
        show invoke (.fn (.method name) #[]) (#[ev env r] ++ c.args.map (ev env)) = _
        unfold invoke
        simp only [e1, e2]
      rw [hx]
      exact semVC_mono (nextVC_mono fun v w' x => tyOf_out x) _ _ h
  · exact opOk_of_runC rfl (runC_mono h fun v w' x => tyOf_out x)
  · rename_i t m k x _
    obtain ⟨v, w', hr, hk⟩ := h
    apply opOk_of_wp
    rw [Sem.wp_iff_run]
    have hx : execOp (ev env) ⟨dst, .mapUpdate t m k x, ty, pos, after, guard⟩ = (Instr.mapUpdate t (ev env m) (ev env k) (ev env x)) >>= fun _ => pure .skip := rfl
    rw [hx, Sem.run_bind, hr]
    exact hk
  · rename_i t m k x _
    obtain ⟨v, w', hr, hk⟩ := h
    apply opOk_of_wp
    rw [Sem.wp_iff_run]
    have hx : execOp (ev env) ⟨dst, .insert t m k x, ty, pos, after, guard⟩ = (Instr.mapUpdate t (ev env m) (ev env k) (ev env x)) >>= fun _ => pure .skip := rfl
    rw [hx, Sem.run_bind, hr]
    exact hk
  · exact opOk_of_runC rfl (runC_mono h fun v w' x => tyOf_out x)
  · exact opOk_of_runC rfl h
  · exact opOk_of_runC rfl (runC_mono h fun v w' x => tyOf_out x)
  · exact opOk_of_runC rfl (runC_mono h fun v w' x => tyOf_out x)
  · split at h
    · exact opOk_of_vc h
    · exact opOk_of_runC rfl (runC_mono h fun v w' x => tyOf_out x)
  · rename_i x _
    cases hx : ev env x with
    | iface t v =>
      rw [hx] at h
      intro a next Q he hn hp
      have e1 : (execOp (ev env) ⟨dst, .panic x, ty, pos, after, guard⟩).run P w = .halt (.panic (.iface t v)) w := by
        have : execOp (ev env) ⟨dst, .panic x, ty, pos, after, guard⟩ = (Instr.panic (ev env x)) >>= fun v => pure (.value v) := rfl
        rw [this, hx, Sem.run_bind]
        rfl
      unfold Oper.wp
      rw [he, e1]
      exact hp _ _ h
    | _ => rw [hx] at h; exact h.elim
  · exact opOk_of_vv (semVC_mono nextVV_ofX _ _ h)

end Go.SX

/- The engine, second part: regions (also those that draw their order), code, loops, joins, functions. -/
namespace Go.SX

inductive Mode where
  | still (k : Nat) | any | held | next (k e : Nat) | yield

structure Ann where
  joins : List (Nat × List (Nat × Kind))
  loops : List (Nat × List (Nat × Kind))
  modes : List (Nat × Mode)

def nth {α : Type} : List α → Nat → Option α
  | [], _ => none
  | a :: l, i => match i with | 0 => some a | i + 1 => nth l i
theorem nth_eq {α : Type} (l : List α) (i : Nat) : nth l i = l[i]? := by
  induction l generalizing i with
  | nil => rfl
  | cons a l ih => cases i <;> simp [nth, ih]

def find {α : Type} : List (Nat × α) → Nat → Option α
  | [], _ => none
  | (j, a) :: r, i => match Nat.beq i j with | true => some a | false => find r i

/-! ### guards -/
def dstAt (ops : Array Oper) (j : Nat) : Option Tmp := match nth ops.toList j with | some o => o.dst | none => none

def gdOp (ops : Array Oper) (o : Oper) (env : Env) (yes no : Env → Prop) : Prop :=
  match o.guard with
  | none => yes env
  | some (j, want) => match dstAt ops j with
    | none => no env
    | some d => match look env d with
      | .bool b => match want with
        | true => brC b (yes ((d, .bool true) :: env)) (no ((d, .bool false) :: env))
        | false => brC b (no ((d, .bool true) :: env)) (yes ((d, .bool false) :: env))
      | _ => no env

theorem look_cons {env : Env} {d i : Nat} {v : Value} : look ((d, v) :: env) i = if i = d then v else look env i := by
  simp only [look]
  by_cases h : i = d
  · subst h; simp
  · have : Nat.beq i d = false := by
      cases hb : Nat.beq i d with
      | false => rfl
      | true => exact (h (Nat.eq_of_beq_eq_true hb)).elim
    simp [this, h]
theorem look_same {env : Env} {d : Nat} {v : Value} (h : look env d = v) (i : Nat) : look ((d, v) :: env) i = look env i := by
  rw [look_cons]; split
  · rename_i e; rw [e, h]
  · rfl
theorem Fits.of_look {n : Nat} {D : List Deferred} {env env' : Env} {a : Act} (h : Fits n D env a) (he : ∀ i, look env' i = look env i) : Fits n D env' a :=
  ⟨h.size, h.defers, fun i => (h.at_ i).trans (he i).symm⟩

theorem yielded_fits {n : Nat} {D : List Deferred} {env : Env} {a : Act} (h : Fits n D env a) (ops : Array Oper) (j : Nat) :
    yielded ops a.tmps j = match dstAt ops j with
      | none => none
      | some d => match look env d with | .bool b => some b | _ => none := by
  unfold yielded dstAt
  rw [nth_eq, Array.getElem?_toList]
  cases hj : ops[j]? with
  | none => rfl
  | some o =>
    simp only [Option.bind_some]
    cases hd : o.dst with
    | none => rfl
    | some d =>
      simp only [Option.bind_some]
      have := h.at_ d
      rw [Array.getD_eq_getD_getElem?] at this
      cases ht : a.tmps[d]? with
      | none => rw [ht] at this; simp only [Option.getD_none] at this; rw [← this]; rfl
      | some v => rw [ht] at this; simp only [Option.getD_some] at this; rw [← this]; cases v <;> rfl

theorem gdOp_out {n : Nat} {D : List Deferred} {env : Env} {a : Act} {ops : Array Oper} {o : Oper} {yes no : Env → Prop} (h : Fits n D env a) (g : gdOp ops o env yes no) :
    (Region.wanted o (yielded ops a.tmps) = true ∧ ∃ env', (∀ i, look env' i = look env i) ∧ yes env') ∨
    (Region.wanted o (yielded ops a.tmps) = false ∧ ∃ env', (∀ i, look env' i = look env i) ∧ no env') := by
  unfold gdOp at g
  unfold Region.wanted
  cases hg : o.guard with
  | none => rw [hg] at g; exact .inl ⟨rfl, env, fun _ => rfl, g⟩
  | some jw =>
    obtain ⟨j, want⟩ := jw
    rw [hg] at g
    simp only [yielded_fits h]
    simp only at g
    cases hd : dstAt ops j with
    | none => rw [hd] at g; exact .inr ⟨by cases want <;> rfl, env, fun _ => rfl, g⟩
    | some d =>
      rw [hd] at g
      simp only at g ⊢
      cases hv : look env d with
      | bool b =>
        rw [hv] at g
        cases want <;> cases b
        · exact .inl ⟨rfl, _, look_same hv, g⟩
        · exact .inr ⟨rfl, _, look_same hv, g⟩
        · exact .inr ⟨rfl, _, look_same hv, g⟩
        · exact .inl ⟨rfl, _, look_same hv, g⟩
      | _ => rw [hv] at g; exact .inr ⟨by cases want <;> rfl, env, fun _ => rfl, g⟩

/-! ### a list of operations, one behind the other -/
def vcOps (P : Program) (px : Px) (R : Value → World → Prop) (n : Nat) (ops : Array Oper) : List Oper → Env → World → (Env → World → Prop) → Prop
  | [], env, w, K => K env w
  | o :: r, env, w, K => gdOp ops o env (fun env => vcOp P px o env w (fun v w' => vcOps P px R n ops r (putE n env o.dst v) w' K) R)
      (fun env => vcOps P px R n ops r (putE n env o.dst undef) w K)

def vcStill (P : Program) (n : Nat) (ops : Array Oper) (w : World) : List Oper → Env → (Env → Prop) → Prop
  | [], env, K => K env
  | o :: r, env, K => gdOp ops o env (fun env => rdOp P o env (some w) fun v => vcStill P n ops w r (putE n env o.dst v) K)
      (fun env => vcStill P n ops w r (putE n env o.dst undef) K)

/-- outside W the two are one. -/
def Agree (W : List Nat) (env env' : Env) : Prop := ∀ i, i ∉ W → look env' i = look env i
theorem Agree.refl (W : List Nat) (env : Env) : Agree W env env := fun _ _ => rfl
theorem Agree.same {W : List Nat} {env env' env'' : Env} (h : Agree W env env') (he : ∀ i, look env'' i = look env' i) : Agree W env env'' := fun i hi => (he i).trans (h i hi)
theorem Agree.put {W : List Nat} {env env' : Env} (h : Agree W env env') (n : Nat) {d : Option Tmp} (hd : ∀ x, d = some x → x ∈ W) (v : Value) : Agree W env (putE n env' d v) := by
  intro i hi
  cases d with
  | none => exact h i hi
  | some x =>
    have hx := hd x rfl
    simp only [putE]
    split
    · rw [look_cons, if_neg (fun e : i = x => hi (by rw [e]; exact hx))]; exact h i hi
    · exact h i hi
theorem Agree.trans {W : List Nat} {a b c : Env} (h : Agree W a b) (k : Agree W b c) : Agree W a c := fun i hi => (k i hi).trans (h i hi)
theorem Agree.mono {W W' : List Nat} {a b : Env} (h : Agree W a b) (hs : ∀ i, i ∈ W → i ∈ W') : Agree W' a b := fun i hi => h i fun hw => hi (hs i hw)

/-- what a frame still has behind a panic: its size, its deferred calls, the slots that were not written. -/
structure Keeps (n : Nat) (D : List Deferred) (W : List Nat) (env : Env) (a : Act) : Prop where
  size : a.tmps.size = n
  defers : a.defers = D
  at_ : ∀ i, i ∉ W → a.tmps.getD i undef = look env i
theorem Keeps.of_fits {n : Nat} {D : List Deferred} {W : List Nat} {env env' : Env} {a : Act} (h : Fits n D env' a) (hag : Agree W env env') : Keeps n D W env a := ⟨h.size, h.defers, fun i hi => (h.at_ i).trans (hag i hi)⟩
theorem Keeps.mono {n : Nat} {D : List Deferred} {W W' : List Nat} {env : Env} {a : Act} (h : Keeps n D W env a) (hs : ∀ i, i ∈ W → i ∈ W') : Keeps n D W' env a := ⟨h.size, h.defers, fun i hi => h.at_ i fun hw => hi (hs i hw)⟩
theorem Keeps.agree {n : Nat} {D : List Deferred} {W : List Nat} {env env' : Env} {a : Act} (h : Keeps n D W env' a) (hag : Agree W env env') : Keeps n D W env a := ⟨h.size, h.defers, fun i hi => (h.at_ i hi).trans (hag i hi)⟩
theorem put_getD_ne (a : Act) {d : Option Tmp} {v : Value} {i : Nat} (hi : ∀ x, d = some x → x ≠ i) : (a.put d v).tmps.getD i undef = a.tmps.getD i undef := by
  cases d with
  | none => rfl
  | some x =>
    simp only [Act.put, Array.getD_eq_getD_getElem?]
    rw [Array.getElem?_setIfInBounds_ne (hi x rfl)]
theorem Keeps.unput {n : Nat} {D : List Deferred} {W : List Nat} {env : Env} {a : Act} {d : Option Tmp} {v : Value} (hd : ∀ x, d = some x → x ∈ W) (h : Keeps n D W env (a.put d v)) : Keeps n D W env a := by
  refine ⟨?_, ?_, fun i hi => ?_⟩
  · have := h.size
    cases d with
    | none => exact this
    | some x => simpa [Act.put] using this
  · have := h.defers
    cases d <;> exact this
  · rw [← h.at_ i hi, put_getD_ne a (i := i) fun x hx e => hi (e ▸ hd x hx)]

theorem vcOps_sound {P : Program} {px : Px} {R : Value → World → Prop} {n : Nat} {D : List Deferred} {ops : Array Oper} {W : List Nat} {env0 : Env} {K : Env → World → Prop} {Q : Exit → Act → World → Prop}
    (hQ : ∀ env a w, Fits n D env a → Agree W env0 env → K env w → Q .normal a w) (hR : ∀ v a w, Keeps n D W env0 a → R v w → Q (.panic [{ v, recovered := false }]) a w) :
    ∀ (r : List Oper) (env : Env) (a : Act) (w : World), (∀ o ∈ r, ∀ x, o.dst = some x → x ∈ W) → Fits n D env a → Agree W env0 env → vcOps P px R n ops r env w K → wpList P ops Q r a w
  | [], env, a, w, _, hf, hag, h => hQ env a w hf hag h
  | o :: r, env, a, w, hW, hf, hag, h => by
    have hr : ∀ o' ∈ r, ∀ x, o'.dst = some x → x ∈ W := fun o' ho => hW o' (by simp [ho])
    unfold wpList
    rcases gdOp_out hf h with ⟨hw, env', he, h⟩ | ⟨hw, env', he, h⟩
    · rw [if_pos hw]
      left
      have hf' := hf.of_look he
      refine vcOp_sound h a _ Q hf'.eval_fun (fun v w' hk => ?_) fun v w' hk => hR v a w' (Keeps.of_fits hf hag) hk
      exact vcOps_sound hQ hR r _ _ _ hr (hf'.put _ _) ((hag.same he).put n (hW o (by simp)) v) hk
    · rw [hw, if_neg (by simp)]
      have hf' := hf.of_look he
      exact vcOps_sound hQ hR r _ _ _ hr (hf'.put _ _) ((hag.same he).put n (hW o (by simp)) undef) h

theorem vcStill_sound {P : Program} {n : Nat} {D : List Deferred} {ops : Array Oper} {w : World} {W : List Nat} {env0 : Env} {K : Env → Prop} {Q : Act → Prop}
    (hQ : ∀ env a, Fits n D env a → Agree W env0 env → K env → Q a) :
    ∀ (r : List Oper) (env : Env) (a : Act), (∀ o ∈ r, ∀ x, o.dst = some x → x ∈ W) → Fits n D env a → Agree W env0 env → vcStill P n ops w r env K → wpStill P ops w Q r a
  | [], env, a, _, hf, hag, h => hQ env a hf hag h
  | o :: r, env, a, hW, hf, hag, h => by
    have hr : ∀ o' ∈ r, ∀ x, o'.dst = some x → x ∈ W := fun o' ho => hW o' (by simp [ho])
    unfold wpStill
    rcases gdOp_out hf h with ⟨hw, env', he, h⟩ | ⟨hw, env', he, h⟩
    · rw [if_pos hw]
      have hf' := hf.of_look he
      obtain ⟨v, hk, hrun⟩ := rdOp_out h
      unfold Oper.still
      rw [hf'.eval_fun, hrun w rfl, Oper.stillUpon_value]
      exact vcStill_sound hQ r _ _ hr (hf'.put _ _) ((hag.same he).put n (hW o (by simp)) v) hk
    · rw [hw, if_neg (by simp)]
      have hf' := hf.of_look he
      exact vcStill_sound hQ r _ _ hr (hf'.put _ _) ((hag.same he).put n (hW o (by simp)) undef) h

/-! ### every order -/
def allC (F : Nat → Prop) : List Nat → Prop
  | [] => True
  | i :: r => F i ∧ allC F r
theorem allC_out {F : Nat → Prop} {l : List Nat} (h : allC F l) (i : Nat) (hi : i ∈ l) : F i := by
  induction l with
  | nil => cases hi
  | cons j r ih =>
    rcases List.mem_cons.1 hi with rfl | hi
    · exact h.1
    · exact ih h.2 hi

def isLoad : Op → Bool | .load .. | .lookup .. => true | _ => false
/-- a look into a map. -/
def Lks (P : Program) (t : TypeId) (m k : Value) (c : Bool) (w : World) (v : Value) : Prop := (Instr.lookup t m k c).run P w = .ok v w
/-- is there a load that need not have come up ahead of number j? -/
def needS (ops : Array Oper) (j : Nat) : Bool :=
  match nth ops.toList j with
  | none => true
  | some oj => (List.range ops.size).any fun l => match nth ops.toList l with
    | none => false
    | some ol => isLoad ol.op && (!Nat.beq l j && !(oj.after.toList.any fun e => Region.binds .any e && Nat.beq e.on l))
theorem needS_of {ops : Array Oper} {i j : Nat} {oi oj : Oper} (hi : ops[i]? = some oi) (hj : ops[j]? = some oj) (hl : isLoad oi.op = true) (hne : j ≠ i) (hno : ∀ e ∈ oj.after, Region.binds .any e = true → e.on ≠ i) : needS ops j = true := by
  unfold needS
  have hj' : nth ops.toList j = some oj := by rw [nth_eq, Array.getElem?_toList]; exact hj
  have hi' : nth ops.toList i = some oi := by rw [nth_eq, Array.getElem?_toList]; exact hi
  rw [hj']
  simp only
  rw [List.any_eq_true]
  refine ⟨i, List.mem_range.2 (Array.getElem?_eq_some_iff.1 hi).1, ?_⟩
  rw [hi']
  have h1 : Nat.beq i j = false := by
    cases hb : Nat.beq i j with
    | false => rfl
    | true => exact (hne (Nat.eq_of_beq_eq_true hb).symm).elim
  have h2 : (oj.after.toList.any fun e => Region.binds .any e && Nat.beq e.on i) = false := by
    rw [List.any_eq_false]
    intro e he hb
    rw [Bool.and_eq_true] at hb
    exact hno e (Array.mem_toList_iff.1 he) hb.1 (Nat.eq_of_beq_eq_true hb.2)
  simp [hl, h1, h2]

/-- the first of those that are ready which may go first, whatever the others do. -/
def eagerAt (ops : Array Oper) (listed : Array Bool) : List Nat → Option Nat
  | [] => none
  | i :: r => match nth ops.toList i with
    | none => eagerAt ops listed r
    | some o => match isRd o.op && Region.free .any ops listed i with
      | true => some i
      | false => eagerAt ops listed r
theorem eagerAt_out {ops : Array Oper} {listed : Array Bool} {i : Nat} : ∀ {l : List Nat}, eagerAt ops listed l = some i → i ∈ l ∧ ∃ o, ops[i]? = some o ∧ isRd o.op = true ∧ Region.free .any ops listed i = true
  | [], h => by cases h
  | j :: r, h => by
    unfold eagerAt at h
    split at h
    · have := eagerAt_out h; exact ⟨by simp [this.1], this.2⟩
    · rename_i o ho
      rw [nth_eq, Array.getElem?_toList] at ho
      split at h
      · rename_i hb
        cases h
        simp only [Bool.and_eq_true] at hb
        exact ⟨by simp, o, ho, hb.1, hb.2⟩
      · have := eagerAt_out h; exact ⟨by simp [this.1], this.2⟩

/-- what a variable of type t at an address reads as. -/
def Lds (P : Program) (t : TypeId) (w : World) (a : Addr) (v : Value) : Prop := (loadVar t a).run P w = .ok v w

/-- an operation that reads, also where S holds. -/
def rdS (P : Program) (S : World → Prop) (o : Oper) (env : Env) (w : World) (K : Value → Prop) : Prop :=
  match o.op with
  | .load t x => ptrV (ev env x) fun a => ldVC P t w a fun v => (∀ w', S w' → Lds P t w' a v) ∧ K v
  | .lookup t x i c => runR P (Instr.lookup t (ev env x) (ev env i) c) (some w) fun v => tyOf P o.type v fun v => (∀ w', S w' → Lks P t (ev env x) (ev env i) c w' v) ∧ K v
  | _ => rdOp P o env none K

theorem rdS_out {P : Program} {S : World → Prop} {o : Oper} {env : Env} {w : World} {K : Value → Prop} (h : rdS P S o env w K) :
    ∃ v, K v ∧ ∀ w', (w' = w ∨ S w') → (execOp (ev env) o).run P w' = .ok (.value v) w' := by
  unfold rdS at h
  split at h
  · rename_i t x ho
    obtain ⟨a, hx, h⟩ := ptrV_out h
    obtain ⟨v, ⟨hs, hk⟩, hr⟩ := semR_out (ldVC_sound h)
    refine ⟨v, hk, fun w' hw => ?_⟩
    have hl : (loadVar t a).run P w' = .ok v w' := by
      rcases hw with rfl | hw
      · exact hr _ rfl
      · exact hs w' hw
    simp only [execOp, ho, Instr.loadAt, hx, Instr.sureAddr]
    show (Sem.bind _ _).run P w' = _
    simp only [Sem.bind, bind, pure]
    exact (Sem.run_bind _ _ _ _).trans (by rw [hl]; rfl)
  · rename_i t x i c ho
    obtain ⟨v, hk, hr⟩ := h
    obtain ⟨hs, hk⟩ := tyOf_out hk
    refine ⟨v, hk, fun w' hw => ?_⟩
    have hl : (Instr.lookup t (ev env x) (ev env i) c).run P w' = .ok v w' := by
      rcases hw with rfl | hw
      · exact hr _ rfl
      · exact hs w' hw
    simp only [execOp, ho]
    exact (Sem.run_bind _ _ _ _).trans (by rw [hl]; rfl)
  · obtain ⟨v, hk, hr⟩ := rdOp_out h
    exact ⟨v, hk, fun w _ => hr w trivial⟩

/-- every order, and what has been read stays so. -/
def wpAnyN (P : Program) (ops : Array Oper) (Q : Exit → Act → World → Prop) (S : World → Prop) : Nat → Array Bool → Act → World → Prop
  | 0, listed, a, w => Region.ready .any ops listed = [] ∧ Q .normal a w
  | f + 1, listed, a, w => (Region.ready .any ops listed = [] → Q .normal a w) ∧
    ∀ i ∈ Region.ready .any ops listed, wpOp P ops Q i (fun a' w' => (w' = w ∨ (needS ops i = true → S w')) ∧ wpAnyN P ops Q S f (listed.setIfInBounds i true) a' w') a w
theorem wpAny_of_N {P : Program} {ops : Array Oper} {Q : Exit → Act → World → Prop} {S : World → Prop} : ∀ (f : Nat) (listed : Array Bool) (a : Act) (w : World), wpAnyN P ops Q S f listed a w → wpAny P .any ops Q f listed a w
  | 0, _, _, _, h => h
  | f + 1, listed, a, w, h => ⟨h.1, fun i hi => wpOp_mono (fun a' w' x => wpAny_of_N f _ a' w' x.2) (h.2 i hi)⟩

theorem needEq {ops : Array Oper} {i j : Nat} {oj : Oper} {listed : Array Bool} (hj : ops[j]? = some oj) (hr : j ∈ Region.ready .any ops listed) (hi : i ∈ Region.ready .any ops listed) : ∀ e ∈ oj.after, Region.binds .any e = true → e.on ≠ i := by
  obtain ⟨_, oj', hoj, hall⟩ := mem_ready.1 hr
  have : oj' = oj := Option.some.inj (hoj.symm.trans hj)
  subst this
  intro e he hb heq
  have h1 := hall e he hb
  have h0 := (mem_ready.1 hi).1
  rw [heq] at h1
  rcases Nat.lt_or_ge i listed.size with h' | h'
  · simp [h'] at h0 h1; rw [h0] at h1; cases h1
  · simp [Array.getElem?_eq_none h'] at h1

/-- one that only reads goes first. T: where its value is what it is. -/
theorem wpAnyN_first {P : Program} {ops : Array Oper} {Q : Exit → Act → World → Prop} {S T : World → Prop} {i : Nat} {oi : Oper} {v : Value} (hi : ops[i]? = some oi) (hsel : Region.noSelect ops = true)
    (hp : ∀ c a w, Q (.panic c) (a.put oi.dst v) w → Q (.panic c) a w)
    (hT : ∀ (j : Nat) (oj : Oper) (w' : World), ops[j]? = some oj → j ≠ i → (∀ e ∈ oj.after, Region.binds .any e = true → e.on ≠ i) → (needS ops j = true → S w') → T w') :
    ∀ (f : Nat) (listed : Array Bool) (a : Act) (w : World), Region.free .any ops listed i = true → i ∈ Region.ready .any ops listed → YieldsIf P ops T oi v a → T w →
      wpAnyN P ops Q S f (listed.setIfInBounds i true) (a.put oi.dst v) w → wpAnyN P ops Q S (f + 1) listed a w := by
  have hs := Region.noSelect_spec hsel
  have key : ∀ (f : Nat) (listed : Array Bool) (a : Act) (w : World),
      (∀ (j : Nat) (oj : Oper), ops[j]? = some oj → j ≠ i → listed.getD j true = false → (∀ e ∈ oj.after, Region.binds .any e = true → e.on ≠ i) → oi.apart ops oj = true) →
      i ∈ Region.ready .any ops listed → YieldsIf P ops T oi v a → T w →
      wpAnyN P ops Q S f (listed.setIfInBounds i true) (a.put oi.dst v) w → wpAnyN P ops Q S (f + 1) listed a w := by
    intro f
    induction f with
    | zero =>
      intro listed a w _ hr hy hw H
      refine ⟨fun h => (by rw [h] at hr; cases hr), fun j hj => ?_⟩
      by_cases hji : j = i
      · subst hji; exact hy.wpOp hi hw ⟨.inl rfl, H⟩
      · have := ready_mono hj hji
        rw [H.1] at this
        cases this
    | succ f ih =>
      intro listed a w hfree hr hy hw H
      refine ⟨fun h => (by rw [h] at hr; cases hr), fun j hj => ?_⟩
      by_cases hji : j = i
      · subst hji; exact hy.wpOp hi hw ⟨.inl rfl, H⟩
      · have h1 := H.2 j (ready_mono hj hji)
        obtain ⟨hjun, oj, hoj, _⟩ := mem_ready.1 hj
        have hnot := needEq hoj hj hr
        have h2 := wpOp_putIf hoj (hfree j oj hoj hji hjun hnot) (fun cs b => hs i oi cs b hi) (fun cs b => hs j oj cs b hoj) hp hy h1
        have hfree' : ∀ (k : Nat) (ok : Oper), ops[k]? = some ok → k ≠ i → (listed.setIfInBounds j true).getD k true = false → (∀ e ∈ ok.after, Region.binds .any e = true → e.on ≠ i) → oi.apart ops ok = true := fun k ok hk hki hun hno => by
          refine hfree k ok hk hki ?_ hno
          by_cases hjk : j = k
          · subst hjk; exact hjun
          · rw [getD_set_ne true hjk] at hun; exact hun
        refine wpOp_mono (fun a' w' h3 => ⟨h3.2.1, ih (listed.setIfInBounds j true) a' w' hfree' (ready_mono hr (Ne.symm hji)) h3.1 ?_ ?_⟩) h2
        · exact h3.2.1.elim (fun e => e ▸ hw) (fun hn => hT j oj w' hoj hji hnot hn)
        · rw [Array.setIfInBounds_comm _ _ hji]
          exact h3.2.2
  exact fun f listed a w hfree => key f listed a w (Region.free_spec hi hfree)

def needC (b : Bool) (s K : Prop) : Prop := match b with | true => s ∧ K | false => K
theorem needC_out {b : Bool} {s K : Prop} (h : needC b s K) : (b = true → s) ∧ K := by
  cases b with
  | true => exact ⟨fun _ => h.1, h.2⟩
  | false => exact ⟨(fun e => by cases e), h⟩

def vcAny (P : Program) (px : Px) (R : Value → World → Prop) (n : Nat) (ops : Array Oper) (S : World → Prop) : Nat → Array Bool → Env → World → (Env → World → Prop) → Prop
  | 0, listed, env, w, K => match Region.ready .any ops listed with | [] => K env w | _ => False
  | f + 1, listed, env, w, K =>
    match Region.ready .any ops listed with
    | [] => K env w
    | rs => match eagerAt ops listed rs with
      | some i => match nth ops.toList i with
        | none => False
        | some o => gdOp ops o env (fun env => rdS P S o env w fun v => vcAny P px R n ops S f (listed.setIfInBounds i true) (putE n env o.dst v) w K)
            (fun env => vcAny P px R n ops S f (listed.setIfInBounds i true) (putE n env o.dst undef) w K)
      | none => allC (fun i => match nth ops.toList i with
        | none => False
        | some o => gdOp ops o env (fun env => vcOp P px o env w (fun v w' => needC (needS ops i) (S w') (vcAny P px R n ops S f (listed.setIfInBounds i true) (putE n env o.dst v) w' K)) R)
            (fun env => vcAny P px R n ops S f (listed.setIfInBounds i true) (putE n env o.dst undef) w K)) rs

theorem vcAny_sound {P : Program} {px : Px} {R : Value → World → Prop} {n : Nat} {D : List Deferred} {ops : Array Oper} {S : World → Prop} {W : List Nat} {env0 : Env} {K : Env → World → Prop} {Q : Exit → Act → World → Prop}
    (hsel : Region.noSelect ops = true) (hW : ∀ o ∈ ops.toList, ∀ x, o.dst = some x → x ∈ W)
    (hp : ∀ c a d v w, (∀ x, d = some x → x ∈ W) → Q (.panic c) (a.put d v) w → Q (.panic c) a w)
    (hR : ∀ v a w, Keeps n D W env0 a → R v w → Q (.panic [{ v, recovered := false }]) a w)
    (hQ : ∀ env a w, Fits n D env a → Agree W env0 env → K env w → Q .normal a w) :
    ∀ (f : Nat) (listed : Array Bool) (env : Env) (a : Act) (w : World), Fits n D env a → Agree W env0 env → vcAny P px R n ops S f listed env w K → wpAnyN P ops Q S f listed a w := by
  intro f
  induction f with
  | zero =>
    intro listed env a w hf hag h
    unfold vcAny at h
    split at h
    · rename_i hr; exact ⟨hr, hQ _ _ _ hf hag h⟩
    · exact h.elim
  | succ f ih =>
    intro listed env a w hf hag h
    unfold vcAny at h
    split at h
    · rename_i hr; exact ⟨fun _ => hQ _ _ _ hf hag h, by rw [hr]; simp⟩
    · rename_i hne
      split at h
      · rename_i i hi
        obtain ⟨hmem, o, ho, hrd, hfree⟩ := eagerAt_out hi
        have ho' : nth ops.toList i = some o := by rw [nth_eq, Array.getElem?_toList]; exact ho
        rw [ho'] at h
        have hmo : o ∈ ops.toList := by rw [Array.mem_toList_iff]; exact Array.mem_of_getElem? ho
        have hd : ∀ x, o.dst = some x → x ∈ W := hW o hmo
        rcases gdOp_out hf h with ⟨hw, env', he, h⟩ | ⟨hw, env', he, h⟩
        · have hf' := hf.of_look he
          obtain ⟨v, hk, hr⟩ := rdS_out h
          have hrest := ih _ _ _ _ (hf'.put o.dst v) ((hag.same he).put n hd v) hk
          by_cases hload : isLoad o.op = true
          · refine wpAnyN_first (T := fun w' => w' = w ∨ S w') ho hsel (fun c a w => hp c a _ _ w hd) (fun j oj w' hj hji hno hn => .inr (hn (needS_of ho hj hload hji hno))) f listed a w hfree hmem (.inl ⟨hw, fun w' hw' => by rw [hf'.eval_fun]; exact hr w' hw'⟩) (.inl rfl) hrest
          · -- it looks at no world
            have hnd : ∀ w', (execOp (ev env') o).run P w' = .ok (.value v) w' := by
              unfold rdS at h
              split at h
              · rename_i ho2; rw [ho2] at hload; exact (hload rfl).elim
              · rename_i ho2; rw [ho2] at hload; exact (hload rfl).elim
              · obtain ⟨v2, _, hr2⟩ := rdOp_out h
                have e1 := hr w (.inl rfl)
                have e2 := hr2 w trivial
                rw [e1] at e2
                cases e2
                exact fun w' => hr2 w' trivial
            exact wpAnyN_first (T := fun _ => True) ho hsel (fun c a w => hp c a _ _ w hd) (fun _ _ _ _ _ _ _ => trivial) f listed a w hfree hmem (.inl ⟨hw, fun w' _ => by rw [hf'.eval_fun]; exact hnd w'⟩) trivial hrest
        · have hf' := hf.of_look he
          exact wpAnyN_first (T := fun _ => True) ho hsel (fun c a w => hp c a _ _ w hd) (fun _ _ _ _ _ _ _ => trivial) f listed a w hfree hmem (.inr ⟨hw, rfl⟩) trivial (ih _ _ _ _ (hf'.put o.dst undef) ((hag.same he).put n hd undef) h)
      · refine ⟨fun e => (hne e).elim, fun i hi => ?_⟩
        have h := allC_out h i hi
        unfold wpOp
        rw [nth_eq, Array.getElem?_toList] at h
        cases ho : ops[i]? with
        | none => rw [ho] at h; exact h.elim
        | some o =>
          rw [ho] at h
          simp only at h ⊢
          have hd : ∀ x, o.dst = some x → x ∈ W := hW o (by rw [Array.mem_toList_iff]; exact Array.mem_of_getElem? ho)
          rcases gdOp_out hf h with ⟨hw, env', he, h⟩ | ⟨hw, env', he, h⟩
          · rw [if_pos hw]
            left
            have hf' := hf.of_look he
            refine vcOp_sound h a _ Q hf'.eval_fun (fun v w' hk => ?_) fun v w' hk => hR v a w' (Keeps.of_fits hf hag) hk
            obtain ⟨hn, hk⟩ := needC_out hk
            exact ⟨.inr hn, ih _ _ _ _ (hf'.put _ _) ((hag.same he).put n hd v) hk⟩
          · rw [hw, if_neg (by simp)]
            have hf' := hf.of_look he
            exact ⟨Or.inl trivial, ih _ _ _ _ (hf'.put _ _) ((hag.same he).put n hd undef) h⟩

end Go.SX

/- The engine, third part: code, loops, joins, functions. -/
namespace Go.SX

/-! ### typed tuples -/
def Tele : List Kind → Type
  | [] => World → Prop
  | .int _ :: r => Int → Tele r
  | .bool :: r => Bool → Tele r
  | .str :: r => ByteArray → Tele r
  | .ptr :: r => Option Addr → Tele r
  | .slice :: r => Option Addr → Nat → Nat → Tele r
  | .map :: r => Option Nat → Tele r
  | .any :: r => Value → Tele r

def Tele.app : (ks : List Kind) → Tele ks → List Value → World → Prop
  | [], J, vs, w => match vs with | [] => J w | _ => False
  | .int k :: r, J, vs, w => match vs with | .int k' n :: vs => (match beqK k' k with | true => Tele.app r (J n) vs w | false => False) | _ => False
  | .bool :: r, J, vs, w => match vs with | .bool b :: vs => Tele.app r (J b) vs w | _ => False
  | .str :: r, J, vs, w => match vs with | .string b :: vs => Tele.app r (J b) vs w | _ => False
  | .ptr :: r, J, vs, w => match vs with | .pointer b :: vs => Tele.app r (J b) vs w | _ => False
  | .slice :: r, J, vs, w => match vs with | .slice a l c :: vs => Tele.app r (J a l c) vs w | _ => False
  | .map :: r, J, vs, w => match vs with | .map a :: vs => Tele.app r (J a) vs w | _ => False
  | .any :: r, J, vs, w => match vs with | v :: vs => Tele.app r (J v) vs w | _ => False

def Tele.fa : (ks : List Kind) → Tele ks → (List Value → World → Prop) → Prop
  | [], J, F => ∀ w, J w → F [] w
  | .int k :: r, J, F => ∀ n : Int, Tele.fa r (J n) fun vs w => F (.int k n :: vs) w
  | .bool :: r, J, F => ∀ n : Bool, Tele.fa r (J n) fun vs w => F (.bool n :: vs) w
  | .str :: r, J, F => ∀ n : ByteArray, Tele.fa r (J n) fun vs w => F (.string n :: vs) w
  | .ptr :: r, J, F => ∀ n : Option Addr, Tele.fa r (J n) fun vs w => F (.pointer n :: vs) w
  | .slice :: r, J, F => ∀ (a : Option Addr) (l c : Nat), Tele.fa r (J a l c) fun vs w => F (.slice a l c :: vs) w
  | .map :: r, J, F => ∀ n : Option Nat, Tele.fa r (J n) fun vs w => F (.map n :: vs) w
  | .any :: r, J, F => ∀ n : Value, Tele.fa r (J n) fun vs w => F (n :: vs) w

theorem Tele.use : ∀ {ks : List Kind} {J : Tele ks} {F : List Value → World → Prop} {vs : List Value} {w : World}, Tele.fa ks J F → Tele.app ks J vs w → F vs w := by
  intro ks
  induction ks with
  | nil =>
    intro J F vs w hf ha
    cases vs with
    | nil => exact hf w ha
    | cons => exact False.elim ha
  | cons k r ih =>
    intro J F vs w hf ha
    cases vs with
    | nil => cases k <;> exact False.elim ha
    | cons v vs =>
      cases k with
      | any => exact ih (J := J v) (F := fun vs w => F (v :: vs) w) (hf v) ha
      | int k =>
        cases v with
        | int k' n =>
          simp only [Tele.app] at ha
          split at ha
          · rename_i hk; have := beqK_eq hk; subst this; exact ih (J := J n) (F := fun vs w => F (.int _ n :: vs) w) (hf n) ha
          · exact False.elim ha
        | _ => exact False.elim ha
      | slice => cases v with
        | slice a l c => exact ih (J := J a l c) (F := fun vs w => F (.slice a l c :: vs) w) (hf a l c) ha
        | _ => exact False.elim ha
      | bool => cases v with
        | bool b => exact ih (J := J b) (F := fun vs w => F (.bool b :: vs) w) (hf b) ha
        | _ => exact False.elim ha
      | str => cases v with
        | string b => exact ih (J := J b) (F := fun vs w => F (.string b :: vs) w) (hf b) ha
        | _ => exact False.elim ha
      | ptr => cases v with
        | pointer b => exact ih (J := J b) (F := fun vs w => F (.pointer b :: vs) w) (hf b) ha
        | _ => exact False.elim ha
      | map => cases v with
        | map b => exact ih (J := J b) (F := fun vs w => F (.map b :: vs) w) (hf b) ha
        | _ => exact False.elim ha

/-- a measure over a typed tuple. -/
def TeleN : List Kind → Type
  | [] => World → Nat
  | .int _ :: r => Int → TeleN r
  | .bool :: r => Bool → TeleN r
  | .str :: r => ByteArray → TeleN r
  | .ptr :: r => Option Addr → TeleN r
  | .slice :: r => Option Addr → Nat → Nat → TeleN r
  | .map :: r => Option Nat → TeleN r
  | .any :: r => Value → TeleN r

def TeleN.app : (ks : List Kind) → TeleN ks → List Value → World → Nat
  | [], J, _, w => J w
  | .int _ :: r, J, vs, w => match vs with | .int _ n :: vs => TeleN.app r (J n) vs w | _ => 0
  | .bool :: r, J, vs, w => match vs with | .bool b :: vs => TeleN.app r (J b) vs w | _ => 0
  | .str :: r, J, vs, w => match vs with | .string b :: vs => TeleN.app r (J b) vs w | _ => 0
  | .ptr :: r, J, vs, w => match vs with | .pointer b :: vs => TeleN.app r (J b) vs w | _ => 0
  | .slice :: r, J, vs, w => match vs with | .slice a l c :: vs => TeleN.app r (J a l c) vs w | _ => 0
  | .map :: r, J, vs, w => match vs with | .map a :: vs => TeleN.app r (J a) vs w | _ => 0
  | .any :: r, J, vs, w => match vs with | v :: vs => TeleN.app r (J v) vs w | _ => 0

/-! ### code -/
inductive X where
  | normal | exit (id : Nat) | ret
def X.to : X → Exit | .normal => .normal | .exit id => .exit id | .ret => .ret

def keyOf : Code → Option Nat
  | .region id _ _ => some id
  | .seq a b => match keyOf a with | some k => some k | none => keyOf b
  | .cond _ a b => match keyOf a with | some k => some k | none => keyOf b
  | .block _ b => keyOf b
  | .loop b => keyOf b
  | .scope b => keyOf b
  | _ => none

def dstsOf : List Oper → List Nat
  | [] => []
  | o :: r => match o.dst with | some d => d :: dstsOf r | none => dstsOf r
theorem mem_dstsOf {l : List Oper} {o : Oper} (h : o ∈ l) {x : Tmp} (hx : o.dst = some x) : x ∈ dstsOf l := by
  induction l with
  | nil => cases h
  | cons p r ih =>
    unfold dstsOf
    rcases List.mem_cons.1 h with rfl | h
    · simp [hx]
    · split
      · simp [ih h]
      · exact ih h

def writes : Code → List Nat
  | .region _ ops _ => dstsOf ops.toList
  | .seq a b => writes a ++ writes b
  | .cond _ a b => writes a ++ writes b
  | .block _ b => writes b
  | .loop b => writes b
  | .scope b => writes b
  | _ => []

def look2 (l : List (Nat × Kind)) (env : Env) : List Value := l.map fun s => look env s.1
def kinds2 (l : List (Nat × Kind)) : List Kind := l.map fun s => s.2
def zipE : List (Nat × Kind) → List Value → Env → Env
  | s :: r, v :: vs, env => (s.1, v) :: zipE r vs env
  | _, _, env => env
def dropE : List Nat → (Nat → Value) → Env → Env
  | [], _, env => env
  | i :: r, d, env => (i, d i) :: dropE r d env

def sub (env : Env) (c : Operand) (b : Bool) : Env := match c with | .tmp t => (t, .bool b) :: env | _ => env
theorem look_sub {env : Env} {c : Operand} {b : Bool} (h : ev env c = .bool b) (i : Nat) : look (sub env c b) i = look env i := by
  cases c with
  | tmp t => exact look_same h i
  | _ => rfl

theorem look_dropE (W : List Nat) (d : Nat → Value) (env : Env) (i : Nat) : look (dropE W d env) i = if i ∈ W then d i else look env i := by
  induction W with
  | nil => simp [dropE]
  | cons j r ih =>
    simp only [dropE, look_cons, ih, List.mem_cons]
    by_cases h : i = j
    · subst h; simp
    · simp [h]
theorem look_zipE (l : List (Nat × Kind)) (env' env : Env) (i : Nat) (h : look env i = look env' i) : look (zipE l (look2 l env') env) i = look env' i := by
  induction l with
  | nil => exact h
  | cons s r ih =>
    simp only [look2, List.map_cons, zipE, look_cons]
    by_cases hi : i = s.1
    · subst hi; simp
    · rw [if_neg hi]; exact ih
/-- An environment that knows of the slots of W what is told of them, and of the others what was known. -/
theorem fits_join {n : Nat} {D : List Deferred} {env env' : Env} {a : Act} {W : List Nat} (l : List (Nat × Kind)) (hf : Fits n D env' a) (hag : Agree W env env') :
    ∀ i, look (zipE l (look2 l env') (dropE W (fun i => look env' i) env)) i = look env' i := by
  intro i
  refine look_zipE l env' _ i ?_
  rw [look_dropE]
  split
  · rfl
  · rename_i h; exact (hag i h).symm

def joinC (W : List Nat) (l : List (Nat × Kind)) (env : Env) (rest : Env → World → Prop) (body : (Env → World → Prop) → Prop) : Prop :=
  ∃ J : Tele (kinds2 l), Tele.fa (kinds2 l) J (fun vs w => ∀ d : Nat → Value, rest (zipE l vs (dropE W d env)) w) ∧ body fun env w => Tele.app (kinds2 l) J (look2 l env) w

def loopC (W : List Nat) (l : List (Nat × Kind)) (env : Env) (w : World) (body : Env → World → (Env → World → Prop) → Prop) : Prop :=
  ∃ (J : Tele (kinds2 l)) (μ : TeleN (kinds2 l)), Tele.app (kinds2 l) J (look2 l env) w ∧
    Tele.fa (kinds2 l) J fun vs w => ∀ d : Nat → Value, body (zipE l vs (dropE W d env)) w fun env' w' =>
      Tele.app (kinds2 l) J (look2 l env') w' ∧ TeleN.app (kinds2 l) μ (look2 l env') w' < TeleN.app (kinds2 l) μ vs w

def orElse {α : Type} (o : Option α) (K : α → Prop) : Prop := match o with | some a => K a | none => False

def drawVC (P : Program) (px : Px) (R : Value → World → Prop) (n : Nat) (m : Option Mode) (ops : Array Oper) (env : Env) (w : World) (K : Env → World → Prop) : Prop :=
  match P.follows .mixedOrders with
  | false => False
  | true => match m with
    | some (.still k) => match Region.lexTailB .any ops.toList.toArray k with
      | true => vcStill P n ops.toList.toArray w (ops.toList.take k) env fun env => vcOps P px R n ops.toList.toArray (ops.toList.drop k) env w K
      | false => False
    | some _ => match Region.noSelect ops with
      | true => ∃ S : World → Prop, vcAny P px R n ops S ops.size (Array.replicate ops.size false) env w K
      | false => False
    | none => match Region.lexB .any ops with
      | true => vcStill P n ops w ops.toList env fun env => K env w
      | false => False

/-- a value of the type t - 1; of none, if t is 0. -/
def exT (P : Program) (t : Nat) (K : Value → Prop) : Prop := match t with | 0 => ∃ v, K v | t + 1 => exShape (shapeOf P t) K
theorem exT_ex {P : Program} {t : Nat} {K : Value → Prop} (h : exT P t K) : ∃ v, K v := by
  cases t with
  | zero => exact h
  | succ t => exact exShape_ex h
/-- a map's next entry, or none. -/
def nextK (P : Program) (tk te : Nat) (v : Value) (K : Value → Prop) : Prop :=
  (v = .tuple #[.bool false] ∧ K (.tuple #[.bool false])) ∨ exT P tk fun k => exT P te fun e => v = .tuple #[.bool true, k, e] ∧ K (.tuple #[.bool true, k, e])
theorem nextK_out {P : Program} {tk te : Nat} {v : Value} {K : Value → Prop} (h : nextK P tk te v K) : K v := by
  rcases h with ⟨rfl, h⟩ | h
  · exact h
  · obtain ⟨k, h⟩ := exT_ex h
    obtain ⟨e, hv, h2⟩ := exT_ex h
    rw [hv]
    exact h2
/-- a string's next place, or none. -/
def strK (v : Value) (K : Value → Prop) : Prop :=
  (v = .tuple #[.bool false] ∧ K (.tuple #[.bool false])) ∨ ∃ (n c : Int), v = .tuple #[.bool true, .int .i64 n, .int .i32 c] ∧ K (.tuple #[.bool true, .int .i64 n, .int .i32 c])
theorem strK_out {v : Value} {K : Value → Prop} (h : strK v K) : K v := by
  rcases h with ⟨rfl, h⟩ | ⟨n, c, rfl, h⟩ <;> exact h
def nextV (P : Program) (px : Px) (R : Value → World → Prop) (n : Nat) (ops : Array Oper) (tk te : Nat) (env : Env) (w : World) (K : Env → World → Prop) : Prop :=
  match ops.toList with
  | [] => False
  | o :: r => match o.guard with
    | some _ => False
    | none => match o.op with
      | .next it true => runC P (Instr.next (ev env it) true o.type) w fun v w' => strK v fun v => vcOps P px R n ops r (putE n env o.dst v) w' K
      | .next it false => runC P (Instr.next (ev env it) false o.type) w fun v w' => nextK P 0 0 v fun v => vcOps P px R n ops r (putE n env o.dst v) w' K
      | .entry it => runC P (Instr.entry (ev env it)) w fun v w' => exT P tk fun k => exT P te fun e => v = .tuple #[k, e] ∧ vcOps P px R n ops r (putE n env o.dst (.tuple #[k, e])) w' K
      | _ => False
theorem nextV_out {P : Program} {px : Px} {R : Value → World → Prop} {n : Nat} {ops : Array Oper} {tk te : Nat} {env : Env} {w : World} {K : Env → World → Prop} (h : nextV P px R n ops tk te env w K) :
    ∃ o r, ops.toList = o :: r ∧ o.guard = none ∧ OpOk P o env w (fun v w' => vcOps P px R n ops r (putE n env o.dst v) w' K) R := by
  unfold nextV at h
  split at h
  · exact h.elim
  · rename_i o r ho
    split at h
    · exact h.elim
    · rename_i hg
      split at h
      · rename_i it hop
        exact ⟨o, r, ho, hg, opOk_of_runC (by simp only [execOp, hop]) (runC_mono h fun v w' x => strK_out x)⟩
      · rename_i it hop
        exact ⟨o, r, ho, hg, opOk_of_runC (by simp only [execOp, hop]) (runC_mono h fun v w' x => nextK_out x)⟩
      · rename_i it hop
        refine ⟨o, r, ho, hg, opOk_of_runC (by simp only [execOp, hop]) (runC_mono h fun v w' x => ?_)⟩
        obtain ⟨k, x⟩ := exT_ex x
        obtain ⟨e, hv, x⟩ := exT_ex x
        rw [hv]
        exact x
      · exact h.elim

/-! ### a region in which a loop's body is called ('yield') -/
/-- the loop's body is called. -/
def yldC (P : Program) (f : Value) (args : Array Value) (w : World) (K : Value → World → Prop) : Prop :=
  ∃ l, f = .func (.yield l) #[] #[] ∧ YieldAt Fence.wide 0 P l args w fun e w' => match e with | .returned v => K v w' | _ => False
def yldX (P : Program) (f : Value) (args : Array Value) (w : World) (K R : Value → World → Prop) : Prop :=
  ∃ l, f = .func (.yield l) #[] #[] ∧ YieldAt Fence.wide 0 P l args w (endK K R)
def yldB (P : Program) (b : Bool) (f : Value) (args : Array Value) (w : World) (K R : Value → World → Prop) : Prop := match b with | true => yldX P f args w K R | false => yldC P f args w K
theorem yldB_out {P : Program} {b : Bool} {f : Value} {args : Array Value} {w : World} {K R : Value → World → Prop} (h : yldB P b f args w K R) : yldX P f args w K R := by
  cases b
  · obtain ⟨l, hl, hy⟩ := h
    refine ⟨l, hl, ?_⟩
    obtain ⟨fn, tmps, assign, body, hy, hR⟩ := hy
    refine ⟨fn, tmps, assign, body, hy, hR.mono fun e w' hk => ?_⟩
    cases e
    · exact hk
    · exact hk.elim
    · exact hk.elim
  · exact h
def isYld (o : Oper) : Option (Operand × Array Operand) := match o.op with | .call c => (match c.callee with | .value f => some (f, c.args) | _ => none) | _ => none
def yldOps (P : Program) (px : Px) (R : Value → World → Prop) (n : Nat) (ops : Array Oper) : List Oper → Env → World → (Env → World → Prop) → Prop
  | [], env, w, K => K env w
  | o :: r, env, w, K => gdOp ops o env (fun env => match isYld o with
      | some fa => yldB P px.val (ev env fa.1) (fa.2.map (ev env)) w (fun v w' => tyOf P o.type v fun v => yldOps P px R n ops r (putE n env o.dst v) w' K) R
      | none => vcOp P px o env w (fun v w' => yldOps P px R n ops r (putE n env o.dst v) w' K) R)
      (fun env => yldOps P px R n ops r (putE n env o.dst undef) w K)
theorem opIn_of_wp {P : Program} {o : Oper} {a : Act} {w : World} {next : Act → World → Prop} {Q : Exit → Act → World → Prop} {n : Nat} (h : o.wp P a w next Q) : o.wpIn Fence.wide n P a w next Q := by
  refine ⟨fun _ _ => trivial, ?_⟩
  show o.uponIn Fence.wide n P a next Q ((execOp a.eval o).run P w)
  unfold Oper.wp at h
  revert h
  cases (execOp a.eval o).run P w with
  | halt x w' => cases x <;> exact fun h => h
  | ok x w' =>
    cases x with
    | enter f args => exact fun h => ⟨(fun e => by cases e), callsIn_wide.2 h⟩
    | row r args => exact fun h => ⟨(fun e => by cases e), fun c cs _ => let ⟨v, w', k, s⟩ := h c cs; ⟨v, w', k, stepsIn_wide.2 s⟩⟩
    | value v => exact fun h => h
    | skip => exact fun h => h
    | defer d => exact fun h => h
    | _ => exact fun h => h.elim
theorem yldOps_sound {P : Program} {px : Px} {R : Value → World → Prop} {n : Nat} {D : List Deferred} {ops : Array Oper} {W : List Nat} {env0 : Env} {K : Env → World → Prop} {Q : Exit → Act → World → Prop}
    (hQ : ∀ env a w, Fits n D env a → Agree W env0 env → K env w → Q .normal a w) (hP : ∀ v a w, Keeps n D W env0 a → R v w → Q (.panic [{ v, recovered := false }]) a w) :
    ∀ (r : List Oper) (env : Env) (a : Act) (w : World), (∀ o ∈ r, ∀ x, o.dst = some x → x ∈ W) → Fits n D env a → Agree W env0 env → yldOps P px R n ops r env w K → wpListIn Fence.wide 0 P ops Q r a w
  | [], env, a, w, _, hf, hag, h => hQ env a w hf hag h
  | o :: r, env, a, w, hW, hf, hag, h => by
    have hr : ∀ o' ∈ r, ∀ x, o'.dst = some x → x ∈ W := fun o' ho => hW o' (by simp [ho])
    unfold wpListIn
    rcases gdOp_out hf h with ⟨hw, env', he, h⟩ | ⟨hw, env', he, h⟩
    · rw [if_pos hw]
      have hf' := hf.of_look he
      split at h
      · rename_i fa hfa
        have h2 := yldB_out h
        clear h
        obtain ⟨l, hl, fn, tmps, assign, body, hy, hR⟩ := h2
        obtain ⟨dst, op, ty, pos, after, guard⟩ := o
        unfold isYld at hfa
        simp only at hfa
        split at hfa
        · rename_i c
          split at hfa
          · rename_i f hc
            cases hfa
            refine ⟨fun _ _ => trivial, ?_⟩
            have hx : (execOp a.eval ⟨dst, .call c, ty, pos, after, guard⟩).run P w = .ok (.round l fn tmps assign body) w := by
              have e1 : execOp (ev env') ⟨dst, .call c, ty, pos, after, guard⟩ = (do let d ← Deferred.ofValue (ev env' f) (c.args.map (ev env')); invoke d.target d.args) := by
                simp only [execOp, resolve, hc]
              rw [hf'.eval_fun, e1]
              simp only at hl
              rw [hl]
              show (Instr.yield l (#[] ++ c.args.map (ev env'))).run P w = _
              rw [Array.empty_append]
              exact hy
            show Oper.uponIn Fence.wide 0 P _ a _ Q ((execOp a.eval ⟨dst, .call c, ty, pos, after, guard⟩).run P w)
            rw [hx]
            refine ⟨(fun e => by cases e), hR.mono fun e w' hk => ?_⟩
            cases e with
            | returned v => exact yldOps_sound hQ hP r _ _ _ hr (hf'.put _ _) ((hag.same he).put n (hW _ (by simp)) v) (tyOf_out hk)
            | panicked c => obtain ⟨v, rfl, hk⟩ := panK_out hk; exact hP _ _ _ (Keeps.of_fits hf hag) hk
            | outgrown => exact hk.elim
          · cases hfa
        · cases hfa
      · refine opIn_of_wp (vcOp_sound h a _ Q hf'.eval_fun (fun v w' hk => ?_) fun v w' hk => hP v a w' (Keeps.of_fits hf hag) hk)
        exact yldOps_sound hQ hP r _ _ _ hr (hf'.put _ _) ((hag.same he).put n (hW o (by simp)) v) hk
    · rw [hw, if_neg (by simp)]
      have hf' := hf.of_look he
      exact ⟨fun _ _ => trivial, yldOps_sound hQ hP r _ _ _ hr (hf'.put _ _) ((hag.same he).put n (hW o (by simp)) undef) h⟩

def vc (P : Program) (px : Px) (R : Value → World → Prop) (n : Nat) (ann : Ann) : Code → Env → World → (X → Env → World → Prop) → Prop
  | .skip, env, w, Q => Q .normal env w
  | .region id ops draw, env, w, Q => match draw with
    | false => match find ann.modes id with
      | some (.next tk te) => nextV P px R n ops tk te env w fun env w => Q .normal env w
      | some .yield => yldOps P px R n ops ops.toList env w fun env w => Q .normal env w
      | _ => vcOps P px R n ops ops.toList env w fun env w => Q .normal env w
    | true => drawC w fun w' => drawVC P px R n (find ann.modes id) ops env w' fun env w => Q .normal env w
  | .seq a b, env, w, Q =>
    match (match keyOf b with | some k => find ann.joins k | none => none) with
    | none => vc P px R n ann a env w fun e env w => match e with | .normal => vc P px R n ann b env w Q | e => Q e env w
    | some l => joinC (writes a) l env (fun env w => vc P px R n ann b env w Q) fun K => vc P px R n ann a env w fun e env w => match e with | .normal => K env w | e => Q e env w
  | .cond c a b, env, w, Q => match ev env c with
    | .bool t => brC t (vc P px R n ann a (sub env c true) w Q) (vc P px R n ann b (sub env c false) w Q)
    | _ => False
  | .block id b, env, w, Q => vc P px R n ann b env w fun e env w => match e with
    | .exit id' => (match Nat.beq id' id with | true => Q .normal env w | false => Q (.exit id') env w)
    | e => Q e env w
  | .loop b, env, w, Q => match (match keyOf b with | some k => find ann.loops k | none => none) with
    | none => False
    | some l => loopC (writes b) l env w fun env w G => vc P px R n ann b env w fun e env w => match e with | .normal => G env w | e => Q e env w
  | .exit id, env, w, Q => Q (.exit id) env w
  | .ret, env, w, Q => Q .ret env w
  | _, _, _, _ => False

def Lift (n : Nat) (D : List Deferred) (W : List Nat) (env : Env) (R : Value → World → Prop) (Q : X → Env → World → Prop) : Exit → Act → World → Prop :=
  fun e a w => (∃ x env', e = x.to ∧ Fits n D env' a ∧ Agree W env env' ∧ Q x env' w) ∨ ∃ v, e = .panic [{ v, recovered := false }] ∧ Keeps n D W env a ∧ R v w
theorem Lift.mono {n : Nat} {D : List Deferred} {W W' : List Nat} {env env' : Env} {R : Value → World → Prop} {Q : X → Env → World → Prop} {e : Exit} {a : Act} {w : World} (hs : ∀ i, i ∈ W → i ∈ W') (hag : Agree W' env env') (h : Lift n D W env' R Q e a w) : Lift n D W' env R Q e a w := by
  rcases h with ⟨x, env2, rfl, hf, hag2, hq⟩ | ⟨v, rfl, hk, hr⟩
  · exact .inl ⟨x, env2, rfl, hf, hag.trans (hag2.mono hs), hq⟩
  · exact .inr ⟨v, rfl, (hk.mono hs).agree hag, hr⟩

theorem drawVC_sound {P : Program} {px : Px} {R : Value → World → Prop} {n : Nat} {D : List Deferred} {m : Option Mode} {id : Nat} {ops : Array Oper} {W : List Nat} {env : Env} {a : Act} {w : World} {K : Env → World → Prop} {Q : X → Env → World → Prop}
    (hW : ∀ o ∈ ops.toList, ∀ x, o.dst = some x → x ∈ W) (hf : Fits n D env a) (h : drawVC P px R n m ops env w.drew K) (hk : ∀ env w, K env w → Q .normal env w) :
    (Code.region id ops true).wp P (Lift n D W env R Q) a w := by
  unfold drawVC at h
  split at h
  · exact h.elim
  rename_i hm
  split at h
  · rename_i k
    split at h
    · rename_i hB
      have := wp_region_still_tail (P := P) (id := id) (Q := Lift n D W env R Q) (a := a) (w := w) (l := ops.toList) k hm hB
      simp only [Array.toArray_toList] at this h
      refine this ?_
      refine vcStill_sound (W := W) (env0 := env) (fun env' a' hf' hag' h' => ?_) _ env a (fun o ho => hW o (List.mem_of_mem_take ho)) hf (Agree.refl _ _) h
      refine vcOps_sound (W := W) (env0 := env) (fun env2 a2 w2 hf2 hag2 h2 => .inl ⟨.normal, env2, rfl, hf2, hag2, hk _ _ h2⟩) (fun v a w hkp hr => .inr ⟨v, rfl, hkp, hr⟩) _ env' a' _ (fun o ho => hW o (List.mem_of_mem_drop ho)) hf' hag' h'
    · exact h.elim
  · split at h
    · rename_i hchk
      obtain ⟨S, h⟩ := h
      refine wp_region_any hm ?_
      refine wpAny_of_N _ _ _ _ (vcAny_sound (S := S) (K := K) (W := W) (env0 := env) hchk hW (fun c a d v w hd hx => ?_) (fun v a w hkp hr => .inr ⟨v, rfl, hkp, hr⟩) (fun env2 a2 w2 hf2 hag2 h2 => .inl ⟨.normal, env2, rfl, hf2, hag2, hk _ _ h2⟩) _ _ env a _ hf (Agree.refl _ _) h)
      rcases hx with ⟨x, env2, e, _⟩ | ⟨v, e, hkp, hr⟩
      · cases x <;> cases e
      · exact .inr ⟨v, e, hkp.unput hd, hr⟩
    · exact h.elim
  · split at h
    · rename_i hB
      refine wp_region_still hm hB ?_
      exact vcStill_sound (W := W) (env0 := env) (fun env' a' hf' hag' h' => .inl ⟨.normal, env', rfl, hf', hag', hk _ _ h'⟩) _ env a hW hf (Agree.refl _ _) h
    · exact h.elim

theorem vc_sound {P : Program} {px : Px} {R : Value → World → Prop} {n : Nat} {D : List Deferred} {ann : Ann} : ∀ (c : Code) (env : Env) (a : Act) (w : World) (Q : X → Env → World → Prop), Fits n D env a → vc P px R n ann c env w Q → c.wp P (Lift n D (writes c) env R Q) a w := by
  intro c
  induction c with
  | skip => intro env a w Q hf h; exact wp_skip (.inl ⟨.normal, env, rfl, hf, Agree.refl _ _, h⟩)
  | ret => intro env a w Q hf h; exact wp_ret (.inl ⟨.ret, env, rfl, hf, Agree.refl _ _, h⟩)
  | exit id => intro env a w Q hf h; exact wp_exit (.inl ⟨.exit id, env, rfl, hf, Agree.refl _ _, h⟩)
  | region id ops draw =>
    intro env a w Q hf h
    have hW : ∀ o ∈ ops.toList, ∀ x, o.dst = some x → x ∈ writes (.region id ops draw) := fun o ho x hx => mem_dstsOf ho hx
    cases draw with
    | false =>
      unfold vc at h
      simp only at h
      split at h
      · refine wp_region_list ?_
        obtain ⟨o, r, ho, hg, hok⟩ := nextV_out h
        rw [ho] at hW ⊢
        unfold wpList
        have hwd : Region.wanted o (yielded ops a.tmps) = true := by unfold Region.wanted; rw [hg]
        rw [if_pos hwd]
        left
        refine hok a _ _ hf.eval_fun (fun v w' hk => ?_) fun v w' hr => .inr ⟨v, rfl, Keeps.of_fits hf (Agree.refl _ _), hr⟩
        exact vcOps_sound (W := writes (.region id ops false)) (env0 := env) (fun env' a' w' hf' hag' h' => .inl ⟨.normal, env', rfl, hf', hag', h'⟩) (fun v a w hkp hr => .inr ⟨v, rfl, hkp, hr⟩) r _ _ _ (fun o' ho' => hW o' (by simp [ho'])) (hf.put _ _)
          ((Agree.refl _ env).put n (hW o (by simp)) v) hk
      · exact (wpIn_wide (n := 0)).1 (wpIn_region_list (yldOps_sound (W := writes (.region id ops false)) (env0 := env) (fun env' a' w' hf' hag' h' => .inl ⟨.normal, env', rfl, hf', hag', h'⟩) (fun v a w hkp hr => .inr ⟨v, rfl, hkp, hr⟩) _ env a w hW hf (Agree.refl _ _) h))
      · exact wp_region_list (vcOps_sound (W := writes (.region id ops false)) (env0 := env) (fun env' a' w' hf' hag' h' => .inl ⟨.normal, env', rfl, hf', hag', h'⟩) (fun v a w hkp hr => .inr ⟨v, rfl, hkp, hr⟩) _ env a w hW hf (Agree.refl _ _) h)
    | true => exact drawVC_sound hW hf h fun _ _ x => x
  | seq x y ihx ihy =>
    intro env a w Q hf h
    refine wp_seq ?_
    have hl : ∀ i, i ∈ writes x → i ∈ writes (.seq x y) := fun i hi => List.mem_append_left _ hi
    have hr : ∀ i, i ∈ writes y → i ∈ writes (.seq x y) := fun i hi => List.mem_append_right _ hi
    unfold vc at h
    split at h
    · refine wp_mono (ihx env a w _ hf h) ?_
      rintro e a' w' (⟨e', env', rfl, hf', hag', hq⟩ | ⟨v, rfl, hkp, hr⟩)
      · cases e' with
        | normal => exact wp_mono (ihy env' a' w' Q hf' hq) fun e2 a2 w2 h2 => h2.mono hr (hag'.mono hl)
        | exit id => exact .inl ⟨.exit id, env', rfl, hf', hag'.mono hl, hq⟩
        | ret => exact .inl ⟨.ret, env', rfl, hf', hag'.mono hl, hq⟩
      · exact .inr ⟨v, rfl, hkp.mono hl, hr⟩
    · rename_i l _
      obtain ⟨J, hJ, h⟩ := h
      refine wp_mono (ihx env a w _ hf h) ?_
      rintro e a' w' (⟨e', env', rfl, hf', hag', hq⟩ | ⟨v, rfl, hkp, hr⟩)
      · cases e' with
        | normal =>
          have hrest := Tele.use hJ hq fun i => look env' i
          have hlook := fits_join l hf' hag'
          exact wp_mono (ihy _ a' w' Q (hf'.of_look hlook) hrest) fun e2 a2 w2 h2 => h2.mono hr ((hag'.mono hl).same hlook)
        | exit id => exact .inl ⟨.exit id, env', rfl, hf', hag'.mono hl, hq⟩
        | ret => exact .inl ⟨.ret, env', rfl, hf', hag'.mono hl, hq⟩
      · exact .inr ⟨v, rfl, hkp.mono hl, hr⟩
  | cond c x y ihx ihy =>
    intro env a w Q hf h
    have hl : ∀ i, i ∈ writes x → i ∈ writes (.cond c x y) := fun i hi => List.mem_append_left _ hi
    have hr : ∀ i, i ∈ writes y → i ∈ writes (.cond c x y) := fun i hi => List.mem_append_right _ hi
    unfold vc at h
    split at h
    · rename_i t ht
      have he : a.eval c = .bool t := (hf.eval c).trans ht
      refine wp_cond he ?_
      cases t with
      | true => exact wp_mono (ihx _ a w Q (hf.of_look (look_sub ht)) h) fun e2 a2 w2 h2 => h2.mono hl fun i _ => look_sub ht i
      | false => exact wp_mono (ihy _ a w Q (hf.of_look (look_sub ht)) h) fun e2 a2 w2 h2 => h2.mono hr fun i _ => look_sub ht i
    · exact h.elim
  | block id b ih =>
    intro env a w Q hf h
    refine wp_block ?_
    refine wp_mono (ih env a w _ hf h) ?_
    rintro e a' w' (⟨e', env', rfl, hf', hag', hq⟩ | ⟨v, rfl, hkp, hr⟩)
    · cases e' with
      | normal => exact .inl ⟨.normal, env', rfl, hf', hag', hq⟩
      | ret => exact .inl ⟨.ret, env', rfl, hf', hag', hq⟩
      | exit id' =>
        simp only at hq
        show (if id' = id then Lift n D (writes (Code.block id b)) env R Q Exit.normal a' w' else Lift n D (writes (Code.block id b)) env R Q (Exit.exit id') a' w')
        cases hb : Nat.beq id' id with
        | true => rw [hb] at hq; rw [if_pos (Nat.eq_of_beq_eq_true hb)]; exact .inl ⟨.normal, env', rfl, hf', hag', hq⟩
        | false =>
          rw [hb] at hq
          rw [if_neg (fun e : id' = id => by rw [e] at hb; simp at hb)]
          exact .inl ⟨.exit id', env', rfl, hf', hag', hq⟩
    · exact .inr ⟨v, rfl, hkp, hr⟩
  | loop b ih =>
    intro env a w Q hf h
    unfold vc at h
    split at h
    · exact h.elim
    rename_i l _
    obtain ⟨J, μ, h0, hJ⟩ := h
    refine wp_loop (fun a w => ∃ env', Fits n D env' a ∧ Agree (writes b) env env' ∧ Tele.app (kinds2 l) J (look2 l env') w)
      (fun a w => TeleN.app (kinds2 l) μ (l.map fun s => a.tmps.getD s.1 undef) w) ⟨env, hf, Agree.refl _ _, h0⟩ ?_
    rintro a1 w1 ⟨env1, hf1, hag1, happ⟩
    have hm1 : ∀ {env2 : Env} {a2 : Act}, Fits n D env2 a2 → (l.map fun s => a2.tmps.getD s.1 undef) = look2 l env2 := fun hf2 => by
      unfold look2; exact List.map_congr_left fun s _ => hf2.at_ s.1
    have hbody := Tele.use hJ happ fun i => look env1 i
    have hlook := fits_join l hf1 hag1
    refine wp_mono (ih _ a1 w1 _ (hf1.of_look hlook) hbody) ?_
    rintro e a' w' (⟨e', env', rfl, hf', hag', hq⟩ | ⟨v, rfl, hkp, hr⟩)
    · have hag2 : Agree (writes b) env env' := (hag1.same hlook).trans hag'
      cases e' with
      | normal =>
        refine ⟨⟨env', hf', hag2, hq.1⟩, ?_⟩
        rw [hm1 hf', hm1 hf1]
        exact hq.2
      | exit id => exact .inl ⟨.exit id, env', rfl, hf', hag2, hq⟩
      | ret => exact .inl ⟨.ret, env', rfl, hf', hag2, hq⟩
    · exact .inr ⟨v, rfl, hkp.agree (hag1.same hlook), hr⟩
  | _ => intro env a w Q hf h; exact h.elim

/-! ### functions -/
def resVC (P : Program) (env : Env) (w : World) : List ResultVar → (List Value → Prop) → Prop
  | [], K => K []
  | .tmp t :: r, K => resVC P env w r fun vs => K (look env t :: vs)
  | .cell a t :: r, K => ptrV (look env a) fun ad => ldVC P t w ad fun v => resVC P env w r fun vs => K (v :: vs)
def oneOf (vs : List Value) : Value := match vs with | [v] => v | vs => .tuple vs.toArray

def argE : List Value → Nat → Env
  | [], _ => []
  | v :: r, i => (i, v) :: argE r (i + 1)

def vcFunX (P : Program) (ann : Ann) (px : Px) (fn : Func) (args : List Value) (w : World) (K R : Value → World → Prop) : Prop :=
  match fn.body with
  | none => False
  | some c => vc P px R (max args.length fn.ntmps) ann c (argE args 0) w fun x env w => match x with
    | .exit _ => False
    | _ => resVC P env w fn.results.toList fun vs => K (oneOf vs) w

def vcFun (P : Program) (ann : Ann) (fn : Func) (args : List Value) (w : World) (K : Value → World → Prop) : Prop := vcFunX P ann ⟨[], false⟩ fn args w K fun _ _ => False

def resSem (env : Env) : ResultVar → Sem Value
  | .tmp t => pure (look env t)
  | .cell x t => do loadVar t (← asAddr (look env x))

theorem resVC_sound {P : Program} {env : Env} {w : World} : ∀ (rs : List ResultVar) {K : List Value → Prop}, resVC P env w rs K →
    ∃ vs, K vs ∧ (rs.mapM (resSem env)).run P w = .ok vs w
  | [], K, h => ⟨[], h, rfl⟩
  | .tmp t :: r, K, h => by
    obtain ⟨vs, hk, hr⟩ := resVC_sound r h
    refine ⟨_, hk, ?_⟩
    rw [List.mapM_cons, Sem.run_bind]
    show ((Sem.run P (pure (look env t)) w).andThen _) = _
    rw [Sem.run_pure, Result.andThen_ok, Sem.run_bind, hr, Result.andThen_ok, Sem.run_pure]
  | .cell x t :: r, K, h => by
    obtain ⟨ad, hx, h⟩ := ptrV_out h
    obtain ⟨v, h, hr1⟩ := semR_out (ldVC_sound h)
    obtain ⟨vs, hk, hr⟩ := resVC_sound r h
    refine ⟨_, hk, ?_⟩
    have h1 : (resSem env (.cell x t)).run P w = .ok v w := by
      show ((asAddr (look env x) >>= fun a => loadVar t a)).run P w = _
      rw [hx, Sem.run_bind]
      show ((Sem.run P (pure ad) w).andThen _) = _
      rw [Sem.run_pure, Result.andThen_ok]
      exact hr1 w rfl
    rw [List.mapM_cons, Sem.run_bind, h1, Result.andThen_ok, Sem.run_bind, hr, Result.andThen_ok, Sem.run_pure]

theorem argE_look (args : List Value) (k i : Nat) : look (argE args k) i = if k ≤ i then args.getD (i - k) undef else undef := by
  induction args generalizing k with
  | nil => simp [argE, look]
  | cons v r ih =>
    simp only [argE, look_cons, ih]
    by_cases h : i = k
    · subst h; simp
    · rw [if_neg h]
      by_cases h1 : k + 1 ≤ i
      · rw [if_pos h1, if_pos (by omega)]
        obtain ⟨m, rfl⟩ : ∃ m, i = k + 1 + m := ⟨i - (k + 1), by omega⟩
        rw [show k + 1 + m - (k + 1) = m by omega, show k + 1 + m - k = m + 1 by omega]
        rfl
      · rw [if_neg h1, if_neg (by omega)]

theorem fit0 (fn : Func) (args : List Value) : Fits (max args.length fn.ntmps) [] (argE args 0) { tmps := args.toArray ++ Array.replicate (fn.ntmps - args.toArray.size) undef, defers := [] } := by
  refine ⟨by simp; omega, rfl, fun i => ?_⟩
  rw [argE_look, Array.getD_eq_getD_getElem?]
  simp only [Nat.zero_le, if_true, Nat.sub_zero, List.getD_eq_getElem?_getD]
  rw [Array.getElem?_append]
  split
  · rename_i hi; simp
  · rename_i hi
    simp only [List.size_toArray] at hi
    rw [Array.getElem?_replicate, List.getElem?_eq_none (by omega)]
    split <;> rfl
/-- the slots that a function's results are read from. -/
def resSlots : List ResultVar → List Nat
  | [] => []
  | .tmp t :: r => t :: resSlots r
  | .cell t _ :: r => t :: resSlots r
theorem res_run {P : Program} {fn : Func} {env : Env} {a : Act} {w : World} {K : Value → World → Prop} (he : results fn a.tmps = (do let vs ← fn.results.mapM (resSem env); pure (if h : vs.size = 1 then vs[0] else .tuple vs)))
    (hq : resVC P env w fn.results.toList fun vs => K (oneOf vs) w) : ∃ v, (results fn a.tmps).run P w = .ok v w ∧ K v w := by
  obtain ⟨vs, hk, hr⟩ := resVC_sound _ hq
  refine ⟨_, ?_, hk⟩
  have em : ∀ x : Sem (List Value), (Functor.map List.toArray x) = x >>= fun l => pure l.toArray := fun _ => rfl
  rw [he, Array.mapM_eq_mapM_toList, em]
  simp only [Sem.run_bind, hr, Result.andThen_ok, Sem.run_pure]
  cases vs with
  | nil => rfl
  | cons v r => cases r <;> rfl
theorem res_fits {fn : Func} {n : Nat} {D : List Deferred} {env : Env} {a : Act} (hf : Fits n D env a) : results fn a.tmps = (do let vs ← fn.results.mapM (resSem env); pure (if h : vs.size = 1 then vs[0] else .tuple vs)) := by
  unfold results
  refine congrArg (fun g => Bind.bind (Array.mapM g fn.results) _) (funext fun r => ?_)
  cases r <;> simp only [resSem, hf.at_]

/-- THE ENGINE's THEOREM: what 'vcFunX' comes to at a function's text is what its call does. -/
theorem callX_of_vc {P : Program} {f : FuncId} {fn : Func} {args : List Value} {w : World} {K R : Value → World → Prop} (ann : Ann) (px : Px)
    (hf : P.funcs[f]? = some fn) (h : vcFunX P ann px fn args w K R) : callX P f args.toArray w K R := by
  unfold vcFunX at h
  split at h
  · exact h.elim
  rename_i c hc
  refine calls_of_wp hf hc ?_
  refine wp_mono (vc_sound c _ _ w _ (fit0 fn args) h) ?_
  rintro e a' w' (⟨x, env', rfl, hf', hag', hq⟩ | ⟨v, rfl, hkp, hr⟩)
  · have hres := fun hq => res_run (P := P) (fn := fn) (K := K) (res_fits (fn := fn) hf') (w := w') hq
    cases x with
    | exit id => exact hq.elim
    | normal => obtain ⟨v, hr, hk⟩ := hres hq; exact ⟨hf'.defers, v, hr, hk⟩
    | ret => obtain ⟨v, hr, hk⟩ := hres hq; exact ⟨hf'.defers, v, hr, hk⟩
  · exact ⟨hkp.defers, hr⟩
theorem calls_of_vc {P : Program} {f : FuncId} {fn : Func} {args : List Value} {w : World} {K : Value → World → Prop} (ann : Ann)
    (hf : P.funcs[f]? = some fn) (h : vcFun P ann fn args w K) : callC P f args.toArray w K :=
  Calls.mono (callX_of_vc ann ⟨[], false⟩ hf h) fun e w' x => by
    cases e with
    | returned v => exact x
    | panicked c => obtain ⟨_, _, h⟩ := panK_out x; exact h.elim
    | outgrown => exact x.elim

theorem of_eq {p q : Prop} (h : p) (e : p = q) : q := e ▸ h

end Go.SX

/- The engine, fourth part: functions that put one call off ('defer'). -/
namespace Go.SX

def isDefer (o : Oper) : Bool := match o.op with | .defer _ => true | _ => false
def hasD : Code → Bool
  | .region _ ops _ => ops.toList.any isDefer
  | .seq a b => match hasD a with | true => true | false => hasD b
  | .cond _ a b => match hasD a with | true => true | false => hasD b
  | .block _ b => hasD b
  | .loop b => hasD b
  | .scope b => hasD b
  | _ => false

/-- none of the slots rs is written. -/
def disj : List Nat → List Nat → Bool
  | [], _ => true
  | i :: r, W => match memN W i with | true => false | false => disj r W
theorem memN_iff {l : List Nat} {i : Nat} : memN l i = true ↔ i ∈ l := by
  induction l with
  | nil => simp [memN]
  | cons j r ih =>
    unfold memN
    cases hb : Nat.beq i j with
    | true => simp [Nat.eq_of_beq_eq_true hb]
    | false =>
      have : i ≠ j := fun e => by subst e; simp at hb
      simp [ih, this]
theorem disj_out {rs W : List Nat} (h : disj rs W = true) : ∀ i ∈ rs, i ∉ W := by
  induction rs with
  | nil => intro i hi; cases hi
  | cons j r ih =>
    unfold disj at h
    split at h
    · cases h
    · rename_i hm
      intro i hi hw
      rcases List.mem_cons.1 hi with rfl | hi
      · rw [memN_iff.2 hw] at hm; cases hm
      · exact ih h i hi hw

/-- operations up to the one that puts a call off, and behind it. -/
def dOps (P : Program) (px : Px) (rs : List Nat) (R1 : Value → World → Prop) (R2 : Env → Deferred → Value → World → Prop) (n : Nat) (ops : Array Oper) : List Oper → Env → World → (Env → Deferred → Env → World → Prop) → Prop
  | [], _, _, _ => False
  | o :: r, env, w, K => match o.guard with
    | some _ => False
    | none => match o.op with
      | .defer c => match c.callee with
        | .value f => match ev env f with
          | .func fn first captured => match disj rs (dstsOf (o :: r)) with
            | true => vcOps P px (R2 env ⟨.fn fn captured, first ++ c.args.map (ev env)⟩) n ops r (putE n env o.dst undef) w (K env ⟨.fn fn captured, first ++ c.args.map (ev env)⟩)
            | false => False
          | _ => False
        | _ => False
      | _ => vcOp P px o env w (fun v w' => dOps P px rs R1 R2 n ops r (putE n env o.dst v) w' K) R1

def vcD (P : Program) (px : Px) (n : Nat) (ann : Ann) (rs : List Nat) (R1 : Value → World → Prop) (R2 : Env → Deferred → Value → World → Prop) : Code → Env → World → (X → Env → World → Prop) → (Env → Deferred → X → Env → World → Prop) → Prop
  | .region _ ops draw, env, w, _, Q2 => match draw with
    | false => dOps P px rs R1 R2 n ops ops.toList env w fun e0 d env w => Q2 e0 d .normal env w
    | true => False
  | .seq a b, env, w, Q1, Q2 => match hasD a with
    | true => match disj rs (writes b) with
      | true => vcD P px n ann rs R1 R2 a env w (fun e env w => match e with | .normal => False | e => Q1 e env w) fun e0 d e env w => match e with | .normal => vc P px (R2 e0 d) n ann b env w (Q2 e0 d) | e => Q2 e0 d e env w
      | false => False
    | false => vc P px R1 n ann a env w fun e env w => match e with | .normal => vcD P px n ann rs R1 R2 b env w Q1 Q2 | e => Q1 e env w
  | _, _, _, _, _ => False

/-- at the end of a piece: no call is put off, or one is. -/
def Lift2 (n : Nat) (W rs : List Nat) (env : Env) (R1 : Value → World → Prop) (R2 : Env → Deferred → Value → World → Prop) (Q1 : X → Env → World → Prop) (Q2 : Env → Deferred → X → Env → World → Prop) : Exit → Act → World → Prop :=
  fun e a w => Lift n [] W env R1 Q1 e a w ∨ ∃ e0 d, (∃ x env', e = x.to ∧ Fits n [d] env' a ∧ (∀ i ∈ rs, look env' i = look e0 i) ∧ Q2 e0 d x env' w) ∨
    ∃ v, e = .panic [{ v, recovered := false }] ∧ a.defers = [d] ∧ (∀ i ∈ rs, a.tmps.getD i undef = look e0 i) ∧ R2 e0 d v w

theorem dOps_sound {P : Program} {px : Px} {rs : List Nat} {R1 : Value → World → Prop} {R2 : Env → Deferred → Value → World → Prop} {n : Nat} {ops : Array Oper} {W : List Nat} {env0 : Env} {K : Env → Deferred → Env → World → Prop} {Q : Exit → Act → World → Prop}
    (hQ : ∀ e0 d env a w, Fits n [d] env a → (∀ i ∈ rs, look env i = look e0 i) → K e0 d env w → Q .normal a w) (hR1 : ∀ v a w, Keeps n [] W env0 a → R1 v w → Q (.panic [{ v, recovered := false }]) a w)
    (hR2 : ∀ e0 d v a w, a.defers = [d] → (∀ i ∈ rs, a.tmps.getD i undef = look e0 i) → R2 e0 d v w → Q (.panic [{ v, recovered := false }]) a w) :
    ∀ (r : List Oper) (env : Env) (a : Act) (w : World), (∀ o ∈ r, ∀ x, o.dst = some x → x ∈ W) → Fits n [] env a → Agree W env0 env → dOps P px rs R1 R2 n ops r env w K → wpList P ops Q r a w
  | [], env, a, w, _, hf, hag, h => h.elim
  | o :: r, env, a, w, hW, hf, hag, h => by
    have hr : ∀ o' ∈ r, ∀ x, o'.dst = some x → x ∈ W := fun o' ho => hW o' (by simp [ho])
    unfold wpList
    unfold dOps at h
    split at h
    · exact h.elim
    rename_i hg
    have hwd : Region.wanted o (yielded ops a.tmps) = true := by unfold Region.wanted; rw [hg]
    rw [if_pos hwd]
    left
    split at h
    · rename_i c hop
      split at h
      · rename_i f hc
        split at h
        · rename_i fn first captured hv
          split at h
          · rename_i hdis
            have hx : (execOp (ev env) o).run P w = .ok (.defer ⟨.fn fn captured, first ++ c.args.map (ev env)⟩) w := by
              obtain ⟨dst, op, ty, pos, after, guard⟩ := o
              simp only at hop
              subst hop
              simp only [execOp, resolve, hc, hv, Deferred.ofValue]
              rfl
            unfold Oper.wp
            rw [hf.eval_fun, hx]
            generalize (⟨.fn fn captured, first ++ c.args.map (ev env)⟩ : Deferred) = d at h
            have hf2 : Fits n [d] env { a with defers := d :: a.defers } := ⟨hf.size, by show d :: a.defers = [d]; rw [hf.defers], hf.at_⟩
            have hd1 : ∀ i ∈ rs, i ∉ dstsOf (o :: r) := disj_out hdis
            have hag1 : Agree (dstsOf (o :: r)) env (putE n env o.dst undef) := (Agree.refl _ env).put n (fun x hx => mem_dstsOf (by simp) hx) undef
            refine vcOps_sound (W := dstsOf (o :: r)) (env0 := env) (fun env2 a2 w2 hf2 hag2 h2 => hQ env d env2 a2 w2 hf2 (fun i hi => hag2 i (hd1 i hi)) h2) (fun v a2 w2 hk2 hr2 => hR2 env d v a2 w2 hk2.defers (fun i hi => hk2.at_ i (hd1 i hi)) hr2)
              r _ _ _ (fun o' ho' x hx => mem_dstsOf (by simp [ho']) hx) (hf2.put _ _) hag1 h
          · exact h.elim
        · exact h.elim
      · exact h.elim
    · refine vcOp_sound h a _ Q hf.eval_fun (fun v w' hk => ?_) fun v w' hk => hR1 v a w' (Keeps.of_fits hf hag) hk
      exact dOps_sound hQ hR1 hR2 r _ _ _ hr (hf.put _ _) (hag.put n (hW o (by simp)) v) hk

theorem vcD_sound {P : Program} {px : Px} {n : Nat} {ann : Ann} {rs : List Nat} {R1 : Value → World → Prop} {R2 : Env → Deferred → Value → World → Prop} : ∀ (c : Code) (env : Env) (a : Act) (w : World) (Q1 : X → Env → World → Prop) (Q2 : Env → Deferred → X → Env → World → Prop),
    Fits n [] env a → vcD P px n ann rs R1 R2 c env w Q1 Q2 → c.wp P (Lift2 n (writes c) rs env R1 R2 Q1 Q2) a w := by
  intro c
  induction c with
  | region id ops draw =>
    intro env a w Q1 Q2 hf h
    unfold vcD at h
    cases draw with
    | true => exact h.elim
    | false =>
      simp only at h
      refine wp_region_list ?_
      exact dOps_sound (W := writes (.region id ops false)) (env0 := env) (fun e0 d env' a' w' hf' hag' h' => .inr ⟨e0, d, .inl ⟨.normal, env', rfl, hf', hag', h'⟩⟩) (fun v a w hkp hr => .inl (.inr ⟨v, rfl, hkp, hr⟩))
        (fun e0 d v a w hd hat hr => .inr ⟨e0, d, .inr ⟨v, rfl, hd, hat, hr⟩⟩) _ env a w (fun o ho x hx => mem_dstsOf ho hx) hf (Agree.refl _ _) h
  | seq x y ihx ihy =>
    intro env a w Q1 Q2 hf h
    refine wp_seq ?_
    have hl : ∀ i, i ∈ writes x → i ∈ writes (.seq x y) := fun i hi => List.mem_append_left _ hi
    have hr : ∀ i, i ∈ writes y → i ∈ writes (.seq x y) := fun i hi => List.mem_append_right _ hi
    unfold vcD at h
    split at h
    · split at h
      · rename_i hdis
        have hd := disj_out hdis
        refine wp_mono (ihx env a w _ _ hf h) ?_
        rintro e a' w' ((⟨e', env', rfl, hf', hag', hq⟩ | ⟨v, rfl, hkp, hr⟩) | ⟨e0, d, ⟨e', env', rfl, hf', hat, hq⟩ | ⟨v, rfl, hdf, hat, hr⟩⟩)
        · cases e' with
          | normal => exact hq.elim
          | exit id => exact .inl (.inl ⟨.exit id, env', rfl, hf', hag'.mono hl, hq⟩)
          | ret => exact .inl (.inl ⟨.ret, env', rfl, hf', hag'.mono hl, hq⟩)
        · exact .inl (.inr ⟨v, rfl, hkp.mono hl, hr⟩)
        · cases e' with
          | normal =>
            refine wp_mono (vc_sound y env' a' w' _ hf' hq) ?_
            rintro e2 a2 w2 (⟨x2, env2, rfl, hf2, hag2, hq2⟩ | ⟨v, rfl, hkp, hr2⟩)
            · exact .inr ⟨e0, d, .inl ⟨x2, env2, rfl, hf2, fun i hi => (hag2 i (hd i hi)).trans (hat i hi), hq2⟩⟩
            · exact .inr ⟨e0, d, .inr ⟨v, rfl, hkp.defers, fun i hi => (hkp.at_ i (hd i hi)).trans (hat i hi), hr2⟩⟩
          | exit id => exact .inr ⟨e0, d, .inl ⟨.exit id, env', rfl, hf', hat, hq⟩⟩
          | ret => exact .inr ⟨e0, d, .inl ⟨.ret, env', rfl, hf', hat, hq⟩⟩
        · exact .inr ⟨e0, d, .inr ⟨v, rfl, hdf, hat, hr⟩⟩
      · exact h.elim
    · refine wp_mono (vc_sound x env a w _ hf h) ?_
      rintro e a' w' (⟨e', env', rfl, hf', hag', hq⟩ | ⟨v, rfl, hkp, hr⟩)
      · cases e' with
        | normal =>
          refine wp_mono (ihy env' a' w' Q1 Q2 hf' hq) ?_
          rintro e2 a2 w2 (h2 | h2)
          · exact .inl (h2.mono hr (hag'.mono hl))
          · exact .inr h2
        | exit id => exact .inl (.inl ⟨.exit id, env', rfl, hf', hag'.mono hl, hq⟩)
        | ret => exact .inl (.inl ⟨.ret, env', rfl, hf', hag'.mono hl, hq⟩)
      · exact .inl (.inr ⟨v, rfl, hkp.mono hl, hr⟩)
  | _ => intro env a w Q1 Q2 hf h; exact h.elim

/-- the call that was put off, at a frame that returns; at one that panics with v: it recovers, or panics on. -/
def defC (P : Program) (d : Deferred) (w : World) (K : World → Prop) : Prop :=
  ∃ fv cap f args, d.target = .fn fv cap ∧ (invoke d.target d.args).run P w = .ok (.enter f args) w ∧ CallsD P f args .returning w fun e u w' => (∃ v, e = .returned v) ∧ u = .returning ∧ K w'
def defP (P : Program) (d : Deferred) (v : Value) (w : World) (K : World → Prop) (R : Value → World → Prop) : Prop :=
  ∃ fv cap f args, d.target = .fn fv cap ∧ (invoke d.target d.args).run P w = .ok (.enter f args) w ∧ CallsD P f args (.panicking [{ v, recovered := false }]) w fun e u w' =>
    (∃ x, e = .returned x) ∧ ((u = .panicking [{ v, recovered := true }] ∧ K w') ∨ (u = .panicking [{ v, recovered := false }] ∧ R v w'))

def recS (b : Bool) (l : List ResultVar) : List Nat := match b with | true => resSlots l | false => []
def recK (b : Bool) (K : Prop) : Prop := match b with | true => K | false => False
/-- rec: the deferred function may recover. -/
def vcFunD (P : Program) (ann : Ann) (px : Px) (rec : Bool) (fn : Func) (args : List Value) (w : World) (K R : Value → World → Prop) : Prop :=
  match fn.body with
  | none => False
  | some c => vcD P px (max args.length fn.ntmps) ann (recS rec fn.results.toList) R
      (fun e0 d v w => defP P d v w (fun w => recK rec (resVC P e0 w fn.results.toList fun vs => K (oneOf vs) w)) R) c (argE args 0) w
      (fun x env w => match x with
        | .exit _ => False
        | _ => resVC P env w fn.results.toList fun vs => K (oneOf vs) w)
      fun _ d x env w => match x with
        | .exit _ => False
        | _ => defC P d w fun w => resVC P env w fn.results.toList fun vs => K (oneOf vs) w

theorem mapM_congr {α β : Type} {f g : α → Sem β} : ∀ {l : List α}, (∀ x ∈ l, f x = g x) → l.mapM f = l.mapM g
  | [], _ => rfl
  | x :: l, h => by
    rw [List.mapM_cons, List.mapM_cons, h x (by simp), mapM_congr fun y hy => h y (by simp [hy])]
theorem mem_resSlots {r : ResultVar} : ∀ {l : List ResultVar}, r ∈ l → (match r with | .tmp t => t | .cell t _ => t) ∈ resSlots l
  | [], h => by cases h
  | x :: l, h => by
    rcases List.mem_cons.1 h with rfl | h
    · cases r <;> simp [resSlots]
    · have := mem_resSlots h
      cases x <;> simp [resSlots, this]
theorem res_slots {fn : Func} {env : Env} {tmps : Array Value} (h : ∀ i ∈ resSlots fn.results.toList, tmps.getD i undef = look env i) : results fn tmps = (do let vs ← fn.results.mapM (resSem env); pure (if h : vs.size = 1 then vs[0] else .tuple vs)) := by
  unfold results
  rw [Array.mapM_eq_mapM_toList, Array.mapM_eq_mapM_toList]
  refine congrArg (fun g => Bind.bind (Functor.map List.toArray g) _) (mapM_congr fun r hr => ?_)
  have := mem_resSlots hr
  cases r with
  | tmp t => simp only [resSem, h t this]
  | cell t ty => simp only [resSem, h t this]

theorem callX_of_vcD {P : Program} {f : FuncId} {fn : Func} {args : List Value} {w : World} {K R : Value → World → Prop} (ann : Ann) (px : Px) (rec : Bool)
    (hf : P.funcs[f]? = some fn) (h : vcFunD P ann px rec fn args w K R) : callX P f args.toArray w K R := by
  unfold vcFunD at h
  split at h
  · exact h.elim
  rename_i c hc
  refine calls_of_wp_defers hf hc ?_
  refine wp_mono (vcD_sound c _ _ w _ _ (fit0 fn args) h) ?_
  have leave : ∀ {env' : Env} {a' : Act} {w' : World} {d : Deferred}, a'.defers = [d] → (∀ i ∈ resSlots fn.results.toList, a'.tmps.getD i undef = look env' i) → defC P d w' (fun w => resVC P env' w fn.results.toList fun vs => K (oneOf vs) w) → Leaves P fn a'.tmps (endK K R) a'.defers .returning w' := by
    intro env' a' w' d hd hat hq
    obtain ⟨fv, cap, g, gargs, ht, hi, hcall⟩ := hq
    rw [hd]
    refine ⟨by simp, fv, cap, g, gargs, ht, hi, hcall.mono ?_⟩
    rintro e u w2 ⟨⟨v, rfl⟩, rfl, hres⟩
    exact res_run (res_slots hat) hres
  rintro e a' w' ((⟨x, env', rfl, hf', hag', hq⟩ | ⟨v, rfl, hkp, hr⟩) | ⟨e0, d, ⟨x, env', rfl, hf', hat, hq⟩ | ⟨v, rfl, hdf, hat, hr⟩⟩)
  · have hres := fun hq => res_run (P := P) (fn := fn) (K := K) (res_fits (fn := fn) hf') (w := w') hq
    cases x with
    | exit id => exact hq.elim
    | normal => show Leaves P fn a'.tmps (endK K R) a'.defers .returning w'; rw [hf'.defers]; exact hres hq
    | ret => show Leaves P fn a'.tmps (endK K R) a'.defers .returning w'; rw [hf'.defers]; exact hres hq
  · show Leaves P fn a'.tmps (endK K R) a'.defers _ w'
    rw [hkp.defers]; exact hr
  · cases x with
    | exit id => exact hq.elim
    | normal => exact leave hf'.defers (fun i _ => hf'.at_ i) hq
    | ret => exact leave hf'.defers (fun i _ => hf'.at_ i) hq
  · show Leaves P fn a'.tmps (endK K R) a'.defers _ w'
    obtain ⟨fv, cap, g, gargs, ht, hi, hcall⟩ := hr
    rw [hdf]
    refine ⟨by simp, fv, cap, g, gargs, ht, hi, hcall.mono ?_⟩
    rintro e u w2 ⟨⟨x, rfl⟩, ⟨rfl, hres⟩ | ⟨rfl, hres⟩⟩
    · cases rec with
      | true => exact res_run (res_slots hat) hres
      | false => exact hres.elim
    · exact hres

/-- a deferred function that does not recover: its contract serves in each mode. -/
theorem callsD_of_vc {P : Program} {f : FuncId} {fn : Func} {args : List Value} {w : World} {u : FrameMode} {K : Value → World → Prop} (ann : Ann)
    (hf : P.funcs[f]? = some fn) (h : vcFun P ann fn args w K) : CallsD P f args.toArray u w fun e u' w' => ∃ v, e = .returned v ∧ u' = u ∧ K v w' := by
  unfold vcFun vcFunX at h
  split at h
  · exact h.elim
  rename_i c hc
  refine (callsD_of_wp (R := endK K fun _ _ => False) hf hc ?_).mono ?_
  · refine wp_mono (vc_sound c _ _ w _ (fit0 fn args) h) ?_
    rintro e a' w' (⟨x, env', rfl, hf', hag', hq⟩ | ⟨v, rfl, hkp, hr⟩)
    · have hres := fun hq => res_run (P := P) (fn := fn) (K := K) (res_fits (fn := fn) hf') (w := w') hq
      cases x with
      | exit id => exact hq.elim
      | normal => obtain ⟨v, hr, hk⟩ := hres hq; exact ⟨hf'.defers, v, hr, hk⟩
      | ret => obtain ⟨v, hr, hk⟩ := hres hq; exact ⟨hf'.defers, v, hr, hk⟩
    · exact hr.elim
  · rintro e u' w' ⟨rfl, hk⟩
    cases e with
    | returned v => exact ⟨v, rfl, rfl, hk⟩
    | panicked c => obtain ⟨_, _, h⟩ := panK_out hk; exact h.elim
    | outgrown => exact hk.elim

end Go.SX
