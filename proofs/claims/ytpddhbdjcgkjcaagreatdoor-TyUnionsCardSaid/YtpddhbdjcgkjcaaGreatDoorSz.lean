/- The engine, third part: code, loops, joins, functions. -/
import Derived.Test.YtpddhbdjcgkjcaaGreatDoorSy
import Derived.RangeFuncSeq
import Derived.TacticsIn
import Derived.ControlIn
namespace Go.SX

/-! ### typed tuples -/
def Tele : List Kind → Type
  | [] => World → Prop
  | .int _ :: r => Int → Tele r
  | .bool :: r => Bool → Tele r
  | .str :: r => ByteArray → Tele r
  | .ptr :: r => Option Addr → Tele r
  | .slice :: r => Option Addr → Nat → Nat → Tele r
  | .map :: r => Option Nat → Tele r
  | .any :: r => Value → Tele r

def Tele.app : (ks : List Kind) → Tele ks → List Value → World → Prop
  | [], J, vs, w => match vs with | [] => J w | _ => False
  | .int k :: r, J, vs, w => match vs with | .int k' n :: vs => (match beqK k' k with | true => Tele.app r (J n) vs w | false => False) | _ => False
  | .bool :: r, J, vs, w => match vs with | .bool b :: vs => Tele.app r (J b) vs w | _ => False
  | .str :: r, J, vs, w => match vs with | .string b :: vs => Tele.app r (J b) vs w | _ => False
  | .ptr :: r, J, vs, w => match vs with | .pointer b :: vs => Tele.app r (J b) vs w | _ => False
  | .slice :: r, J, vs, w => match vs with | .slice a l c :: vs => Tele.app r (J a l c) vs w | _ => False
  | .map :: r, J, vs, w => match vs with | .map a :: vs => Tele.app r (J a) vs w | _ => False
  | .any :: r, J, vs, w => match vs with | v :: vs => Tele.app r (J v) vs w | _ => False

def Tele.fa : (ks : List Kind) → Tele ks → (List Value → World → Prop) → Prop
  | [], J, F => ∀ w, J w → F [] w
  | .int k :: r, J, F => ∀ n : Int, Tele.fa r (J n) fun vs w => F (.int k n :: vs) w
  | .bool :: r, J, F => ∀ n : Bool, Tele.fa r (J n) fun vs w => F (.bool n :: vs) w
  | .str :: r, J, F => ∀ n : ByteArray, Tele.fa r (J n) fun vs w => F (.string n :: vs) w
  | .ptr :: r, J, F => ∀ n : Option Addr, Tele.fa r (J n) fun vs w => F (.pointer n :: vs) w
  | .slice :: r, J, F => ∀ (a : Option Addr) (l c : Nat), Tele.fa r (J a l c) fun vs w => F (.slice a l c :: vs) w
  | .map :: r, J, F => ∀ n : Option Nat, Tele.fa r (J n) fun vs w => F (.map n :: vs) w
  | .any :: r, J, F => ∀ n : Value, Tele.fa r (J n) fun vs w => F (n :: vs) w

theorem Tele.use : ∀ {ks : List Kind} {J : Tele ks} {F : List Value → World → Prop} {vs : List Value} {w : World}, Tele.fa ks J F → Tele.app ks J vs w → F vs w := by
  intro ks
  induction ks with
  | nil =>
    intro J F vs w hf ha
    cases vs with
    | nil => exact hf w ha
    | cons => exact False.elim ha
  | cons k r ih =>
    intro J F vs w hf ha
    cases vs with
    | nil => cases k <;> exact False.elim ha
    | cons v vs =>
      cases k with
      | any => exact ih (J := J v) (F := fun vs w => F (v :: vs) w) (hf v) ha
      | int k =>
        cases v with
        | int k' n =>
          simp only [Tele.app] at ha
          split at ha
          · rename_i hk; have := beqK_eq hk; subst this; exact ih (J := J n) (F := fun vs w => F (.int _ n :: vs) w) (hf n) ha
          · exact False.elim ha
        | _ => exact False.elim ha
      | slice => cases v with
        | slice a l c => exact ih (J := J a l c) (F := fun vs w => F (.slice a l c :: vs) w) (hf a l c) ha
        | _ => exact False.elim ha
      | bool => cases v with
        | bool b => exact ih (J := J b) (F := fun vs w => F (.bool b :: vs) w) (hf b) ha
        | _ => exact False.elim ha
      | str => cases v with
        | string b => exact ih (J := J b) (F := fun vs w => F (.string b :: vs) w) (hf b) ha
        | _ => exact False.elim ha
      | ptr => cases v with
        | pointer b => exact ih (J := J b) (F := fun vs w => F (.pointer b :: vs) w) (hf b) ha
        | _ => exact False.elim ha
      | map => cases v with
        | map b => exact ih (J := J b) (F := fun vs w => F (.map b :: vs) w) (hf b) ha
        | _ => exact False.elim ha

/-- a measure over a typed tuple. -/
def TeleN : List Kind → Type
  | [] => World → Nat
  | .int _ :: r => Int → TeleN r
  | .bool :: r => Bool → TeleN r
  | .str :: r => ByteArray → TeleN r
  | .ptr :: r => Option Addr → TeleN r
  | .slice :: r => Option Addr → Nat → Nat → TeleN r
  | .map :: r => Option Nat → TeleN r
  | .any :: r => Value → TeleN r

def TeleN.app : (ks : List Kind) → TeleN ks → List Value → World → Nat
  | [], J, _, w => J w
  | .int _ :: r, J, vs, w => match vs with | .int _ n :: vs => TeleN.app r (J n) vs w | _ => 0
  | .bool :: r, J, vs, w => match vs with | .bool b :: vs => TeleN.app r (J b) vs w | _ => 0
  | .str :: r, J, vs, w => match vs with | .string b :: vs => TeleN.app r (J b) vs w | _ => 0
  | .ptr :: r, J, vs, w => match vs with | .pointer b :: vs => TeleN.app r (J b) vs w | _ => 0
  | .slice :: r, J, vs, w => match vs with | .slice a l c :: vs => TeleN.app r (J a l c) vs w | _ => 0
  | .map :: r, J, vs, w => match vs with | .map a :: vs => TeleN.app r (J a) vs w | _ => 0
  | .any :: r, J, vs, w => match vs with | v :: vs => TeleN.app r (J v) vs w | _ => 0

/-! ### code -/
inductive X where
  | normal | exit (id : Nat) | ret
def X.to : X → Exit | .normal => .normal | .exit id => .exit id | .ret => .ret

def keyOf : Code → Option Nat
  | .region id _ _ => some id
  | .seq a b => match keyOf a with | some k => some k | none => keyOf b
  | .cond _ a b => match keyOf a with | some k => some k | none => keyOf b
  | .block _ b => keyOf b
  | .loop b => keyOf b
  | .scope b => keyOf b
  | _ => none

def dstsOf : List Oper → List Nat
  | [] => []
  | o :: r => match o.dst with | some d => d :: dstsOf r | none => dstsOf r
theorem mem_dstsOf {l : List Oper} {o : Oper} (h : o ∈ l) {x : Tmp} (hx : o.dst = some x) : x ∈ dstsOf l := by
  induction l with
  | nil => cases h
  | cons p r ih =>
    unfold dstsOf
    rcases List.mem_cons.1 h with rfl | h
    · simp [hx]
    · split
      · simp [ih h]
      · exact ih h

def writes : Code → List Nat
  | .region _ ops _ => dstsOf ops.toList
  | .seq a b => writes a ++ writes b
  | .cond _ a b => writes a ++ writes b
  | .block _ b => writes b
  | .loop b => writes b
  | .scope b => writes b
  | _ => []

def look2 (l : List (Nat × Kind)) (env : Env) : List Value := l.map fun s => look env s.1
def kinds2 (l : List (Nat × Kind)) : List Kind := l.map fun s => s.2
def zipE : List (Nat × Kind) → List Value → Env → Env
  | s :: r, v :: vs, env => (s.1, v) :: zipE r vs env
  | _, _, env => env
def dropE : List Nat → (Nat → Value) → Env → Env
  | [], _, env => env
  | i :: r, d, env => (i, d i) :: dropE r d env

def sub (env : Env) (c : Operand) (b : Bool) : Env := match c with | .tmp t => (t, .bool b) :: env | _ => env
theorem look_sub {env : Env} {c : Operand} {b : Bool} (h : ev env c = .bool b) (i : Nat) : look (sub env c b) i = look env i := by
  cases c with
  | tmp t => exact look_same h i
  | _ => rfl

theorem look_dropE (W : List Nat) (d : Nat → Value) (env : Env) (i : Nat) : look (dropE W d env) i = if i ∈ W then d i else look env i := by
  induction W with
  | nil => simp [dropE]
  | cons j r ih =>
    simp only [dropE, look_cons, ih, List.mem_cons]
    by_cases h : i = j
    · subst h; simp
    · simp [h]
theorem look_zipE (l : List (Nat × Kind)) (env' env : Env) (i : Nat) (h : look env i = look env' i) : look (zipE l (look2 l env') env) i = look env' i := by
  induction l with
  | nil => exact h
  | cons s r ih =>
    simp only [look2, List.map_cons, zipE, look_cons]
    by_cases hi : i = s.1
    · subst hi; simp
    · rw [if_neg hi]; exact ih
/-- An environment that knows of the slots of W what is told of them, and of the others what was known. -/
theorem fits_join {n : Nat} {env env' : Env} {a : Act} {W : List Nat} (l : List (Nat × Kind)) (hf : Fits n env' a) (hag : Agree W env env') :
    ∀ i, look (zipE l (look2 l env') (dropE W (fun i => look env' i) env)) i = look env' i := by
  intro i
  refine look_zipE l env' _ i ?_
  rw [look_dropE]
  split
  · rfl
  · rename_i h; exact (hag i h).symm

def joinC (W : List Nat) (l : List (Nat × Kind)) (env : Env) (rest : Env → World → Prop) (body : (Env → World → Prop) → Prop) : Prop :=
  ∃ J : Tele (kinds2 l), Tele.fa (kinds2 l) J (fun vs w => ∀ d : Nat → Value, rest (zipE l vs (dropE W d env)) w) ∧ body fun env w => Tele.app (kinds2 l) J (look2 l env) w

def loopC (W : List Nat) (l : List (Nat × Kind)) (env : Env) (w : World) (body : Env → World → (Env → World → Prop) → Prop) : Prop :=
  ∃ (J : Tele (kinds2 l)) (μ : TeleN (kinds2 l)), Tele.app (kinds2 l) J (look2 l env) w ∧
    Tele.fa (kinds2 l) J fun vs w => ∀ d : Nat → Value, body (zipE l vs (dropE W d env)) w fun env' w' =>
      Tele.app (kinds2 l) J (look2 l env') w' ∧ TeleN.app (kinds2 l) μ (look2 l env') w' < TeleN.app (kinds2 l) μ vs w

def orElse {α : Type} (o : Option α) (K : α → Prop) : Prop := match o with | some a => K a | none => False

def drawVC (P : Program) (n : Nat) (m : Option Mode) (ops : Array Oper) (env : Env) (w : World) (K : Env → World → Prop) : Prop :=
  match P.follows .mixedOrders with
  | false => False
  | true => match m with
    | some (.still k) => match Region.lexTailB .any ops.toList.toArray k with
      | true => vcStill P n ops.toList.toArray w (ops.toList.take k) env fun env => vcOps P n ops.toList.toArray (ops.toList.drop k) env w K
      | false => False
    | some _ => match Region.noSelect ops with
      | true => ∃ S : World → Prop, vcAny P n ops S ops.size (Array.replicate ops.size false) env w K
      | false => False
    | none => match Region.lexB .any ops with
      | true => vcStill P n ops w ops.toList env fun env => K env w
      | false => False

/-- a value of the type t - 1; of none, if t is 0. -/
def exT (P : Program) (t : Nat) (K : Value → Prop) : Prop := match t with | 0 => ∃ v, K v | t + 1 => exShape (shapeOf P t) K
theorem exT_ex {P : Program} {t : Nat} {K : Value → Prop} (h : exT P t K) : ∃ v, K v := by
  cases t with
  | zero => exact h
  | succ t => exact exShape_ex h
/-- a map's next entry, or none. -/
def nextK (P : Program) (tk te : Nat) (v : Value) (K : Value → Prop) : Prop :=
  (v = .tuple #[.bool false] ∧ K (.tuple #[.bool false])) ∨ exT P tk fun k => exT P te fun e => v = .tuple #[.bool true, k, e] ∧ K (.tuple #[.bool true, k, e])
theorem nextK_out {P : Program} {tk te : Nat} {v : Value} {K : Value → Prop} (h : nextK P tk te v K) : K v := by
  rcases h with ⟨rfl, h⟩ | h
  · exact h
  · obtain ⟨k, h⟩ := exT_ex h
    obtain ⟨e, hv, h2⟩ := exT_ex h
    rw [hv]
    exact h2
def nextV (P : Program) (n : Nat) (ops : Array Oper) (tk te : Nat) (env : Env) (w : World) (K : Env → World → Prop) : Prop :=
  match ops.toList with
  | [] => False
  | o :: r => match o.guard with
    | some _ => False
    | none => match o.op with
      | .next it false => runC P (Instr.next (ev env it) false o.type) w fun v w' => nextK P 0 0 v fun v => vcOps P n ops r (putE n env o.dst v) w' K
      | .entry it => runC P (Instr.entry (ev env it)) w fun v w' => exT P tk fun k => exT P te fun e => v = .tuple #[k, e] ∧ vcOps P n ops r (putE n env o.dst (.tuple #[k, e])) w' K
      | _ => False
theorem nextV_out {P : Program} {n : Nat} {ops : Array Oper} {tk te : Nat} {env : Env} {w : World} {K : Env → World → Prop} (h : nextV P n ops tk te env w K) :
    ∃ o r, ops.toList = o :: r ∧ o.guard = none ∧ OpOk P o env w fun v w' => vcOps P n ops r (putE n env o.dst v) w' K := by
  unfold nextV at h
  split at h
  · exact h.elim
  · rename_i o r ho
    split at h
    · exact h.elim
    · rename_i hg
      split at h
      · rename_i it hop
        exact ⟨o, r, ho, hg, opOk_of_runC (by simp only [execOp, hop]) (runC_mono h fun v w' x => nextK_out x)⟩
      · rename_i it hop
        refine ⟨o, r, ho, hg, opOk_of_runC (by simp only [execOp, hop]) (runC_mono h fun v w' x => ?_)⟩
        obtain ⟨k, x⟩ := exT_ex x
        obtain ⟨e, hv, x⟩ := exT_ex x
        rw [hv]
        exact x
      · exact h.elim

/-! ### a region in which a loop's body is called ('yield') -/
/-- the loop's body is called. -/
def yldC (P : Program) (f : Value) (args : Array Value) (w : World) (K : Value → World → Prop) : Prop :=
  ∃ l, f = .func (.yield l) #[] #[] ∧ YieldAt Fence.wide 0 P l args w fun e w' => match e with | .returned v => K v w' | _ => False
def isYld (o : Oper) : Option (Operand × Array Operand) := match o.op with | .call c => (match c.callee with | .value f => some (f, c.args) | _ => none) | _ => none
def yldOps (P : Program) (n : Nat) (ops : Array Oper) : List Oper → Env → World → (Env → World → Prop) → Prop
  | [], env, w, K => K env w
  | o :: r, env, w, K => gdOp ops o env (fun env => match isYld o with
      | some fa => yldC P (ev env fa.1) (fa.2.map (ev env)) w fun v w' => tyOf P o.type v fun v => yldOps P n ops r (putE n env o.dst v) w' K
      | none => vcOp P o env w fun v w' => yldOps P n ops r (putE n env o.dst v) w' K)
      (fun env => yldOps P n ops r (putE n env o.dst undef) w K)
theorem opIn_of_wp {P : Program} {o : Oper} {a : Act} {w : World} {next : Act → World → Prop} {Q : Exit → Act → World → Prop} {n : Nat} (h : o.wp P a w next Q) : o.wpIn Fence.wide n P a w next Q := by
  refine ⟨fun _ _ => trivial, ?_⟩
  show o.uponIn Fence.wide n P a next Q ((execOp a.eval o).run P w)
  unfold Oper.wp at h
  revert h
  cases (execOp a.eval o).run P w with
  | halt x w' => cases x <;> exact fun h => h
  | ok x w' =>
    cases x with
    | enter f args => exact fun h => ⟨(fun e => by cases e), callsIn_wide.2 h⟩
    | row r args => exact fun h => ⟨(fun e => by cases e), fun c cs _ => let ⟨v, w', k, s⟩ := h c cs; ⟨v, w', k, stepsIn_wide.2 s⟩⟩
    | value v => exact fun h => h
    | skip => exact fun h => h
    | defer d => exact fun h => h
    | _ => exact fun h => h.elim
theorem yldOps_sound {P : Program} {n : Nat} {ops : Array Oper} {W : List Nat} {env0 : Env} {K : Env → World → Prop} {Q : Exit → Act → World → Prop}
    (hQ : ∀ env a w, Fits n env a → Agree W env0 env → K env w → Q .normal a w) :
    ∀ (r : List Oper) (env : Env) (a : Act) (w : World), (∀ o ∈ r, ∀ x, o.dst = some x → x ∈ W) → Fits n env a → Agree W env0 env → yldOps P n ops r env w K → wpListIn Fence.wide 0 P ops Q r a w
  | [], env, a, w, _, hf, hag, h => hQ env a w hf hag h
  | o :: r, env, a, w, hW, hf, hag, h => by
    have hr : ∀ o' ∈ r, ∀ x, o'.dst = some x → x ∈ W := fun o' ho => hW o' (by simp [ho])
    unfold wpListIn
    rcases gdOp_out hf h with ⟨hw, env', he, h⟩ | ⟨hw, env', he, h⟩
    · rw [if_pos hw]
      have hf' := hf.of_look he
      split at h
      · rename_i fa hfa
        obtain ⟨l, hl, fn, tmps, assign, body, hy, hR⟩ := h
        obtain ⟨dst, op, ty, pos, after, guard⟩ := o
        unfold isYld at hfa
        simp only at hfa
        split at hfa
        · rename_i c
          split at hfa
          · rename_i f hc
            cases hfa
            refine ⟨fun _ _ => trivial, ?_⟩
            have hx : (execOp a.eval ⟨dst, .call c, ty, pos, after, guard⟩).run P w = .ok (.round l fn tmps assign body) w := by
              have e1 : execOp (ev env') ⟨dst, .call c, ty, pos, after, guard⟩ = (do let d ← Deferred.ofValue (ev env' f) (c.args.map (ev env')); invoke d.target d.args) := by
                simp only [execOp, resolve, hc]
              rw [hf'.eval_fun, e1]
              simp only at hl
              rw [hl]
              show (Instr.yield l (#[] ++ c.args.map (ev env'))).run P w = _
              rw [Array.empty_append]
              exact hy
            show Oper.uponIn Fence.wide 0 P _ a _ Q ((execOp a.eval ⟨dst, .call c, ty, pos, after, guard⟩).run P w)
            rw [hx]
            refine ⟨(fun e => by cases e), hR.mono fun e w' hk => ?_⟩
            cases e with
            | returned v => exact yldOps_sound hQ r _ _ _ hr (hf'.put _ _) ((hag.same he).put n (hW _ (by simp)) v) (tyOf_out hk)
            | _ => exact hk.elim
          · cases hfa
        · cases hfa
      · refine opIn_of_wp (vcOp_sound h a _ Q hf'.eval_fun (fun v w' hk => ?_) hf'.defers)
        exact yldOps_sound hQ r _ _ _ hr (hf'.put _ _) ((hag.same he).put n (hW o (by simp)) v) hk
    · rw [hw, if_neg (by simp)]
      have hf' := hf.of_look he
      exact ⟨fun _ _ => trivial, yldOps_sound hQ r _ _ _ hr (hf'.put _ _) ((hag.same he).put n (hW o (by simp)) undef) h⟩

def vc (P : Program) (n : Nat) (ann : Ann) : Code → Env → World → (X → Env → World → Prop) → Prop
  | .skip, env, w, Q => Q .normal env w
  | .region id ops draw, env, w, Q => match draw with
    | false => match find ann.modes id with
      | some (.next tk te) => nextV P n ops tk te env w fun env w => Q .normal env w
      | some .yield => yldOps P n ops ops.toList env w fun env w => Q .normal env w
      | _ => vcOps P n ops ops.toList env w fun env w => Q .normal env w
    | true => drawC w fun w' => drawVC P n (find ann.modes id) ops env w' fun env w => Q .normal env w
  | .seq a b, env, w, Q =>
    match (match keyOf b with | some k => find ann.joins k | none => none) with
    | none => vc P n ann a env w fun e env w => match e with | .normal => vc P n ann b env w Q | e => Q e env w
    | some l => joinC (writes a) l env (fun env w => vc P n ann b env w Q) fun K => vc P n ann a env w fun e env w => match e with | .normal => K env w | e => Q e env w
  | .cond c a b, env, w, Q => match ev env c with
    | .bool t => brC t (vc P n ann a (sub env c true) w Q) (vc P n ann b (sub env c false) w Q)
    | _ => False
  | .block id b, env, w, Q => vc P n ann b env w fun e env w => match e with
    | .exit id' => (match Nat.beq id' id with | true => Q .normal env w | false => Q (.exit id') env w)
    | e => Q e env w
  | .loop b, env, w, Q => match (match keyOf b with | some k => find ann.loops k | none => none) with
    | none => False
    | some l => loopC (writes b) l env w fun env w R => vc P n ann b env w fun e env w => match e with | .normal => R env w | e => Q e env w
  | .exit id, env, w, Q => Q (.exit id) env w
  | .ret, env, w, Q => Q .ret env w
  | _, _, _, _ => False

def Lift (n : Nat) (W : List Nat) (env : Env) (Q : X → Env → World → Prop) : Exit → Act → World → Prop :=
  fun e a w => ∃ x env', e = x.to ∧ Fits n env' a ∧ Agree W env env' ∧ Q x env' w

theorem drawVC_sound {P : Program} {n : Nat} {m : Option Mode} {id : Nat} {ops : Array Oper} {W : List Nat} {env : Env} {a : Act} {w : World} {K : Env → World → Prop} {Q : X → Env → World → Prop}
    (hW : ∀ o ∈ ops.toList, ∀ x, o.dst = some x → x ∈ W) (hf : Fits n env a) (h : drawVC P n m ops env w.drew K) (hk : ∀ env w, K env w → Q .normal env w) :
    (Code.region id ops true).wp P (Lift n W env Q) a w := by
  unfold drawVC at h
  split at h
  · exact h.elim
  rename_i hm
  split at h
  · rename_i k
    split at h
    · rename_i hB
      have := wp_region_still_tail (P := P) (id := id) (Q := Lift n W env Q) (a := a) (w := w) (l := ops.toList) k hm hB
      simp only [Array.toArray_toList] at this h
      refine this ?_
      refine vcStill_sound (W := W) (env0 := env) (fun env' a' hf' hag' h' => ?_) _ env a (fun o ho => hW o (List.mem_of_mem_take ho)) hf (Agree.refl _ _) h
      refine vcOps_sound (W := W) (env0 := env) (fun env2 a2 w2 hf2 hag2 h2 => ⟨.normal, env2, rfl, hf2, hag2, hk _ _ h2⟩) _ env' a' _ (fun o ho => hW o (List.mem_of_mem_drop ho)) hf' hag' h'
    · exact h.elim
  · split at h
    · rename_i hchk
      obtain ⟨S, h⟩ := h
      have key : (Code.region id ops true).wp P (fun e a w => e = .normal ∧ Lift n W env Q e a w) a w := by
        refine wp_region_any hm ?_
        exact wpAny_of_N _ _ _ _ (vcAny_sound (S := S) (K := K) (W := W) (env0 := env) hchk hW (fun c a w hx => by cases hx.1) (fun env2 a2 w2 hf2 hag2 h2 => ⟨rfl, .normal, env2, rfl, hf2, hag2, hk _ _ h2⟩) _ _ env a _ hf (Agree.refl _ _) h)
      exact wp_mono key fun e a w hx => hx.2
    · exact h.elim
  · split at h
    · rename_i hB
      refine wp_region_still hm hB ?_
      exact vcStill_sound (W := W) (env0 := env) (fun env' a' hf' hag' h' => ⟨.normal, env', rfl, hf', hag', hk _ _ h'⟩) _ env a hW hf (Agree.refl _ _) h
    · exact h.elim

theorem vc_sound {P : Program} {n : Nat} {ann : Ann} : ∀ (c : Code) (env : Env) (a : Act) (w : World) (Q : X → Env → World → Prop), Fits n env a → vc P n ann c env w Q → c.wp P (Lift n (writes c) env Q) a w := by
  intro c
  induction c with
  | skip => intro env a w Q hf h; exact wp_skip ⟨.normal, env, rfl, hf, Agree.refl _ _, h⟩
  | ret => intro env a w Q hf h; exact wp_ret ⟨.ret, env, rfl, hf, Agree.refl _ _, h⟩
  | exit id => intro env a w Q hf h; exact wp_exit ⟨.exit id, env, rfl, hf, Agree.refl _ _, h⟩
  | region id ops draw =>
    intro env a w Q hf h
    have hW : ∀ o ∈ ops.toList, ∀ x, o.dst = some x → x ∈ writes (.region id ops draw) := fun o ho x hx => mem_dstsOf ho hx
    cases draw with
    | false =>
      unfold vc at h
      simp only at h
      split at h
      · refine wp_region_list ?_
        obtain ⟨o, r, ho, hg, hok⟩ := nextV_out h
        rw [ho] at hW ⊢
        unfold wpList
        have hwd : Region.wanted o (yielded ops a.tmps) = true := by unfold Region.wanted; rw [hg]
        rw [if_pos hwd]
        left
        refine hok a _ _ hf.eval_fun (fun v w' hk => ?_) hf.defers
        exact vcOps_sound (W := writes (.region id ops false)) (env0 := env) (fun env' a' w' hf' hag' h' => ⟨.normal, env', rfl, hf', hag', h'⟩) r _ _ _ (fun o' ho' => hW o' (by simp [ho'])) (hf.put _ _)
          ((Agree.refl _ env).put n (hW o (by simp)) v) hk
      · exact (wpIn_wide (n := 0)).1 (wpIn_region_list (yldOps_sound (W := writes (.region id ops false)) (env0 := env) (fun env' a' w' hf' hag' h' => ⟨.normal, env', rfl, hf', hag', h'⟩) _ env a w hW hf (Agree.refl _ _) h))
      · exact wp_region_list (vcOps_sound (W := writes (.region id ops false)) (env0 := env) (fun env' a' w' hf' hag' h' => ⟨.normal, env', rfl, hf', hag', h'⟩) _ env a w hW hf (Agree.refl _ _) h)
    | true => exact drawVC_sound hW hf h fun _ _ x => x
  | seq x y ihx ihy =>
    intro env a w Q hf h
    refine wp_seq ?_
    have hl : ∀ i, i ∈ writes x → i ∈ writes (.seq x y) := fun i hi => List.mem_append_left _ hi
    have hr : ∀ i, i ∈ writes y → i ∈ writes (.seq x y) := fun i hi => List.mem_append_right _ hi
    unfold vc at h
    split at h
    · refine wp_mono (ihx env a w _ hf h) ?_
      rintro e a' w' ⟨e', env', rfl, hf', hag', hq⟩
      cases e' with
      | normal =>
        refine wp_mono (ihy env' a' w' Q hf' hq) ?_
        rintro e2 a2 w2 ⟨x2, env2, rfl, hf2, hag2, hq2⟩
        exact ⟨x2, env2, rfl, hf2, (hag'.mono hl).trans (hag2.mono hr), hq2⟩
      | exit id => exact ⟨.exit id, env', rfl, hf', hag'.mono hl, hq⟩
      | ret => exact ⟨.ret, env', rfl, hf', hag'.mono hl, hq⟩
    · rename_i l _
      obtain ⟨J, hJ, h⟩ := h
      refine wp_mono (ihx env a w _ hf h) ?_
      rintro e a' w' ⟨e', env', rfl, hf', hag', hq⟩
      cases e' with
      | normal =>
        have hrest := Tele.use hJ hq fun i => look env' i
        have hlook := fits_join l hf' hag'
        refine wp_mono (ihy _ a' w' Q (hf'.of_look hlook) hrest) ?_
        rintro e2 a2 w2 ⟨x2, env2, rfl, hf2, hag2, hq2⟩
        refine ⟨x2, env2, rfl, hf2, ?_, hq2⟩
        exact ((hag'.mono hl).same hlook).trans (hag2.mono hr)
      | exit id => exact ⟨.exit id, env', rfl, hf', hag'.mono hl, hq⟩
      | ret => exact ⟨.ret, env', rfl, hf', hag'.mono hl, hq⟩
  | cond c x y ihx ihy =>
    intro env a w Q hf h
    have hl : ∀ i, i ∈ writes x → i ∈ writes (.cond c x y) := fun i hi => List.mem_append_left _ hi
    have hr : ∀ i, i ∈ writes y → i ∈ writes (.cond c x y) := fun i hi => List.mem_append_right _ hi
    unfold vc at h
    split at h
    · rename_i t ht
      have he : a.eval c = .bool t := (hf.eval c).trans ht
      refine wp_cond he ?_
      cases t with
      | true =>
        refine wp_mono (ihx _ a w Q (hf.of_look (look_sub ht)) h) ?_
        rintro e2 a2 w2 ⟨x2, env2, rfl, hf2, hag2, hq2⟩
        exact ⟨x2, env2, rfl, hf2, fun i hi => (hag2.mono hl i hi).trans (look_sub ht i), hq2⟩
      | false =>
        refine wp_mono (ihy _ a w Q (hf.of_look (look_sub ht)) h) ?_
        rintro e2 a2 w2 ⟨x2, env2, rfl, hf2, hag2, hq2⟩
        exact ⟨x2, env2, rfl, hf2, fun i hi => (hag2.mono hr i hi).trans (look_sub ht i), hq2⟩
    · exact h.elim
  | block id b ih =>
    intro env a w Q hf h
    refine wp_block ?_
    refine wp_mono (ih env a w _ hf h) ?_
    rintro e a' w' ⟨e', env', rfl, hf', hag', hq⟩
    cases e' with
    | normal => exact ⟨.normal, env', rfl, hf', hag', hq⟩
    | ret => exact ⟨.ret, env', rfl, hf', hag', hq⟩
    | exit id' =>
      simp only at hq
      show (if id' = id then Lift n (writes (Code.block id b)) env Q Exit.normal a' w' else Lift n (writes (Code.block id b)) env Q (Exit.exit id') a' w')
      cases hb : Nat.beq id' id with
      | true => rw [hb] at hq; rw [if_pos (Nat.eq_of_beq_eq_true hb)]; exact ⟨.normal, env', rfl, hf', hag', hq⟩
      | false =>
        rw [hb] at hq
        rw [if_neg (fun e : id' = id => by rw [e] at hb; simp at hb)]
        exact ⟨.exit id', env', rfl, hf', hag', hq⟩
  | loop b ih =>
    intro env a w Q hf h
    unfold vc at h
    split at h
    · exact h.elim
    rename_i l _
    obtain ⟨J, μ, h0, hJ⟩ := h
    refine wp_loop (fun a w => ∃ env', Fits n env' a ∧ Agree (writes b) env env' ∧ Tele.app (kinds2 l) J (look2 l env') w)
      (fun a w => TeleN.app (kinds2 l) μ (l.map fun s => a.tmps.getD s.1 undef) w) ⟨env, hf, Agree.refl _ _, h0⟩ ?_
    rintro a1 w1 ⟨env1, hf1, hag1, happ⟩
    have hm1 : ∀ {env2 : Env} {a2 : Act}, Fits n env2 a2 → (l.map fun s => a2.tmps.getD s.1 undef) = look2 l env2 := fun hf2 => by
      unfold look2; exact List.map_congr_left fun s _ => hf2.at_ s.1
    have hbody := Tele.use hJ happ fun i => look env1 i
    have hlook := fits_join l hf1 hag1
    refine wp_mono (ih _ a1 w1 _ (hf1.of_look hlook) hbody) ?_
    rintro e a' w' ⟨e', env', rfl, hf', hag', hq⟩
    have hag2 : Agree (writes b) env env' := (hag1.same hlook).trans hag'
    cases e' with
    | normal =>
      refine ⟨⟨env', hf', hag2, hq.1⟩, ?_⟩
      rw [hm1 hf', hm1 hf1]
      exact hq.2
    | exit id => exact ⟨.exit id, env', rfl, hf', hag2, hq⟩
    | ret => exact ⟨.ret, env', rfl, hf', hag2, hq⟩
  | _ => intro env a w Q hf h; exact h.elim

/-! ### functions -/
def resVC (P : Program) (env : Env) (w : World) : List ResultVar → (List Value → Prop) → Prop
  | [], K => K []
  | .tmp t :: r, K => resVC P env w r fun vs => K (look env t :: vs)
  | .cell a t :: r, K => ptrV (look env a) fun ad => ldVC P t w ad fun v => resVC P env w r fun vs => K (v :: vs)
def oneOf (vs : List Value) : Value := match vs with | [v] => v | vs => .tuple vs.toArray

def argE : List Value → Nat → Env
  | [], _ => []
  | v :: r, i => (i, v) :: argE r (i + 1)

def vcFun (P : Program) (ann : Ann) (fn : Func) (args : List Value) (w : World) (K : Value → World → Prop) : Prop :=
  match fn.body with
  | none => False
  | some c => vc P (max args.length fn.ntmps) ann c (argE args 0) w fun x env w => match x with
    | .exit _ => False
    | _ => resVC P env w fn.results.toList fun vs => K (oneOf vs) w

def resSem (env : Env) : ResultVar → Sem Value
  | .tmp t => pure (look env t)
  | .cell x t => do loadVar t (← asAddr (look env x))

theorem resVC_sound {P : Program} {env : Env} {w : World} : ∀ (rs : List ResultVar) {K : List Value → Prop}, resVC P env w rs K →
    ∃ vs, K vs ∧ (rs.mapM (resSem env)).run P w = .ok vs w
  | [], K, h => ⟨[], h, rfl⟩
  | .tmp t :: r, K, h => by
    obtain ⟨vs, hk, hr⟩ := resVC_sound r h
    refine ⟨_, hk, ?_⟩
    rw [List.mapM_cons, Sem.run_bind]
    show ((Sem.run P (pure (look env t)) w).andThen _) = _
    rw [Sem.run_pure, Result.andThen_ok, Sem.run_bind, hr, Result.andThen_ok, Sem.run_pure]
  | .cell x t :: r, K, h => by
    obtain ⟨ad, hx, h⟩ := ptrV_out h
    obtain ⟨v, h, hr1⟩ := semR_out (ldVC_sound h)
    obtain ⟨vs, hk, hr⟩ := resVC_sound r h
    refine ⟨_, hk, ?_⟩
    have h1 : (resSem env (.cell x t)).run P w = .ok v w := by
      show ((asAddr (look env x) >>= fun a => loadVar t a)).run P w = _
      rw [hx, Sem.run_bind]
      show ((Sem.run P (pure ad) w).andThen _) = _
      rw [Sem.run_pure, Result.andThen_ok]
      exact hr1 w rfl
    rw [List.mapM_cons, Sem.run_bind, h1, Result.andThen_ok, Sem.run_bind, hr, Result.andThen_ok, Sem.run_pure]

theorem argE_look (args : List Value) (k i : Nat) : look (argE args k) i = if k ≤ i then args.getD (i - k) undef else undef := by
  induction args generalizing k with
  | nil => simp [argE, look]
  | cons v r ih =>
    simp only [argE, look_cons, ih]
    by_cases h : i = k
    · subst h; simp
    · rw [if_neg h]
      by_cases h1 : k + 1 ≤ i
      · rw [if_pos h1, if_pos (by omega)]
        obtain ⟨m, rfl⟩ : ∃ m, i = k + 1 + m := ⟨i - (k + 1), by omega⟩
        rw [show k + 1 + m - (k + 1) = m by omega, show k + 1 + m - k = m + 1 by omega]
        rfl
      · rw [if_neg h1, if_neg (by omega)]

/-- THE ENGINE's THEOREM: what 'vcFun' comes to at a function's text is what its call does. -/
theorem calls_of_vc {P : Program} {f : FuncId} {fn : Func} {args : List Value} {w : World} {K : Value → World → Prop} (ann : Ann)
    (hf : P.funcs[f]? = some fn) (h : vcFun P ann fn args w K) : callC P f args.toArray w K := by
  unfold vcFun at h
  split at h
  · exact h.elim
  rename_i c hc
  refine calls_of_wp hf hc ?_
  have hfit : Fits (max args.length fn.ntmps) (argE args 0) { tmps := args.toArray ++ Array.replicate (fn.ntmps - args.toArray.size) undef, defers := [] } := by
    refine ⟨by simp; omega, rfl, fun i => ?_⟩
    rw [argE_look, Array.getD_eq_getD_getElem?]
    simp only [Nat.zero_le, if_true, Nat.sub_zero, List.getD_eq_getElem?_getD]
    rw [Array.getElem?_append]
    split
    · rename_i hi; simp
    · rename_i hi
      simp only [List.size_toArray] at hi
      rw [Array.getElem?_replicate, List.getElem?_eq_none (by omega)]
      split <;> rfl
  refine wp_mono (vc_sound c _ _ w _ hfit h) ?_
  rintro e a' w' ⟨x, env', rfl, hf', hag', hq⟩
  have hres : ∀ (hq : resVC P env' w' fn.results.toList fun vs => K (oneOf vs) w'), ∃ v, (results fn a'.tmps).run P w' = .ok v w' ∧ K v w' := fun hq => by
    obtain ⟨vs, hk, hr⟩ := resVC_sound _ hq
    refine ⟨_, ?_, hk⟩
    have e : results fn a'.tmps = (do let vs ← fn.results.mapM (resSem env'); pure (if h : vs.size = 1 then vs[0] else .tuple vs)) := by
      unfold results
      refine congrArg (fun g => Bind.bind (Array.mapM g fn.results) _) (funext fun r => ?_)
      cases r <;> simp only [resSem, hf'.at_]
    have em : ∀ x : Sem (List Value), (Functor.map List.toArray x) = x >>= fun l => pure l.toArray := fun _ => rfl
    rw [e, Array.mapM_eq_mapM_toList, em]
    simp only [Sem.run_bind, hr, Result.andThen_ok, Sem.run_pure]
    cases vs with
    | nil => rfl
    | cons v r => cases r <;> rfl
  cases x with
  | exit id => exact hq.elim
  | normal => obtain ⟨v, hr, hk⟩ := hres hq; exact ⟨hf'.defers, v, hr, hk⟩
  | ret => obtain ⟨v, hr, hk⟩ := hres hq; exact ⟨hf'.defers, v, hr, hk⟩

theorem of_eq {p q : Prop} (h : p) (e : p = q) : q := e ▸ h

end Go.SX
