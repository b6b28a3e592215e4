/- The engine, second part: regions (also those that draw their order), code, loops, joins, functions. -/
import Derived.Test.YtpddhbdjcgkjcaaGreatDoorSx
import Derived.Tactics
import Derived.StillTail
import Derived.OrdersHeld
namespace Go.SX

inductive Mode where
  | still (k : Nat) | any | held | next (k e : Nat) | yield

structure Ann where
  joins : List (Nat × List (Nat × Kind))
  loops : List (Nat × List (Nat × Kind))
  modes : List (Nat × Mode)

def nth {α : Type} : List α → Nat → Option α
  | [], _ => none
  | a :: l, i => match i with | 0 => some a | i + 1 => nth l i
theorem nth_eq {α : Type} (l : List α) (i : Nat) : nth l i = l[i]? := by
  induction l generalizing i with
  | nil => rfl
  | cons a l ih => cases i <;> simp [nth, ih]

def find {α : Type} : List (Nat × α) → Nat → Option α
  | [], _ => none
  | (j, a) :: r, i => match Nat.beq i j with | true => some a | false => find r i

/-! ### guards -/
def dstAt (ops : Array Oper) (j : Nat) : Option Tmp := match nth ops.toList j with | some o => o.dst | none => none

def gdOp (ops : Array Oper) (o : Oper) (env : Env) (yes no : Env → Prop) : Prop :=
  match o.guard with
  | none => yes env
  | some (j, want) => match dstAt ops j with
    | none => no env
    | some d => match look env d with
      | .bool b => match want with
        | true => brC b (yes ((d, .bool true) :: env)) (no ((d, .bool false) :: env))
        | false => brC b (no ((d, .bool true) :: env)) (yes ((d, .bool false) :: env))
      | _ => no env

theorem look_cons {env : Env} {d i : Nat} {v : Value} : look ((d, v) :: env) i = if i = d then v else look env i := by
  simp only [look]
  by_cases h : i = d
  · subst h; simp
  · have : Nat.beq i d = false := by
      cases hb : Nat.beq i d with
      | false => rfl
      | true => exact (h (Nat.eq_of_beq_eq_true hb)).elim
    simp [this, h]
theorem look_same {env : Env} {d : Nat} {v : Value} (h : look env d = v) (i : Nat) : look ((d, v) :: env) i = look env i := by
  rw [look_cons]; split
  · rename_i e; rw [e, h]
  · rfl
theorem Fits.of_look {n : Nat} {env env' : Env} {a : Act} (h : Fits n env a) (he : ∀ i, look env' i = look env i) : Fits n env' a :=
  ⟨h.size, h.defers, fun i => (h.at_ i).trans (he i).symm⟩

theorem yielded_fits {n : Nat} {env : Env} {a : Act} (h : Fits n env a) (ops : Array Oper) (j : Nat) :
    yielded ops a.tmps j = match dstAt ops j with
      | none => none
      | some d => match look env d with | .bool b => some b | _ => none := by
  unfold yielded dstAt
  rw [nth_eq, Array.getElem?_toList]
  cases hj : ops[j]? with
  | none => rfl
  | some o =>
    simp only [Option.bind_some]
    cases hd : o.dst with
    | none => rfl
    | some d =>
      simp only [Option.bind_some]
      have := h.at_ d
      rw [Array.getD_eq_getD_getElem?] at this
      cases ht : a.tmps[d]? with
      | none => rw [ht] at this; simp only [Option.getD_none] at this; rw [← this]; rfl
      | some v => rw [ht] at this; simp only [Option.getD_some] at this; rw [← this]; cases v <;> rfl

theorem gdOp_out {n : Nat} {env : Env} {a : Act} {ops : Array Oper} {o : Oper} {yes no : Env → Prop} (h : Fits n env a) (g : gdOp ops o env yes no) :
    (Region.wanted o (yielded ops a.tmps) = true ∧ ∃ env', (∀ i, look env' i = look env i) ∧ yes env') ∨
    (Region.wanted o (yielded ops a.tmps) = false ∧ ∃ env', (∀ i, look env' i = look env i) ∧ no env') := by
  unfold gdOp at g
  unfold Region.wanted
  cases hg : o.guard with
  | none => rw [hg] at g; exact .inl ⟨rfl, env, fun _ => rfl, g⟩
  | some jw =>
    obtain ⟨j, want⟩ := jw
    rw [hg] at g
    simp only [yielded_fits h]
    simp only at g
    cases hd : dstAt ops j with
    | none => rw [hd] at g; exact .inr ⟨by cases want <;> rfl, env, fun _ => rfl, g⟩
    | some d =>
      rw [hd] at g
      simp only at g ⊢
      cases hv : look env d with
      | bool b =>
        rw [hv] at g
        cases want <;> cases b
        · exact .inl ⟨rfl, _, look_same hv, g⟩
        · exact .inr ⟨rfl, _, look_same hv, g⟩
        · exact .inr ⟨rfl, _, look_same hv, g⟩
        · exact .inl ⟨rfl, _, look_same hv, g⟩
      | _ => rw [hv] at g; exact .inr ⟨by cases want <;> rfl, env, fun _ => rfl, g⟩

/-! ### a list of operations, one behind the other -/
def vcOps (P : Program) (n : Nat) (ops : Array Oper) : List Oper → Env → World → (Env → World → Prop) → Prop
  | [], env, w, K => K env w
  | o :: r, env, w, K => gdOp ops o env (fun env => vcOp P o env w fun v w' => vcOps P n ops r (putE n env o.dst v) w' K)
      (fun env => vcOps P n ops r (putE n env o.dst undef) w K)

def vcStill (P : Program) (n : Nat) (ops : Array Oper) (w : World) : List Oper → Env → (Env → Prop) → Prop
  | [], env, K => K env
  | o :: r, env, K => gdOp ops o env (fun env => rdOp P o env (some w) fun v => vcStill P n ops w r (putE n env o.dst v) K)
      (fun env => vcStill P n ops w r (putE n env o.dst undef) K)

/-- outside W the two are one. -/
def Agree (W : List Nat) (env env' : Env) : Prop := ∀ i, i ∉ W → look env' i = look env i
theorem Agree.refl (W : List Nat) (env : Env) : Agree W env env := fun _ _ => rfl
theorem Agree.same {W : List Nat} {env env' env'' : Env} (h : Agree W env env') (he : ∀ i, look env'' i = look env' i) : Agree W env env'' := fun i hi => (he i).trans (h i hi)
theorem Agree.put {W : List Nat} {env env' : Env} (h : Agree W env env') (n : Nat) {d : Option Tmp} (hd : ∀ x, d = some x → x ∈ W) (v : Value) : Agree W env (putE n env' d v) := by
  intro i hi
  cases d with
  | none => exact h i hi
  | some x =>
    have hx := hd x rfl
    simp only [putE]
    split
    · rw [look_cons, if_neg (fun e : i = x => hi (by rw [e]; exact hx))]; exact h i hi
    · exact h i hi
theorem Agree.trans {W : List Nat} {a b c : Env} (h : Agree W a b) (k : Agree W b c) : Agree W a c := fun i hi => (k i hi).trans (h i hi)
theorem Agree.mono {W W' : List Nat} {a b : Env} (h : Agree W a b) (hs : ∀ i, i ∈ W → i ∈ W') : Agree W' a b := fun i hi => h i fun hw => hi (hs i hw)

theorem vcOps_sound {P : Program} {n : Nat} {ops : Array Oper} {W : List Nat} {env0 : Env} {K : Env → World → Prop} {Q : Exit → Act → World → Prop}
    (hQ : ∀ env a w, Fits n env a → Agree W env0 env → K env w → Q .normal a w) :
    ∀ (r : List Oper) (env : Env) (a : Act) (w : World), (∀ o ∈ r, ∀ x, o.dst = some x → x ∈ W) → Fits n env a → Agree W env0 env → vcOps P n ops r env w K → wpList P ops Q r a w
  | [], env, a, w, _, hf, hag, h => hQ env a w hf hag h
  | o :: r, env, a, w, hW, hf, hag, h => by
    have hr : ∀ o' ∈ r, ∀ x, o'.dst = some x → x ∈ W := fun o' ho => hW o' (by simp [ho])
    unfold wpList
    rcases gdOp_out hf h with ⟨hw, env', he, h⟩ | ⟨hw, env', he, h⟩
    · rw [if_pos hw]
      left
      have hf' := hf.of_look he
      refine vcOp_sound h a _ Q hf'.eval_fun (fun v w' hk => ?_) hf'.defers
      exact vcOps_sound hQ r _ _ _ hr (hf'.put _ _) ((hag.same he).put n (hW o (by simp)) v) hk
    · rw [hw, if_neg (by simp)]
      have hf' := hf.of_look he
      exact vcOps_sound hQ r _ _ _ hr (hf'.put _ _) ((hag.same he).put n (hW o (by simp)) undef) h

theorem vcStill_sound {P : Program} {n : Nat} {ops : Array Oper} {w : World} {W : List Nat} {env0 : Env} {K : Env → Prop} {Q : Act → Prop}
    (hQ : ∀ env a, Fits n env a → Agree W env0 env → K env → Q a) :
    ∀ (r : List Oper) (env : Env) (a : Act), (∀ o ∈ r, ∀ x, o.dst = some x → x ∈ W) → Fits n env a → Agree W env0 env → vcStill P n ops w r env K → wpStill P ops w Q r a
  | [], env, a, _, hf, hag, h => hQ env a hf hag h
  | o :: r, env, a, hW, hf, hag, h => by
    have hr : ∀ o' ∈ r, ∀ x, o'.dst = some x → x ∈ W := fun o' ho => hW o' (by simp [ho])
    unfold wpStill
    rcases gdOp_out hf h with ⟨hw, env', he, h⟩ | ⟨hw, env', he, h⟩
    · rw [if_pos hw]
      have hf' := hf.of_look he
      obtain ⟨v, hk, hrun⟩ := rdOp_out h
      unfold Oper.still
      rw [hf'.eval_fun, hrun w rfl, Oper.stillUpon_value]
      exact vcStill_sound hQ r _ _ hr (hf'.put _ _) ((hag.same he).put n (hW o (by simp)) v) hk
    · rw [hw, if_neg (by simp)]
      have hf' := hf.of_look he
      exact vcStill_sound hQ r _ _ hr (hf'.put _ _) ((hag.same he).put n (hW o (by simp)) undef) h

/-! ### every order -/
def allC (F : Nat → Prop) : List Nat → Prop
  | [] => True
  | i :: r => F i ∧ allC F r
theorem allC_out {F : Nat → Prop} {l : List Nat} (h : allC F l) (i : Nat) (hi : i ∈ l) : F i := by
  induction l with
  | nil => cases hi
  | cons j r ih =>
    rcases List.mem_cons.1 hi with rfl | hi
    · exact h.1
    · exact ih h.2 hi

def isLoad : Op → Bool | .load .. | .lookup .. => true | _ => false
/-- a look into a map. -/
def Lks (P : Program) (t : TypeId) (m k : Value) (c : Bool) (w : World) (v : Value) : Prop := (Instr.lookup t m k c).run P w = .ok v w
/-- is there a load that need not have come up ahead of number j? -/
def needS (ops : Array Oper) (j : Nat) : Bool :=
  match nth ops.toList j with
  | none => true
  | some oj => (List.range ops.size).any fun l => match nth ops.toList l with
    | none => false
    | some ol => isLoad ol.op && (!Nat.beq l j && !(oj.after.toList.any fun e => Region.binds .any e && Nat.beq e.on l))
theorem needS_of {ops : Array Oper} {i j : Nat} {oi oj : Oper} (hi : ops[i]? = some oi) (hj : ops[j]? = some oj) (hl : isLoad oi.op = true) (hne : j ≠ i) (hno : ∀ e ∈ oj.after, Region.binds .any e = true → e.on ≠ i) : needS ops j = true := by
  unfold needS
  have hj' : nth ops.toList j = some oj := by rw [nth_eq, Array.getElem?_toList]; exact hj
  have hi' : nth ops.toList i = some oi := by rw [nth_eq, Array.getElem?_toList]; exact hi
  rw [hj']
  simp only
  rw [List.any_eq_true]
  refine ⟨i, List.mem_range.2 (Array.getElem?_eq_some_iff.1 hi).1, ?_⟩
  rw [hi']
  have h1 : Nat.beq i j = false := by
    cases hb : Nat.beq i j with
    | false => rfl
    | true => exact (hne (Nat.eq_of_beq_eq_true hb).symm).elim
  have h2 : (oj.after.toList.any fun e => Region.binds .any e && Nat.beq e.on i) = false := by
    rw [List.any_eq_false]
    intro e he hb
    rw [Bool.and_eq_true] at hb
    exact hno e (Array.mem_toList_iff.1 he) hb.1 (Nat.eq_of_beq_eq_true hb.2)
  simp [hl, h1, h2]

/-- the first of those that are ready which may go first, whatever the others do. -/
def eagerAt (ops : Array Oper) (listed : Array Bool) : List Nat → Option Nat
  | [] => none
  | i :: r => match nth ops.toList i with
    | none => eagerAt ops listed r
    | some o => match isRd o.op && Region.free .any ops listed i with
      | true => some i
      | false => eagerAt ops listed r
theorem eagerAt_out {ops : Array Oper} {listed : Array Bool} {i : Nat} : ∀ {l : List Nat}, eagerAt ops listed l = some i → i ∈ l ∧ ∃ o, ops[i]? = some o ∧ isRd o.op = true ∧ Region.free .any ops listed i = true
  | [], h => by cases h
  | j :: r, h => by
    unfold eagerAt at h
    split at h
    · have := eagerAt_out h; exact ⟨by simp [this.1], this.2⟩
    · rename_i o ho
      rw [nth_eq, Array.getElem?_toList] at ho
      split at h
      · rename_i hb
        cases h
        simp only [Bool.and_eq_true] at hb
        exact ⟨by simp, o, ho, hb.1, hb.2⟩
      · have := eagerAt_out h; exact ⟨by simp [this.1], this.2⟩

/-- what a variable of type t at an address reads as. -/
def Lds (P : Program) (t : TypeId) (w : World) (a : Addr) (v : Value) : Prop := (loadVar t a).run P w = .ok v w

/-- an operation that reads, also where S holds. -/
def rdS (P : Program) (S : World → Prop) (o : Oper) (env : Env) (w : World) (K : Value → Prop) : Prop :=
  match o.op with
  | .load t x => ptrV (ev env x) fun a => ldVC P t w a fun v => (∀ w', S w' → Lds P t w' a v) ∧ K v
  | .lookup t x i c => runR P (Instr.lookup t (ev env x) (ev env i) c) (some w) fun v => tyOf P o.type v fun v => (∀ w', S w' → Lks P t (ev env x) (ev env i) c w' v) ∧ K v
  | _ => rdOp P o env none K

theorem rdS_out {P : Program} {S : World → Prop} {o : Oper} {env : Env} {w : World} {K : Value → Prop} (h : rdS P S o env w K) :
    ∃ v, K v ∧ ∀ w', (w' = w ∨ S w') → (execOp (ev env) o).run P w' = .ok (.value v) w' := by
  unfold rdS at h
  split at h
  · rename_i t x ho
    obtain ⟨a, hx, h⟩ := ptrV_out h
    obtain ⟨v, ⟨hs, hk⟩, hr⟩ := semR_out (ldVC_sound h)
    refine ⟨v, hk, fun w' hw => ?_⟩
    have hl : (loadVar t a).run P w' = .ok v w' := by
      rcases hw with rfl | hw
      · exact hr _ rfl
      · exact hs w' hw
    simp only [execOp, ho, Instr.loadAt, hx, Instr.sureAddr]
    show (Sem.bind _ _).run P w' = _
    simp only [Sem.bind, bind, pure]
    exact (Sem.run_bind _ _ _ _).trans (by rw [hl]; rfl)
  · rename_i t x i c ho
    obtain ⟨v, hk, hr⟩ := h
    obtain ⟨hs, hk⟩ := tyOf_out hk
    refine ⟨v, hk, fun w' hw => ?_⟩
    have hl : (Instr.lookup t (ev env x) (ev env i) c).run P w' = .ok v w' := by
      rcases hw with rfl | hw
      · exact hr _ rfl
      · exact hs w' hw
    simp only [execOp, ho]
    exact (Sem.run_bind _ _ _ _).trans (by rw [hl]; rfl)
  · obtain ⟨v, hk, hr⟩ := rdOp_out h
    exact ⟨v, hk, fun w _ => hr w trivial⟩

/-- every order, and what has been read stays so. -/
def wpAnyN (P : Program) (ops : Array Oper) (Q : Exit → Act → World → Prop) (S : World → Prop) : Nat → Array Bool → Act → World → Prop
  | 0, listed, a, w => Region.ready .any ops listed = [] ∧ Q .normal a w
  | f + 1, listed, a, w => (Region.ready .any ops listed = [] → Q .normal a w) ∧
    ∀ i ∈ Region.ready .any ops listed, wpOp P ops Q i (fun a' w' => (w' = w ∨ (needS ops i = true → S w')) ∧ wpAnyN P ops Q S f (listed.setIfInBounds i true) a' w') a w
theorem wpAny_of_N {P : Program} {ops : Array Oper} {Q : Exit → Act → World → Prop} {S : World → Prop} : ∀ (f : Nat) (listed : Array Bool) (a : Act) (w : World), wpAnyN P ops Q S f listed a w → wpAny P .any ops Q f listed a w
  | 0, _, _, _, h => h
  | f + 1, listed, a, w, h => ⟨h.1, fun i hi => wpOp_mono (fun a' w' x => wpAny_of_N f _ a' w' x.2) (h.2 i hi)⟩

theorem needEq {ops : Array Oper} {i j : Nat} {oj : Oper} {listed : Array Bool} (hj : ops[j]? = some oj) (hr : j ∈ Region.ready .any ops listed) (hi : i ∈ Region.ready .any ops listed) : ∀ e ∈ oj.after, Region.binds .any e = true → e.on ≠ i := by
  obtain ⟨_, oj', hoj, hall⟩ := mem_ready.1 hr
  have : oj' = oj := Option.some.inj (hoj.symm.trans hj)
  subst this
  intro e he hb heq
  have h1 := hall e he hb
  have h0 := (mem_ready.1 hi).1
  rw [heq] at h1
  rcases Nat.lt_or_ge i listed.size with h' | h'
  · simp [h'] at h0 h1; rw [h0] at h1; cases h1
  · simp [Array.getElem?_eq_none h'] at h1

/-- one that only reads goes first. T: where its value is what it is. -/
theorem wpAnyN_first {P : Program} {ops : Array Oper} {Q : Exit → Act → World → Prop} {S T : World → Prop} {i : Nat} {oi : Oper} {v : Value} (hi : ops[i]? = some oi) (hsel : Region.noSelect ops = true)
    (hp : ∀ c a w, ¬ Q (.panic c) a w)
    (hT : ∀ (j : Nat) (oj : Oper) (w' : World), ops[j]? = some oj → j ≠ i → (∀ e ∈ oj.after, Region.binds .any e = true → e.on ≠ i) → (needS ops j = true → S w') → T w') :
    ∀ (f : Nat) (listed : Array Bool) (a : Act) (w : World), Region.free .any ops listed i = true → i ∈ Region.ready .any ops listed → YieldsIf P ops T oi v a → T w →
      wpAnyN P ops Q S f (listed.setIfInBounds i true) (a.put oi.dst v) w → wpAnyN P ops Q S (f + 1) listed a w := by
  have hs := Region.noSelect_spec hsel
  have key : ∀ (f : Nat) (listed : Array Bool) (a : Act) (w : World),
      (∀ (j : Nat) (oj : Oper), ops[j]? = some oj → j ≠ i → listed.getD j true = false → (∀ e ∈ oj.after, Region.binds .any e = true → e.on ≠ i) → oi.apart ops oj = true) →
      i ∈ Region.ready .any ops listed → YieldsIf P ops T oi v a → T w →
      wpAnyN P ops Q S f (listed.setIfInBounds i true) (a.put oi.dst v) w → wpAnyN P ops Q S (f + 1) listed a w := by
    intro f
    induction f with
    | zero =>
      intro listed a w _ hr hy hw H
      refine ⟨fun h => (by rw [h] at hr; cases hr), fun j hj => ?_⟩
      by_cases hji : j = i
      · subst hji; exact hy.wpOp hi hw ⟨.inl rfl, H⟩
      · have := ready_mono hj hji
        rw [H.1] at this
        cases this
    | succ f ih =>
      intro listed a w hfree hr hy hw H
      refine ⟨fun h => (by rw [h] at hr; cases hr), fun j hj => ?_⟩
      by_cases hji : j = i
      · subst hji; exact hy.wpOp hi hw ⟨.inl rfl, H⟩
      · have h1 := H.2 j (ready_mono hj hji)
        obtain ⟨hjun, oj, hoj, _⟩ := mem_ready.1 hj
        have hnot := needEq hoj hj hr
        have h2 := wpOp_putIf hoj (hfree j oj hoj hji hjun hnot) (fun cs b => hs i oi cs b hi) (fun cs b => hs j oj cs b hoj) (fun c a w x => (hp _ _ _ x).elim) hy h1
        have hfree' : ∀ (k : Nat) (ok : Oper), ops[k]? = some ok → k ≠ i → (listed.setIfInBounds j true).getD k true = false → (∀ e ∈ ok.after, Region.binds .any e = true → e.on ≠ i) → oi.apart ops ok = true := fun k ok hk hki hun hno => by
          refine hfree k ok hk hki ?_ hno
          by_cases hjk : j = k
          · subst hjk; exact hjun
          · rw [getD_set_ne true hjk] at hun; exact hun
        refine wpOp_mono (fun a' w' h3 => ⟨h3.2.1, ih (listed.setIfInBounds j true) a' w' hfree' (ready_mono hr (Ne.symm hji)) h3.1 ?_ ?_⟩) h2
        · exact h3.2.1.elim (fun e => e ▸ hw) (fun hn => hT j oj w' hoj hji hnot hn)
        · rw [Array.setIfInBounds_comm _ _ hji]
          exact h3.2.2
  exact fun f listed a w hfree => key f listed a w (Region.free_spec hi hfree)

def needC (b : Bool) (s K : Prop) : Prop := match b with | true => s ∧ K | false => K
theorem needC_out {b : Bool} {s K : Prop} (h : needC b s K) : (b = true → s) ∧ K := by
  cases b with
  | true => exact ⟨fun _ => h.1, h.2⟩
  | false => exact ⟨(fun e => by cases e), h⟩

def vcAny (P : Program) (n : Nat) (ops : Array Oper) (S : World → Prop) : Nat → Array Bool → Env → World → (Env → World → Prop) → Prop
  | 0, listed, env, w, K => match Region.ready .any ops listed with | [] => K env w | _ => False
  | f + 1, listed, env, w, K =>
    match Region.ready .any ops listed with
    | [] => K env w
    | rs => match eagerAt ops listed rs with
      | some i => match nth ops.toList i with
        | none => False
        | some o => gdOp ops o env (fun env => rdS P S o env w fun v => vcAny P n ops S f (listed.setIfInBounds i true) (putE n env o.dst v) w K)
            (fun env => vcAny P n ops S f (listed.setIfInBounds i true) (putE n env o.dst undef) w K)
      | none => allC (fun i => match nth ops.toList i with
        | none => False
        | some o => gdOp ops o env (fun env => vcOp P o env w fun v w' => needC (needS ops i) (S w') (vcAny P n ops S f (listed.setIfInBounds i true) (putE n env o.dst v) w' K))
            (fun env => vcAny P n ops S f (listed.setIfInBounds i true) (putE n env o.dst undef) w K)) rs

theorem vcAny_sound {P : Program} {n : Nat} {ops : Array Oper} {S : World → Prop} {W : List Nat} {env0 : Env} {K : Env → World → Prop} {Q : Exit → Act → World → Prop}
    (hsel : Region.noSelect ops = true) (hW : ∀ o ∈ ops.toList, ∀ x, o.dst = some x → x ∈ W)
    (hp : ∀ c a w, ¬ Q (.panic c) a w)
    (hQ : ∀ env a w, Fits n env a → Agree W env0 env → K env w → Q .normal a w) :
    ∀ (f : Nat) (listed : Array Bool) (env : Env) (a : Act) (w : World), Fits n env a → Agree W env0 env → vcAny P n ops S f listed env w K → wpAnyN P ops Q S f listed a w := by
  intro f
  induction f with
  | zero =>
    intro listed env a w hf hag h
    unfold vcAny at h
    split at h
    · rename_i hr; exact ⟨hr, hQ _ _ _ hf hag h⟩
    · exact h.elim
  | succ f ih =>
    intro listed env a w hf hag h
    unfold vcAny at h
    split at h
    · rename_i hr; exact ⟨fun _ => hQ _ _ _ hf hag h, by rw [hr]; simp⟩
    · rename_i hne
      split at h
      · rename_i i hi
        obtain ⟨hmem, o, ho, hrd, hfree⟩ := eagerAt_out hi
        have ho' : nth ops.toList i = some o := by rw [nth_eq, Array.getElem?_toList]; exact ho
        rw [ho'] at h
        have hmo : o ∈ ops.toList := by rw [Array.mem_toList_iff]; exact Array.mem_of_getElem? ho
        have hd : ∀ x, o.dst = some x → x ∈ W := hW o hmo
        rcases gdOp_out hf h with ⟨hw, env', he, h⟩ | ⟨hw, env', he, h⟩
        · have hf' := hf.of_look he
          obtain ⟨v, hk, hr⟩ := rdS_out h
          have hrest := ih _ _ _ _ (hf'.put o.dst v) ((hag.same he).put n hd v) hk
          by_cases hload : isLoad o.op = true
          · refine wpAnyN_first (T := fun w' => w' = w ∨ S w') ho hsel hp (fun j oj w' hj hji hno hn => .inr (hn (needS_of ho hj hload hji hno))) f listed a w hfree hmem (.inl ⟨hw, fun w' hw' => by rw [hf'.eval_fun]; exact hr w' hw'⟩) (.inl rfl) hrest
          · -- it looks at no world
            have hnd : ∀ w', (execOp (ev env') o).run P w' = .ok (.value v) w' := by
              unfold rdS at h
              split at h
              · rename_i ho2; rw [ho2] at hload; exact (hload rfl).elim
              · rename_i ho2; rw [ho2] at hload; exact (hload rfl).elim
              · obtain ⟨v2, _, hr2⟩ := rdOp_out h
                have e1 := hr w (.inl rfl)
                have e2 := hr2 w trivial
                rw [e1] at e2
                cases e2
                exact fun w' => hr2 w' trivial
            exact wpAnyN_first (T := fun _ => True) ho hsel hp (fun _ _ _ _ _ _ _ => trivial) f listed a w hfree hmem (.inl ⟨hw, fun w' _ => by rw [hf'.eval_fun]; exact hnd w'⟩) trivial hrest
        · have hf' := hf.of_look he
          exact wpAnyN_first (T := fun _ => True) ho hsel hp (fun _ _ _ _ _ _ _ => trivial) f listed a w hfree hmem (.inr ⟨hw, rfl⟩) trivial (ih _ _ _ _ (hf'.put o.dst undef) ((hag.same he).put n hd undef) h)
      · refine ⟨fun e => (hne e).elim, fun i hi => ?_⟩
        have h := allC_out h i hi
        unfold wpOp
        rw [nth_eq, Array.getElem?_toList] at h
        cases ho : ops[i]? with
        | none => rw [ho] at h; exact h.elim
        | some o =>
          rw [ho] at h
          simp only at h ⊢
          have hd : ∀ x, o.dst = some x → x ∈ W := hW o (by rw [Array.mem_toList_iff]; exact Array.mem_of_getElem? ho)
          rcases gdOp_out hf h with ⟨hw, env', he, h⟩ | ⟨hw, env', he, h⟩
          · rw [if_pos hw]
            left
            have hf' := hf.of_look he
            refine vcOp_sound h a _ Q hf'.eval_fun (fun v w' hk => ?_) hf'.defers
            obtain ⟨hn, hk⟩ := needC_out hk
            exact ⟨.inr hn, ih _ _ _ _ (hf'.put _ _) ((hag.same he).put n hd v) hk⟩
          · rw [hw, if_neg (by simp)]
            have hf' := hf.of_look he
            exact ⟨Or.inl trivial, ih _ _ _ _ (hf'.put _ _) ((hag.same he).put n hd undef) h⟩

end Go.SX
