/- Joined by program of: Ne, Cut, Ni. -/
import Derived.Test.YtdbkclnlfibgdaaGreatDoorEa
import Derived.RangeFuncLeaves
import Derived.RangeFuncOwn
import Derived.RangeFuncSeq
import Derived.Calls
import Derived.RangeFuncCalls
set_option maxRecDepth 100000
set_option maxHeartbeats 4000000
namespace Go.SX
open Go.RowKit
def WpAt (P : Program) (b : Frame) (c : Code) (Q : Exit -> Act -> WP) (a : Act) (w : World) : Prop :=
  ∀ (k : List Item) (cs : List Frame), ∃ e a' w', Q e a' w' /\ ArrivesIn (Machine.fenced P Fence.wide) P (lone (b.atR a (.code c :: k)) cs w) b k cs e a' w'
def goesOn (N : Act -> WP) (Q : Exit -> Act -> WP) : Exit -> Act -> World -> Prop
  | .normal, a, w => N a w
  | .ret, a, w => Q .ret a w
  | .panic ch, a, w => Q (.panic ch) a w
  | _, _, _ => False
section
variable {P : Program} {b : Frame} {Q : Exit -> Act -> WP} {a : Act} {w : World}
theorem wpAt_of {n : Nat} {c : Code} (hb : b.roundOf = none) (h : c.wpIn Fence.wide n P Q a w) : WpAt P b c Q a w := fun k cs => h b k cs hb trivial (room_wide _)
theorem wide1 {m m' : Machine} (h : step P m = .next m') : StepsIn (Machine.fenced P Fence.wide) P m m' := .one (fenced_wide P m) h
theorem wpAt_seq {x y : Code} (hb : b.roundOf = none) (h : WpAt P b x (goesOn (fun a w => WpAt P b y Q a w) Q) a w) : WpAt P b (.seq x y) Q a w := by
  intro k cs; obtain ⟨e, a1, w1, hq, harr⟩ := h (.code y :: k) cs; have s0 := wide1 (stepR_seq (P := P) (b := b) (a := a) (x := x) (y := y) (k := k) (cs := cs) (w := w))
  cases e with
  | normal =>
    obtain ⟨e2, a2, w2, q2, arr2⟩ := hq k cs; exact ⟨e2, a2, w2, q2, .of_steps (s0.trans harr) arr2⟩
  | panic ch => exact ⟨.panic ch, a1, w1, hq, let ⟨todo, s⟩ := harr; ⟨todo, s0.trans s⟩⟩
  | ret => exact ⟨.ret, a1, w1, hq, fun h => let ⟨todo, s⟩ := harr.1 h; ⟨todo, s0.trans s⟩, fun h => by rw [hb] at h; cases h⟩
  | _ => exact hq.elim
theorem wpAt_block {id : Nat} {c : Code} (hb : b.roundOf = none) (h : WpAt P b c (goesOn (Q .normal) Q) a w) : WpAt P b (.block id c) Q a w := by
  intro k cs; obtain ⟨e, a1, w1, hq, harr⟩ := h (.inBlock id :: k) cs; have s0 := wide1 (stepR_block (P := P) (b := b) (a := a) (id := id) (c := c) (k := k) (cs := cs) (w := w))
  cases e with
  | normal => exact ⟨.normal, a1, w1, hq, (s0.trans harr).trans (wide1 stepR_inBlock)⟩
  | panic ch => exact ⟨.panic ch, a1, w1, hq, let ⟨todo, s⟩ := harr; ⟨todo, s0.trans s⟩⟩
  | ret => exact ⟨.ret, a1, w1, hq, fun h => let ⟨todo, s⟩ := harr.1 h; ⟨todo, s0.trans s⟩, fun h => by rw [hb] at h; cases h⟩
  | _ => exact hq.elim
theorem wpAt_mono {c : Code} {Q' : Exit -> Act -> WP} (h : WpAt P b c Q a w) (hq : ∀ e a w, Q e a w -> Q' e a w) : WpAt P b c Q' a w :=
  fun k cs => let ⟨e, a', w', q, r⟩ := h k cs; ⟨e, a', w', hq _ _ _ q, r⟩
def roundPX (P : Program) (l : Nat) (R : Ending -> WP) : Exit -> Act -> World -> Prop
  | .normal, _, w => ∃ v w', (Instr.endRound l none).run P w = .ok v w' /\ R (.returned v) w'
  | .panic chain, a, w => a.defers = [] /\ R (.panicked chain) w
  | _, _, _ => False
theorem roundX {n l : Nat} {f : FuncId} {fn : Func} {tmps : Array Value} {assign body : Code} {w : World} {R : Ending -> WP} (hf : P.funcs[f]? = some fn)
    (h : assign.wpIn (Fence.wide.inRound l) n P (Exit.then (fun a₁ w₁ => ∃ w₂, (Instr.beginRound l).run P w₁ = .ok () w₂ /\ body.wpIn (Fence.wide.inRound l) n P (roundPX P l R) a₁ w₂) fun _ _ _ => False) { tmps := tmps, defers := [] } w) :
    RoundIn Fence.wide n P l f tmps assign body w R := by
  refine ⟨trivial, fun c cs hr => ?_⟩
  let b : Frame := { (default : Frame) with fn := f, kind := .normal, roundOf := some l }
  have hb0 : Frame.round l f tmps assign body .normal = b.atR { tmps := tmps, defers := [] } [.code assign, .beginRound, .code body] := by simp [Frame.round, Frame.atR, b]
  have hr' : (Fence.wide.inRound l).room ((c :: cs).length + 1 + n) := hr; obtain ⟨e, a1, w1, hq, harr⟩ := h b [.beginRound, .code body] (c :: cs) rfl trivial hr'; rw [<- hb0] at harr
  cases e with
  | normal =>
    obtain ⟨w2, hbr, hbody⟩ := hq; have s1 : StepsIn (Machine.fenced P Fence.wide) P (lone (b.atR a1 [.beginRound, .code body]) (c :: cs) w1) (lone (b.atR a1 [.code body]) (c :: cs) w2) := wide1 (stepR_beginRound rfl hbr); obtain ⟨e2, a2, w3, hq2, harr2⟩ := hbody b [] (c :: cs) rfl trivial hr'; have s2 : StepsIn (Machine.fenced P Fence.wide) P (lone (Frame.round l f tmps assign body .normal) (c :: cs) w) (lone (b.atR a1 [.code body]) (c :: cs) w2) := StepsIn.trans (show StepsIn (Machine.fenced P Fence.wide) P _ _ from harr) s1
    cases e2 with
    | normal =>
      obtain ⟨v, w4, hend, hR⟩ := hq2; exact ⟨.returned v, w4, hR, s2.trans (StepsIn.trans (show StepsIn (Machine.fenced P Fence.wide) P _ _ from harr2) (wide1 (stepR_round_end rfl rfl hend)))⟩
    | panic chain =>
      obtain ⟨hd, hR⟩ := hq2; obtain ⟨todo, s3⟩ := harr2; have hl : Frame.leaving P { b.atR a2 todo with mode := .panicking chain } w3 (.panicked chain) := ⟨rfl, hd, fn, hf⟩; exact ⟨.panicked chain, w3, hR, s2.trans (StepsIn.trans (show StepsIn (Machine.fenced P Fence.wide) P _ _ from s3) (wide1 (step_leave_panicked hl)))⟩
    | _ => exact hq2.elim
  | _ => exact hq.elim
theorem rangeX {g : Operand} {ps : Array Tmp} {assign body : Code} {gf : Nat} {lb : Array Value} {K R : KV} (hro : b.roundOf = none) (hg : a.eval g = .func (.func gf) #[] lb) (eg : ∀ args w, (callFunc gf args).run P w = .ok (.enter gf args) w)
    (h : ∀ (rec : LoopState -> Option Code -> Loop), (rec = fun st pe => { state := st, pending := pe, fn := b.fn, tmps := a.tmps, params := ps, assign, body, defers := w.heap.size }) ->
      callX P gf (#[.func (.yield (w.heap.size + 1)) #[] #[]] ++ lb) ((w.alloc (.deferred (some []))).alloc (.loop (rec .ready none)))
        (fun _ w' => w'.heap[w.heap.size + 1]? = some (.loop (rec .ready none)) /\ Q .normal { a with defers := { target := .collected w.heap.size, args := #[] } :: a.defers } (w'.putObj (w.heap.size + 1) (.loop (rec .exhausted none))))
        fun v w' => Q (.panic [{ v, recovered := false }]) { a with defers := { target := .collected w.heap.size, args := #[] } :: a.defers } w') :
    WpAt P b (.rangeFunc g ps assign body) Q a w := by
  intro k cs; obtain ⟨rec, hrec⟩ : ∃ rec : LoopState -> Option Code -> Loop, rec = fun st pe => { state := st, pending := pe, fn := b.fn, tmps := a.tmps, params := ps, assign, body, defers := w.heap.size } := ⟨_, rfl⟩
  have he : (Instr.enterLoop b.fn a.tmps ps assign body b.roundOf).run P w = .ok (w.heap.size + 1, [{ target := .collected w.heap.size, args := #[] }]) ((w.alloc (.deferred (some []))).alloc (.loop (rec .ready none))) := by
    rw [hro, hrec]; exact run_enterLoop_outer _ _ _ _ _
  generalize hW : (w.alloc (.deferred (some []))).alloc (.loop (rec .ready none)) = W at he
  have hres : (resolve a.eval (rangeCall g (w.heap.size + 1)) 0).run P W = .ok { target := .fn (.func gf) lb, args := #[.func (.yield (w.heap.size + 1)) #[] #[]] } W := by
    simp only [resolve, hg]; simp [go_sem]
  have hinv : (invoke (.fn (.func gf) lb) #[.func (.yield (w.heap.size + 1)) #[] #[]]).run P W = .ok (.enter gf (#[.func (.yield (w.heap.size + 1)) #[] #[]] ++ lb)) W := by simp [invoke, go_sem, eg]
  have s0 := wide1 (stepR_rangeFunc (P := P) (b := b) (a := a) (k := k) (cs := cs) (w := w) he hres hinv); have hc := h rec hrec; rw [hW] at hc; obtain ⟨e, w3, fr, hR, hcomes, _, hleave⟩ := hc (b.atR { a with defers := [{ target := .collected w.heap.size, args := #[] }] ++ a.defers } (.inRangeFunc (w.heap.size + 1) :: k) :: cs)
  cases e with
  | returned v =>
    obtain ⟨hl, hq⟩ := hR
    have hend : (Instr.endLoop (w.heap.size + 1)).run P w3 = .ok none (w3.putObj (w.heap.size + 1) (.loop (rec .exhausted none))) := by
      have := run_endLoop (P := P) hl (by rw [hrec]; simp); rw [hrec] at this ⊢; exact this
    refine ⟨.normal, _, _, hq, s0.trans ((stepsIn_wide.2 hcomes).trans ((wide1 ?_).trans (wide1 (stepR_endRangeFunc hend))))⟩; rw [<- finish_atR_inRangeFunc (w.heap.size + 1) v]; exact step_leave_returned hleave
  | panicked chain =>
    obtain ⟨v, rfl, hq⟩ := panK_out hR; refine ⟨.panic _, _, w3, hq, .inRangeFunc (w.heap.size + 1) :: k, s0.trans ((stepsIn_wide.2 hcomes).trans (wide1 ?_))⟩; rw [<- Frame.raise_atR]; exact step_leave_panicked hleave
  | outgrown => exact hR.elim
def pastMark (P : Program) (fn : Func) (R : Ending -> WP) (a : Act) (u : FrameMode) (w : World) : Prop :=
  ∃ r w' ds, a.defers = { target := .collected r, args := #[] } :: ds /\ (Instr.takeDeferred r).run P w = .ok [] w' /\ Leaves P fn a.tmps R ds u w'
def postM (P : Program) (fn : Func) (R : Ending -> WP) : Exit -> Act -> World -> Prop
  | .normal, a, w | .ret, a, w => pastMark P fn R a .returning w
  | .panic chain, a, w => pastMark P fn R a (.panicking chain) w
  | _, _, _ => False
theorem past_steps {fn : Func} {R : Ending -> WP} {u : FrameMode} {w : World} {fr : Frame} {cs : List Frame} (hu : fr.mode = u) (hrun : u ≠ .run) (hd : fr.defers = a.defers) (ht : fr.tmps = a.tmps) (hf : P.funcs[fr.fn]? = some fn) (hk : fr.kind = .normal) (h : pastMark P fn R a u w) :
    ∃ e w' fr', R e w' /\ Comes P (lone fr cs w) (lone fr' cs w') e /\ fr'.fn = fr.fn /\ fr'.leaving P w' e := by
  obtain ⟨r, w1, ds, e1, htake, hl⟩ := h; have h1 := step_collected (P := P) (cs := cs) (fr := fr) (w := w) (by rw [hu]; exact hrun) (hd.trans e1) rfl htake; obtain ⟨e, w', fr', hR, hs, hfn, hlv⟩ := leaves_steps ds u w1 { fr with defers := [] ++ ds } cs hu rfl ht hf hk hl; exact ⟨e, w', fr', hR, Comes.of_steps (.one h1) hs, hfn, hlv⟩
theorem callX_of_mark {f : FuncId} {fn : Func} {c : Code} {args : Array Value} {w : World} {K R : KV} (hf : P.funcs[f]? = some fn) (hc : fn.body = some c)
    (h : ∀ b : Frame, b.fn = f -> b.roundOf = none -> WpAt P b c (postM P fn (endK K R)) { tmps := args ++ Array.replicate (fn.ntmps - args.size) undef, defers := [] } w) : callX P f args w K R := by
  intro cs
  let b : Frame := { (default : Frame) with fn := f, kind := .normal, roundOf := none }
  have henter : Frame.enter P f args .normal = b.atR { tmps := args ++ Array.replicate (fn.ntmps - args.size) undef, defers := [] } [.code c] := by simp [Frame.enter, Frame.atR, hf, hc, b]
  obtain ⟨e, a', w', hq, harr⟩ := h b rfl rfl [] cs; rw [<- henter] at harr
  cases e with
  | normal =>
    obtain ⟨e', w'', fr', hR, hs, hfn, hl⟩ := past_steps (P := P) (fr := { b.atR a' [] with mode := .returning }) (cs := cs) rfl (by simp) rfl rfl hf rfl hq; exact ⟨e', w'', fr', hR, Comes.of_steps ((stepsIn_wide.1 harr).trans (.one (stepR_end rfl))) hs, hfn, hl⟩
  | ret =>
    obtain ⟨todo, hs0⟩ := harr.1 rfl; obtain ⟨e', w'', fr', hR, hs, hfn, hl⟩ := past_steps (P := P) (fr := { b.atR a' todo with mode := .returning }) (cs := cs) rfl (by simp) rfl rfl hf rfl hq; exact ⟨e', w'', fr', hR, Comes.of_steps (stepsIn_wide.1 hs0) hs, hfn, hl⟩
  | panic chain =>
    obtain ⟨todo, hs0⟩ := harr; obtain ⟨e', w'', fr', hR, hs, hfn, hl⟩ := past_steps (P := P) (fr := { b.atR a' todo with mode := .panicking chain }) (cs := cs) rfl (by simp) rfl rfl hf rfl hq; exact ⟨e', w'', fr', hR, Comes.of_steps (stepsIn_wide.1 hs0) hs, hfn, hl⟩
  | _ => exact hq.elim
end
end Go.SX
namespace Go.SX
def roundC : Code -> Option Code
  | .rangeFunc _ _ a b => some (.seq a b)
  | .seq x y => (match roundC x with | some c => some c | none => roundC y)
  | .block _ c => roundC c
  | _ => none
def bodyC (o : Option Code) : Code := match o with
  | some c => (match roundC c with | some (.seq _ b) => b | _ => .skip)
  | none => .skip
def afterC : Code -> Option Code
  | .seq x y => (match roundC x with | some _ => some y | none => afterC y)
  | .block _ c => afterC c
  | _ => none
def cutF (fn : Func) (g : Code -> Option Code) : Func := { fn with body := (match fn.body with | some c => g c | none => none), results := #[] }
end Go.SX
namespace Go.SX
open Go.RowKit
def noDefer (o : Oper) : Bool := match o.op with | .defer _ => false | _ => true
def plainR : Code -> Bool
  | .skip => true
  | .exit _ => true
  | .region _ ops draw => !draw && ops.toList.all noDefer
  | .seq x y => plainR x && plainR y
  | .cond _ x y => plainR x && plainR y
  | .block _ x => plainR x
  | _ => false
theorem opInR {P : Program} {o : Oper} {a : Act} {w : World} {next : Act -> WP} {Q : Exit -> Act -> WP} {n l : Nat} (hd : noDefer o = true) (h : o.wp P a w next Q) : o.wpIn (Fence.wide.inRound l) n P a w next Q := by
  refine ⟨fun _ _ => trivial, ?_⟩; have e : o.semAt (Fence.wide.inRound l).round a.eval = execOp a.eval o := Oper.semAt_some l _ o fun c hc => by unfold noDefer at hd; rw [hc] at hd; cases hd
  rw [e]; unfold Oper.wp at h; revert h
  cases (execOp a.eval o).run P w with
  | halt x w' => cases x <;> exact fun h => h
  | ok x w' =>
    cases x with
    | enter f args => exact fun h => ⟨(fun e => by cases e), CallsIn.inRound l (callsIn_wide.2 h)⟩
    | row r args => exact fun h => ⟨(fun e => by cases e), fun c cs _ => let ⟨v, w', k, s⟩ := h c cs; ⟨v, w', k, stepsIn_wide.2 s⟩⟩
    | value v => exact fun h => h
    | skip => exact fun h => h
    | defer d => exact fun h => h
    | _ => exact fun h => h.elim
theorem opsR_sound {P : Program} {px : Px} {R : KV} {n l : Nat} {D : List Deferred} {ops : Array Oper} {W : List Nat} {env0 : Env} {K : Env -> WP} {Q : Exit -> Act -> WP}
    (hQ : ∀ env a w, Fits n D env a -> Agree W env0 env -> K env w -> Q .normal a w) (hP : ∀ v a w, Keeps n D W env0 a -> R v w -> Q (.panic [{ v, recovered := false }]) a w) :
    ∀ (r : List Oper) (env : Env) (a : Act) (w : World), r.all noDefer = true -> (∀ o ∈ r, ∀ x, o.dst = some x -> x ∈ W) -> Fits n D env a -> Agree W env0 env -> vcOps P px R n ops r env w K -> wpListIn (Fence.wide.inRound l) 0 P ops Q r a w
  | [], env, a, w, _, _, hf, hag, h => hQ env a w hf hag h
  | o :: r, env, a, w, hd, hW, hf, hag, h => by
    have hr : ∀ o' ∈ r, ∀ x, o'.dst = some x -> x ∈ W := fun o' ho => hW o' (by simp [ho]); rw [List.all_cons, Bool.and_eq_true] at hd; unfold wpListIn; rcases gdOp_out hf h with ⟨hw, env', he, h⟩ | ⟨hw, env', he, h⟩
    . rw [if_pos hw]; have hf' := hf.of_look he; refine opInR hd.1 (vcOp_sound h a _ Q hf'.eval_fun (fun v w' hk => ?_) fun v w' hk => hP v a w' (Keeps.of_fits hf hag) hk); exact opsR_sound hQ hP r _ _ _ hd.2 hr (hf'.put _ _) ((hag.same he).put n (hW o (by simp)) v) hk
    . rw [hw, if_neg (by simp)]; have hf' := hf.of_look he; exact ⟨fun _ _ => trivial, opsR_sound hQ hP r _ _ _ hd.2 hr (hf'.put _ _) ((hag.same he).put n (hW o (by simp)) undef) h⟩
def nr (Q : X -> Env -> WP) : X -> Env -> World -> Prop := fun x env w => x ≠ .ret /\ Q x env w
theorem vcR_sound {P : Program} {px : Px} {R : KV} {n l : Nat} {D : List Deferred} {ann : Ann} (hm : ann.modes = []) : ∀ (c : Code) (env : Env) (a : Act) (w : World) (Q : X -> Env -> WP), plainR c = true -> Fits n D env a -> vc P px R n ann c env w Q -> c.wpIn (Fence.wide.inRound l) 0 P (Lift n D (writes c) env R (nr Q)) a w := by
  intro c
  induction c with
  | skip => intro env a w Q _ hf h; exact wpIn_skip (.inl ⟨.normal, env, rfl, hf, Agree.refl _ _, by simp, h⟩)
  | exit id => intro env a w Q _ hf h; exact wpIn_exit (.inl ⟨.exit id, env, rfl, hf, Agree.refl _ _, by simp, h⟩)
  | region id ops draw =>
    intro env a w Q hp hf h; have hW : ∀ o ∈ ops.toList, ∀ x, o.dst = some x -> x ∈ writes (.region id ops draw) := fun o ho x hx => mem_dstsOf ho hx; unfold plainR at hp; rw [Bool.and_eq_true] at hp
    cases draw with
    | true => cases hp.1
    | false =>
      unfold vc at h; have hfind : find ann.modes id = none := by rw [hm]; rfl
      simp only [hfind] at h; exact wpIn_region_list (opsR_sound (W := writes (.region id ops false)) (env0 := env) (fun env' a' w' hf' hag' h' => .inl ⟨.normal, env', rfl, hf', hag', by simp, h'⟩) (fun v a w hkp hr => .inr ⟨v, rfl, hkp, hr⟩) _ env a w hp.2 hW hf (Agree.refl _ _) h)
  | seq x y ihx ihy =>
    intro env a w Q hp hf h; unfold plainR at hp; rw [Bool.and_eq_true] at hp; refine wpIn_seq ?_; have hl : ∀ i, i ∈ writes x -> i ∈ writes (.seq x y) := fun i hi => List.mem_append_left _ hi; have hr : ∀ i, i ∈ writes y -> i ∈ writes (.seq x y) := fun i hi => List.mem_append_right _ hi; unfold vc at h; split at h
    . refine Code.wpIn_mono ?_ (ihx env a w _ hp.1 hf h); rintro e a' w' (⟨e', env', rfl, hf', hag', hq1, hq⟩ | ⟨v, rfl, hkp, hr⟩)
      . cases e' with
        | normal => exact Code.wpIn_mono (fun e2 a2 w2 h2 => h2.mono hr (hag'.mono hl)) (ihy env' a' w' Q hp.2 hf' hq)
        | exit id => exact .inl ⟨.exit id, env', rfl, hf', hag'.mono hl, by simp, hq⟩
        | ret => exact (hq1 rfl).elim
      . exact .inr ⟨v, rfl, hkp.mono hl, hr⟩
    . rename_i l _; obtain ⟨J, hJ, h⟩ := h; refine Code.wpIn_mono ?_ (ihx env a w _ hp.1 hf h); rintro e a' w' (⟨e', env', rfl, hf', hag', hq1, hq⟩ | ⟨v, rfl, hkp, hr⟩)
      . cases e' with
        | normal =>
          have hrest := Tele.use hJ hq fun i => look env' i; have hlook := fits_join l hf' hag'; exact Code.wpIn_mono (fun e2 a2 w2 h2 => h2.mono hr ((hag'.mono hl).same hlook)) (ihy _ a' w' Q hp.2 (hf'.of_look hlook) hrest)
        | exit id => exact .inl ⟨.exit id, env', rfl, hf', hag'.mono hl, by simp, hq⟩
        | ret => exact (hq1 rfl).elim
      . exact .inr ⟨v, rfl, hkp.mono hl, hr⟩
  | cond c x y ihx ihy =>
    intro env a w Q hp hf h; unfold plainR at hp; rw [Bool.and_eq_true] at hp; have hl : ∀ i, i ∈ writes x -> i ∈ writes (.cond c x y) := fun i hi => List.mem_append_left _ hi; have hr : ∀ i, i ∈ writes y -> i ∈ writes (.cond c x y) := fun i hi => List.mem_append_right _ hi; unfold vc at h; split at h
    . rename_i t ht; have he : a.eval c = .bool t := (hf.eval c).trans ht; refine wpIn_cond he ?_
      cases t with
      | true => exact Code.wpIn_mono (fun e2 a2 w2 h2 => h2.mono hl fun i _ => look_sub ht i) (ihx _ a w Q hp.1 (hf.of_look (look_sub ht)) h)
      | false => exact Code.wpIn_mono (fun e2 a2 w2 h2 => h2.mono hr fun i _ => look_sub ht i) (ihy _ a w Q hp.2 (hf.of_look (look_sub ht)) h)
    . exact h.elim
  | block id b ih =>
    intro env a w Q hp hf h; refine wpIn_block ?_; refine Code.wpIn_mono ?_ (ih env a w _ hp hf h); rintro e a' w' (⟨e', env', rfl, hf', hag', hq1, hq⟩ | ⟨v, rfl, hkp, hr⟩)
    . cases e' with
      | normal => exact .inl ⟨.normal, env', rfl, hf', hag', by simp, hq⟩
      | ret => exact (hq1 rfl).elim
      | exit id' =>
        simp only at hq; show (if id' = id then Lift n D (writes (Code.block id b)) env R (nr Q) Exit.normal a' w' else Lift n D (writes (Code.block id b)) env R (nr Q) (Exit.exit id') a' w')
        cases hb : Nat.beq id' id with
        | true => rw [hb] at hq; rw [if_pos (Nat.eq_of_beq_eq_true hb)]; exact .inl ⟨.normal, env', rfl, hf', hag', by simp, hq⟩
        | false =>
          rw [hb] at hq; rw [if_neg (fun e : id' = id => by rw [e] at hb; simp at hb)]; exact .inl ⟨.exit id', env', rfl, hf', hag', by simp, hq⟩
    . exact .inr ⟨v, rfl, hkp, hr⟩
  | _ => intro env a w Q hp hf h; cases hp
theorem round_of_vc {P : Program} {f : FuncId} {fn : Func} {tmps : Array Value} {l id d s n : Nat} {ty : TypeId} {pos : String} {body : Code} {px : Px} {ann : Ann} {w : World} {RR : Ending -> WP} {Rp : KV} {env : Env} {r : Loop} (hf : P.funcs[f]? = some fn)
    (hm : ann.modes = []) (hp : plainR body = true) (hfit : Fits n [] env { tmps := tmps, defers := [] }) (hl : w.heap[l]? = some (.loop r)) (hr : r.state = .ready)
    (h : vc P px Rp n ann body (putE n env (some d) (look env s)) (w.putObj l (.loop { r with state := .busy })) fun x _ w' => match x with
      | .exit _ => False
      | _ => ∃ r', w'.heap[l]? = some (.loop r') /\ RR (.returned (.bool true)) (w'.putObj l (.loop { r' with state := .ready, pending := none })))
    (hR : ∀ v w, Rp v w -> RR (.panicked [{ v, recovered := false }]) w) :
    RoundIn Fence.wide 0 P l f tmps (.region id #[⟨some d, .assign (.tmp s), ty, pos, #[], none⟩] false) body w RR := by
  refine roundX hf ?_
  have ha : vc P px (fun _ _ => False) n ann (.region id #[⟨some d, .assign (.tmp s), ty, pos, #[], none⟩] false) env w (fun x env' w' => x = .normal /\ env' = putE n env (some d) (look env s) /\ w' = w) := by
    unfold vc; have hfind : find ann.modes id = none := by rw [hm]; rfl
    simp only [hfind]; exact ⟨trivial, rfl, rfl⟩
  refine Code.wpIn_mono ?_ (vcR_sound (l := l) (D := []) hm _ env _ w _ rfl hfit ha); rintro e a' w' (⟨e', env', rfl, hf', hag', hq1, rfl, rfl, rfl⟩ | ⟨v, rfl, hkp, hr⟩)
  . refine ⟨_, run_beginRound hl hr, ?_⟩; refine Code.wpIn_mono ?_ (vcR_sound (l := l) hm body _ _ _ _ hp hf' h); rintro e2 a2 w2 (⟨e3, env2, rfl, hf2, hag2, hq2, hq3⟩ | ⟨v, rfl, hkp, hr⟩)
    . cases e3 with
      | normal =>
        obtain ⟨r', hl', hRR⟩ := hq3; exact ⟨_, _, run_endRound none hl', by simpa using hRR⟩
      | ret => exact (hq2 rfl).elim
      | exit id => exact hq3.elim
    . exact ⟨hkp.defers, hR v w2 hr⟩
  . exact hr.elim
theorem vc_assign {P : Program} {px : Px} {R : KV} {n id d s : Nat} {ty : TypeId} {pos : String} {ann : Ann} {c : Code} {env : Env} {w : World} {Q : X -> Env -> WP} (hm : ann.modes = []) (hj : (match keyOf c with | some k => find ann.joins k | none => none) = none)
    (h : vc P px R n ann (.seq (.region id #[⟨some d, .assign (.tmp s), ty, pos, #[], none⟩] false) c) env w Q) : vc P px R n ann c (putE n env (some d) (look env s)) w Q := by
  have hfind : find ann.modes id = none := by rw [hm]; rfl
  unfold vc at h; split at h
  . unfold vc at h; simp only [hfind] at h; exact h
  . rename_i l hl; have h2 : (none : Option (List (Nat × Kind))) = some l := hj.symm.trans hl; cases h2
theorem atVc {P : Program} {px : Px} {R : KV} {n : Nat} {D : List Deferred} {ann : Ann} {b : Frame} {c : Code} {env : Env} {a : Act} {w : World} {Q : X -> Env -> WP} (hb : b.roundOf = none) (hf : Fits n D env a) (h : vc P px R n ann c env w Q) : WpAt P b c (Lift n D (writes c) env R Q) a w :=
  wpAt_of (n := 0) hb (wpIn_wide.2 (vc_sound c env a w Q hf h))
theorem atVcD {P : Program} {px : Px} {n : Nat} {ann : Ann} {rs : List Nat} {R1 : KV} {R2 : Env -> Deferred -> KV} {b : Frame} {c : Code} {env : Env} {a : Act} {w : World} {Q1 : X -> Env -> WP} {Q2 : Env -> Deferred -> X -> Env -> WP} (hb : b.roundOf = none)
    (hf : Fits n [] env a) (h : vcD P px n ann rs R1 R2 c env w Q1 Q2) : WpAt P b c (Lift2 n (writes c) rs env R1 R2 Q1 Q2) a w :=
  wpAt_of (n := 0) hb (wpIn_wide.2 (vcD_sound c env a w Q1 Q2 hf h))
theorem vcFunX_out {P : Program} {ann : Ann} {px : Px} {fn : Func} {g : Code -> Option Code} {c : Code} {args : List Value} {w : World} {K R : KV} (hc : (match fn.body with | some c => g c | none => none) = some c) (h : vcFunX P ann px (cutF fn g) args w K R) :
    vc P px R (max args.length fn.ntmps) ann c (argE args 0) w (fun x _ w => match x with | .exit _ => False | _ => K (.tuple #[]) w) := by
  unfold vcFunX at h; have hb : (cutF fn g).body = some c := hc; rw [hb] at h; exact h
end Go.SX
