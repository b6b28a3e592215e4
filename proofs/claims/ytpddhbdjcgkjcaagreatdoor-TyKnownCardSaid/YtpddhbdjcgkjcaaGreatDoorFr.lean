/- A law's last step: from what the engine tells of its call to the row's own words. Nothing of a program stands here. -/
import Derived.Test.YtpddhbdjcgkjcaaGreatDoorHp
import Derived.ProofKit
import Derived.Below
import Derived.ChangeSame
import Derived.OpenShut
import Derived.Carry
import Derived.Deep.Slices
namespace Go.SX
open Go.RowKit Go.WideShapes Go.ChangeShapes

theorem below_of_upd {w w' : World} (u : Upd No w w') : Below w.heap.size w w' := ⟨u.os, u.tape, u.output, u.size, fun k hk => u.block k hk id⟩

/-- Nothing that was there has turned: the row's 'post'. -/
theorem post_of_upd {H : Type} {enc : TypeId × Value → H} {P : Program} {f : Func} {s : ChangeSpec} {apart fresh handsOn again : Bool} {W W' : World} {args : Array Value} {v : Value} {ds gs : List (DataW H)}
    {before pa pv : List MemPlace} (hW : DataW.Whole enc P f.params.toList s.vars apart W args.toList ds gs before) (u : Upd No W W')
    (hres : ∀ (b : Nat) (sp : Nat → Bool) (hd : Bool), DataW.TrodAll enc P W' b sp hd f.resultTypes.toList (v.resultList f.resultTypes.size) (s.fn H (ds ++ gs)).results [])
    (hargs : ∀ sp : Nat → Bool, (∀ p ∈ before, sp p.block = true) → DataW.TrodAll enc P W' 0 sp true f.params.toList args.toList (s.fn H (ds ++ gs)).args pa)
    (hvars : ∀ sp : Nat → Bool, (∀ p ∈ before, sp p.block = true) → DataW.TrodVars enc P W' sp s.vars (s.fn H (ds ++ gs)).vars pv)
    (hps : before = pa ++ pv)
    (hok : ∀ (j : Nat) (t : TypeId) (r : Value), f.resultTypes[j]? = some t → (v.resultList f.resultTypes.size)[j]? = some r → Value.okWide P W' .any 0 t r) :
    s.post enc P f apart fresh handsOn again W args v W' := by
  have hb := below_of_upd u
  have hlt : ∀ p ∈ before, p.block < W.heap.size := fun p hp => hW.lt p hp
  have hold : ∀ p ∈ before, decide (p.block < W.heap.size) = true := fun p hp => by simpa using hlt p hp
  refine ⟨ds, gs, before, [], pa, pv, hW, hres _ _ _, hargs (fun b => decide (b < W.heap.size)) hold, hvars (fun b => decide (b < W.heap.size)) hold, ?_, fun _ => ?_⟩
  · refine World.keptBut_mono (fun p hp => ⟨hp, ?_⟩) (hb.frame (· ∈ before))
    rw [hps, List.mem_append] at hp
    exact .inr hp
  · obtain ⟨_, _, _, _, _, hz, hn⟩ := hW
    have hin : ∀ p, p ∈ ([] ++ pa) ++ pv → p ∈ before := fun p hp => by rw [hps]; simpa using hp
    refine ⟨hok, _, _, ([] ++ pa) ++ pv, ⟨[] ++ pa, pv, trodAll_append (hargs _ fun _ _ => rfl) (hres _ _ _), hvars _ fun _ _ => rfl, rfl, fun b off hp => ?_, fun ha => ?_⟩, fun p hp _ => hin p hp⟩
    · rw [hb.frozen (hlt _ (hin _ hp))]
      exact hz b off (hin _ hp)
    · have hx := hn ha
      rw [hps] at hx
      simpa using hx

theorem mono_call {P : Program} {f : FuncId} {args : Array Value} {w : World} {K : Value → World → Prop} {R : Ending → World → Prop} (h : callC P f args w K) (hk : ∀ v w', K v w' → R (.returned v) w') : Calls P f args w R :=
  Calls.mono h fun e w' x => by
    cases e with
    | returned v => exact hk v w' x
    | _ => exact x.elim

/-- Arguments that are only read read as they did. -/
theorem trodAll_keep {H : Type} {enc : TypeId × Value → H} {P : Program} (hl : laidOutB P = true) {W W' : World} (u : Upd No W W') {sp : Nat → Bool} : ∀ (ts : List TypeId) (vs : List Value) (ds : List (DataW H)) (ps : List MemPlace),
    (∀ t ∈ ts, P.readableRec t = true ∧ t < P.types.size) → DataW.TrodAll enc P W 0 (fun _ => true) true ts vs ds ps → (∀ x ∈ ps, x.block < W.heap.size) → (∀ x ∈ ps, sp x.block = true) →
    DataW.TrodAll enc P W' 0 sp true ts vs ds ps
  | [], vs, ds, ps, _, h, _, _ => by
    obtain ⟨rfl, rfl, rfl⟩ := trodAll_nil h
    exact trodAll_mk0
  | t :: ts, vs, ds, ps, hr, h, hlt, hsp => by
    obtain ⟨v, vs', d, ds', p, q, rfl, rfl, rfl, hd, hrest⟩ := trodAll_cons h
    obtain ⟨h1, h2⟩ := hr t (by simp)
    exact trodAll_cons_mk (WideElems.Trod_stays hl h1 h2 hd (fun x hx => (below_of_upd u).same (hlt x (by simp [hx]))) (fun x hx => hsp x (by simp [hx])))
      (trodAll_keep hl u ts vs' ds' q (fun t ht => hr t (by simp [ht])) hrest (fun x hx => hlt x (by simp [hx])) (fun x hx => hsp x (by simp [hx])))

/-- several cells, one by one. -/
theorem cells_get {w : World} {base : Nat} {a : Addr} {n : Nat} {cs : List Value} (h : w.cells? base a n = some cs) : cs.length = n ∧ ∀ j, j < n → w.cell? (a.add j) = cs[j]? := by
  unfold World.cells? at h
  split at h
  · have key : ∀ (l : List Nat) (cs : List Value), (l.mapM fun i => w.cell? (a.add i)) = some cs → cs.length = l.length ∧ ∀ j, (hj : j < l.length) → w.cell? (a.add (l[j])) = cs[j]? := by
      intro l
      induction l with
      | nil => intro cs h; simp at h; subst h; exact ⟨rfl, fun j hj => absurd hj (by simp)⟩
      | cons i l ih =>
        intro cs h
        rw [List.mapM_cons] at h
        cases hv : w.cell? (a.add i) with
        | none => rw [hv] at h; cases h
        | some v =>
          rw [hv] at h
          cases hr : l.mapM fun i => w.cell? (a.add i) with
          | none => rw [show (some v >>= fun v => (l.mapM fun i => w.cell? (a.add i)) >>= fun r => pure (v :: r)) = ((l.mapM fun i => w.cell? (a.add i)) >>= fun r => pure (v :: r)) from rfl, hr] at h; cases h
          | some r =>
            rw [show (some v >>= fun v => (l.mapM fun i => w.cell? (a.add i)) >>= fun r => pure (v :: r)) = ((l.mapM fun i => w.cell? (a.add i)) >>= fun r => pure (v :: r)) from rfl, hr] at h
            cases h
            obtain ⟨h1, h2⟩ := ih r hr
            refine ⟨by simp [h1], fun j hj => ?_⟩
            cases j with
            | zero => simpa using hv
            | succ j => simpa using h2 j (by simpa using hj)
    obtain ⟨h1, h2⟩ := key _ _ h
    refine ⟨by simpa using h1, fun j hj => ?_⟩
    have := h2 j (by simpa using hj)
    simpa using this
  · cases h

theorem wf_bounds {k : IntKind} {n : Int} (h : (Lit.int k n).wf = true) : k.min ≤ n ∧ n ≤ k.max := by
  simp [Lit.wf] at h
  exact h

end Go.SX
