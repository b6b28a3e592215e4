/- A law's last step: from what the engine tells of its call to the row's own words. Nothing of a program stands here. -/
import Derived.Test.YtkfbocfmiecblaaHp
import Derived.ProofKit
import Derived.Below
import Derived.ChangeSame
namespace Go.SX
open Go.RowKit Go.WideShapes Go.ChangeShapes

theorem below_of_upd {w w' : World} (u : Upd No w w') : Below w.heap.size w w' := ⟨u.os, u.tape, u.output, u.size, fun k hk => u.block k hk id⟩

/-- Nothing that was there has turned: the row's 'post'. -/
theorem post_of_upd {H : Type} {enc : TypeId × Value → H} {P : Program} {f : Func} {s : ChangeSpec} {apart fresh handsOn again : Bool} {W W' : World} {args : Array Value} {v : Value} {ds gs : List (DataW H)}
    {before pa pv : List MemPlace} (hW : DataW.Whole enc P f.params.toList s.vars apart W args.toList ds gs before) (u : Upd No W W')
    (hres : ∀ (b : Nat) (sp : Nat → Bool) (hd : Bool), DataW.TrodAll enc P W' b sp hd f.resultTypes.toList (v.resultList f.resultTypes.size) (s.fn H (ds ++ gs)).results [])
    (hargs : ∀ sp : Nat → Bool, (∀ p ∈ before, sp p.block = true) → DataW.TrodAll enc P W' 0 sp true f.params.toList args.toList (s.fn H (ds ++ gs)).args pa)
    (hvars : ∀ sp : Nat → Bool, (∀ p ∈ before, sp p.block = true) → DataW.TrodVars enc P W' sp s.vars (s.fn H (ds ++ gs)).vars pv)
    (hps : before = pa ++ pv)
    (hok : ∀ (j : Nat) (t : TypeId) (r : Value), f.resultTypes[j]? = some t → (v.resultList f.resultTypes.size)[j]? = some r → Value.okWide P W' .any 0 t r) :
    s.post enc P f apart fresh handsOn again W args v W' := by
  have hb := below_of_upd u
  have hlt : ∀ p ∈ before, p.block < W.heap.size := fun p hp => hW.lt p hp
  have hold : ∀ p ∈ before, decide (p.block < W.heap.size) = true := fun p hp => by simpa using hlt p hp
  refine ⟨ds, gs, before, [], pa, pv, hW, hres _ _ _, hargs (fun b => decide (b < W.heap.size)) hold, hvars (fun b => decide (b < W.heap.size)) hold, ?_, fun _ => ?_⟩
  · refine World.keptBut_mono (fun p hp => ⟨hp, ?_⟩) (hb.frame (· ∈ before))
    rw [hps, List.mem_append] at hp
    exact .inr hp
  · obtain ⟨_, _, _, _, _, hz, hn⟩ := hW
    have hin : ∀ p, p ∈ ([] ++ pa) ++ pv → p ∈ before := fun p hp => by rw [hps]; simpa using hp
    refine ⟨hok, _, _, ([] ++ pa) ++ pv, ⟨[] ++ pa, pv, trodAll_append (hargs _ fun _ _ => rfl) (hres _ _ _), hvars _ fun _ _ => rfl, rfl, fun b off hp => ?_, fun ha => ?_⟩, fun p hp _ => hin p hp⟩
    · rw [hb.frozen (hlt _ (hin _ hp))]
      exact hz b off (hin _ hp)
    · have hx := hn ha
      rw [hps] at hx
      simpa using hx

theorem mono_call {P : Program} {f : FuncId} {args : Array Value} {w : World} {K : Value → World → Prop} {R : Ending → World → Prop} (h : callC P f args w K) (hk : ∀ v w', K v w' → R (.returned v) w') : Calls P f args w R :=
  Calls.mono h fun e w' x => by
    cases e with
    | returned v => exact hk v w' x
    | _ => exact x.elim

end Go.SX
