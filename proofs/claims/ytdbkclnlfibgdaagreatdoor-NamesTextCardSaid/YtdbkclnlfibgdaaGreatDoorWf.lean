/- Joined by program of: Fr, Nl, Nm. -/
import Derived.Test.YtdbkclnlfibgdaaGreatDoorWa
import Derived.ProofKit
import Derived.Below
import Derived.ChangeSame
import Derived.OpenShut
import Derived.Carry
import Derived.Deep.Slices
import Derived.Test.YtdbkclnlfibgdaaGreatDoorWe
import Derived.Test.YtdbkclnlfibgdaaGreatDoorTie
import Derived.Test.YtdbkclnlfibgdaaGreatDoorCards
import Derived.LaidMore
import Derived.Lay
import Derived.LaidSub
import Derived.SevenTiedAt
import Derived.Stop.Joined
import Derived.Lib.LaidTab
set_option maxRecDepth 100000
set_option maxHeartbeats 4000000
namespace Go.SX
open Go.RowKit Go.WideShapes Go.ChangeShapes
theorem below_of_upd {w w' : World} (u : Upd No w w') : Below w.heap.size w w' := ⟨u.os, u.tape, u.output, u.size, fun k hk => u.block k hk id⟩
theorem post_of_upd {H : Type} {enc : TypeId × Value -> H} {P : Program} {f : Func} {s : ChangeSpec} {apart fresh handsOn again : Bool} {W W' : World} {args : Array Value} {v : Value} {ds gs : List (DataW H)}
    {before pa pv : List MemPlace} (hW : DataW.Whole enc P f.params.toList s.vars apart W args.toList ds gs before) (u : Upd No W W')
    (hres : ∀ (b : Nat) (sp : Nat -> Bool) (hd : Bool), DataW.TrodAll enc P W' b sp hd f.resultTypes.toList (v.resultList f.resultTypes.size) (s.fn H (ds ++ gs)).results [])
    (hargs : ∀ sp : Nat -> Bool, (∀ p ∈ before, sp p.block = true) -> DataW.TrodAll enc P W' 0 sp true f.params.toList args.toList (s.fn H (ds ++ gs)).args pa)
    (hvars : ∀ sp : Nat -> Bool, (∀ p ∈ before, sp p.block = true) -> DataW.TrodVars enc P W' sp s.vars (s.fn H (ds ++ gs)).vars pv)
    (hps : before = pa ++ pv)
    (hok : ∀ (j : Nat) (t : TypeId) (r : Value), f.resultTypes[j]? = some t -> (v.resultList f.resultTypes.size)[j]? = some r -> Value.okWide P W' .any 0 t r) :
    s.post enc P f apart fresh handsOn again W args v W' := by
  have hb := below_of_upd u; have hlt : ∀ p ∈ before, p.block < W.heap.size := fun p hp => hW.lt p hp; have hold : ∀ p ∈ before, decide (p.block < W.heap.size) = true := fun p hp => by simpa using hlt p hp
  refine ⟨ds, gs, before, [], pa, pv, hW, hres _ _ _, hargs (fun b => decide (b < W.heap.size)) hold, hvars (fun b => decide (b < W.heap.size)) hold, ?_, fun _ => ?_⟩
  . refine World.keptBut_mono (fun p hp => ⟨hp, ?_⟩) (hb.frame (· ∈ before)); rw [hps, List.mem_append] at hp; exact .inr hp
  . obtain ⟨_, _, _, _, _, hz, hn⟩ := hW; have hin : ∀ p, p ∈ ([] ++ pa) ++ pv -> p ∈ before := fun p hp => by rw [hps]; simpa using hp
    refine ⟨hok, _, _, ([] ++ pa) ++ pv, ⟨[] ++ pa, pv, trodAll_append (hargs _ fun _ _ => rfl) (hres _ _ _), hvars _ fun _ _ => rfl, rfl, fun b off hp => ?_, fun ha => ?_⟩, fun p hp _ => hin p hp⟩
    . rw [hb.frozen (hlt _ (hin _ hp))]; exact hz b off (hin _ hp)
    . have hx := hn ha; rw [hps] at hx; simpa using hx
theorem mono_call {P : Program} {f : FuncId} {args : Array Value} {w : World} {K : KV} {R : Ending -> WP} (h : callC P f args w K) (hk : ∀ v w', K v w' -> R (.returned v) w') : Calls P f args w R :=
  Calls.mono h fun e w' x => by
    cases e with
    | returned v => exact hk v w' x
    | _ => exact x.elim
theorem trodAll_keep {H : Type} {enc : TypeId × Value -> H} {P : Program} (hl : laidOutB P = true) {W W' : World} (u : Upd No W W') {sp : Nat -> Bool} : ∀ (ts : List TypeId) (vs : List Value) (ds : List (DataW H)) (ps : List MemPlace),
    (∀ t ∈ ts, P.readableRec t = true /\ t < P.types.size) -> DataW.TrodAll enc P W 0 (fun _ => true) true ts vs ds ps -> (∀ x ∈ ps, x.block < W.heap.size) -> (∀ x ∈ ps, sp x.block = true) ->
    DataW.TrodAll enc P W' 0 sp true ts vs ds ps
  | [], vs, ds, ps, _, h, _, _ => by
    obtain ⟨rfl, rfl, rfl⟩ := trodAll_nil h; exact trodAll_mk0
  | t :: ts, vs, ds, ps, hr, h, hlt, hsp => by
    obtain ⟨v, vs', d, ds', p, q, rfl, rfl, rfl, hd, hrest⟩ := trodAll_cons h; obtain ⟨h1, h2⟩ := hr t (by simp)
    exact trodAll_cons_mk (WideElems.Trod_stays hl h1 h2 hd (fun x hx => (below_of_upd u).same (hlt x (by simp [hx]))) (fun x hx => hsp x (by simp [hx])))
      (trodAll_keep hl u ts vs' ds' q (fun t ht => hr t (by simp [ht])) hrest (fun x hx => hlt x (by simp [hx])) (fun x hx => hsp x (by simp [hx])))
end Go.SX
namespace Go.Proofs.YtdbkclnlfibgdaaGreatDoor
open Go.SX Go.Ty Go.MapKept Go.RowKit Go.Tx
end Go.Proofs.YtdbkclnlfibgdaaGreatDoor
namespace Go.Proofs.YtdbkclnlfibgdaaGreatDoor
open Go.ChangeShapes Go.WideShapes Go.ChangeAt Go.RowKit Go.SX
theorem own_prog : ownKnob Tryz.prog.godebug = none := by kernel_rfl
theorem laidOut : laidOutB Tryz.prog = true := by kernel_rfl
theorem undBool : Tryz.prog.underlying 4 = some .bool := by kernel_rfl
theorem space_und : Tryz.prog.globalNamed "strings.asciiSpace" = some (Tryz.fieldsL_ren.g 0) := by kernel_rfl
theorem gl_of {W : World} (h : laidMetH Tryz.prog Rows.namesDarkRow.laid W) : Gl W := by
  have h1 := h.filter (fun x => x.1 == "strings.asciiSpace")
  have h2 : laidMetH Tryz.prog [("strings.asciiSpace", Lib.tabData .u8 Lib.asciiSpaceTab)] W := by
    have e : (Rows.namesDarkRow.laid.filter fun x => x.1 == "strings.asciiSpace") = [("strings.asciiSpace", Lib.tabData .u8 Lib.asciiSpaceTab)] := by kernel_rfl
    rw [<- e]; exact h1
  rw [MakeChecks.laidMetH_plain _ _ _ (by kernel_rfl)] at h2; exact ⟨Lib.tabIs_of_head (t := ((Tryz.prog.globals[Tryz.fieldsL_ren.g 0]?).map (·.type)).getD 0) space_und (by kernel_rfl) (n := 256) (e := 5) (by kernel_rfl) (by kernel_rfl) (by kernel_rfl) (by kernel_rfl) h2⟩
end Go.Proofs.YtdbkclnlfibgdaaGreatDoor
