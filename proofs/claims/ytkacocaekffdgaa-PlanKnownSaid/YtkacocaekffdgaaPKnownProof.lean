/- PlanKnown returns true at every call, and nothing that was there has turned (it takes no argument). Conditions: none. -/
import Derived.Test.YtkacocaekffdgaaRows
import Derived.Test.YtkacocaekffdgaaP4
import Derived.Test.YtkacocaekffdgaaFr
namespace Go.Proofs.Ytkacocaekffdgaa
namespace PKnown
open Go.ChangeShapes Go.WideShapes Go.ChangeAt Go.RowKit Go.SX

theorem own_prog : ownKnob Try.prog.godebug = none := by kernel_rfl

set_option maxRecDepth 100000 in
theorem known_lifted (os : Os) (started : os.Started) (H : Type) (enc : TypeId × Value → H) :
    ReturnsInHanded {} Try.checked os 10 .any (Rows.planKnownSpec.pre6 enc Try.prog Try.f10 Rows.planKnownRow.domain false) (Rows.planKnownSpec.post enc Try.prog Try.f10 false true false false) := by
  refine returnsInHanded_of_change (C := Try.checked) own_prog started (by kernel_rfl) Try.func10
    (ChangeSpec.witness6 (enc := enc) (C := Try.checked) false ⟨#[], #[], []⟩ 8 (by kernel_rfl) (by kernel_rfl) (by kernel_rfl) (by kernel_rfl)) ?_
  intro W base args ds gs before hval0 hW hcnd _
  have hW' := hW
  obtain ⟨p, q, hA0, hV, rfl, hfz, hnd⟩ := hW
  have hA : DataW.TrodAll enc Try.prog W 0 (fun _ => true) true Try.f10.params.toList args.toList ds p := hA0
  rw [Try.params10] at hA
  obtain ⟨rfl, rfl, rfl⟩ := trodAll_none hA
  obtain ⟨rfl, rfl⟩ := trodVars_none hV
  clear hA0 hval0
  simp only [List.append_nil] at hW'
  refine mono_call (pknown_spec W) fun v W' ⟨hv, u⟩ => ?_
  subst hv
  exact ⟨_, rfl, post_of_upd (pa := []) (pv := []) hW' u (fun _ _ _ => trodAll_mk1 (shut_bool Try.underlying4 _)) (fun sp _ => rfl) (fun _ _ => rfl) rfl
    (ok_one (by kernel_rfl) rfl (okWide_bool_mk Try.underlying4 _))⟩

theorem known_holds : Rows.PlanKnownSaid :=
  OpenClaim.holds_of_wide 10 Try.f10 rfl rfl rfl rfl rfl rfl rfl ⟨rfl, rfl, rfl, rfl, rfl⟩ rfl rfl rfl rfl rfl (by kernel_rfl) Try.func10 (by kernel_rfl)
    (of_decide_eq_true (by kernel_rfl)) (by unfold Func.isWrapper; first | (rw [if_pos (by decide +kernel)]; kernel_rfl) | (rw [if_neg (by decide +kernel)]; exact ⟨rfl, rfl⟩))
    (fun os started H enc _ => known_lifted os started H enc)
end PKnown
end Go.Proofs.Ytkacocaekffdgaa
#print axioms Go.Proofs.Ytkacocaekffdgaa.PKnown.known_holds
