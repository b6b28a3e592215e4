/- PlanPlays returns true at every call, and nothing that was there has plays. Conditions: none. -/
import Derived.Test.YtkacocaekffdgaaRows
import Derived.Test.YtkacocaekffdgaaWay
import Derived.Test.YtkacocaekffdgaaP8
import Derived.Test.YtkacocaekffdgaaArg
namespace Go.Proofs.Ytkacocaekffdgaa
namespace Plays
open Go.ChangeShapes Go.WideShapes Go.ChangeAt Go.RowKit Go.SX

set_option maxRecDepth 100000 in
theorem plays_lifted (os : Os) (started : os.Started) (H : Type) (enc : TypeId × Value → H) :
    ReturnsInHanded {} Try.checked os 8 .any (Rows.planPlaysSpec.pre6 enc Try.prog Try.f8 Rows.planPlaysRow.domain false) (Rows.planPlaysSpec.post enc Try.prog Try.f8 false true false false) := by
  refine returnsInHanded_of_change (C := Try.checked) own_prog started (by kernel_rfl) Try.func8
    (ChangeSpec.witness6 (enc := enc) (C := Try.checked) false ⟨#[], #[.slice none 0 0, .slice none 0 0, .agg #[.slice none 0 0, .slice none 0 0]], []⟩ 8 (by kernel_rfl) (by kernel_rfl) (by kernel_rfl) (by kernel_rfl)) ?_
  intro W base args ds gs before hval0 hW hcnd _
  have hW' := hW
  obtain ⟨p, q, hA0, hV, rfl, hfz, hnd⟩ := hW
  have hA : DataW.TrodAll enc Try.prog W 0 (fun _ => true) true Try.f8.params.toList args.toList ds p := hA0
  have hlt : ∀ x ∈ p, x.block < W.heap.size := fun x hx => hW'.lt x (by simp [hx])
  rw [Try.params8] at hA
  obtain ⟨v, v', v'', d, d', d'', p1, p2, p3, rfl, rfl, hpp, hd, hd', hd''⟩ := trodAll_three hA
  obtain ⟨rfl, rfl⟩ := trodVars_none hV
  have hval : Value.okWide Try.prog W .any base 22 v := hval0 0 22 v (by rw [Try.params8]; rfl) rfl
  have hval' : Value.okWide Try.prog W .any base 23 v' := hval0 1 23 v' (by rw [Try.params8]; rfl) rfl
  obtain ⟨a0, l, c, rfl⟩ := okWide_slice Try.underlying22 hval
  obtain ⟨a1, l1, c1, rfl⟩ := okWide_slice Try.underlying23 hval'
  have hval'' : Value.okWide Try.prog W .any base 44 v'' := hval0 2 44 v'' (by rw [Try.params8]; rfl) rfl
  obtain ⟨xf, first, cf, xa, la, ca, rfl, hfc, hF, hAc⟩ := way_of hval'' hd''
  obtain ⟨fuel, hf⟩ := hd
  obtain ⟨fuel', hf'⟩ := hd'
  obtain ⟨ps, rfl, hlc, hP, hz⟩ := strs_of hf
  obtain ⟨imps, rfl, _, hI, _⟩ := imps_of hf'
  simp only [List.append_nil] at hW'
  refine mono_call (plays_spec hP hI hF hAc c c1 cf ca hlc hfc hz) fun v W' ⟨hv, u⟩ => ?_
  subst hv
  exact ⟨_, rfl, post_of_upd (pa := p) (pv := []) hW' u (fun _ _ _ => trodAll_mk1 (shut_bool Try.underlying4 _))
    (fun sp hs => trodAll_keep laid u Try.f8.params.toList _ _ _ (by rw [Try.params8]; intro t ht; simp at ht; rcases ht with rfl | rfl | rfl <;> exact ⟨by kernel_rfl, by decide +kernel⟩) hA0 hlt (fun x hx => hs x hx))
    (fun _ _ => rfl) (by simp)
    (ok_one (by kernel_rfl) rfl (okWide_bool_mk Try.underlying4 _))⟩

theorem plays_holds : Rows.PlanPlaysSaid :=
  OpenClaim.holds_of_wide 8 Try.f8 rfl rfl rfl rfl rfl rfl rfl ⟨rfl, rfl, rfl, rfl, rfl⟩ rfl rfl rfl rfl rfl (by kernel_rfl) Try.func8 (by kernel_rfl)
    (of_decide_eq_true (by kernel_rfl)) (by unfold Func.isWrapper; first | (rw [if_pos (by decide +kernel)]; kernel_rfl) | (rw [if_neg (by decide +kernel)]; exact ⟨rfl, rfl⟩))
    (fun os started H enc _ => plays_lifted os started H enc)
end Plays
end Go.Proofs.Ytkacocaekffdgaa
#print axioms Go.Proofs.Ytkacocaekffdgaa.Plays.plays_holds
