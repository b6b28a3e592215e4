/- GraphRings returns true at every call, and nothing that was there has rings. Conditions: none. -/
import Derived.Test.YtkacocaekffdgaaRows
import Derived.Test.YtkacocaekffdgaaG16
import Derived.Test.YtkacocaekffdgaaArg
namespace Go.Proofs.Ytkacocaekffdgaa
namespace Rings
open Go.ChangeShapes Go.WideShapes Go.ChangeAt Go.RowKit Go.SX

set_option maxRecDepth 100000 in
theorem rings_lifted (os : Os) (started : os.Started) (H : Type) (enc : TypeId × Value → H) :
    ReturnsInHanded {} Try.checked os 5 .any (Rows.graphRingsSpec.pre6 enc Try.prog Try.f5 Rows.graphRingsRow.domain false) (Rows.graphRingsSpec.post enc Try.prog Try.f5 false true false false) := by
  refine returnsInHanded_of_change (C := Try.checked) own_prog started (by kernel_rfl) Try.func5
    (ChangeSpec.witness6 (enc := enc) (C := Try.checked) false ⟨#[], #[.int .u8 0, .int .u8 0, .int .u8 0], []⟩ 8 (by kernel_rfl) (by kernel_rfl) (by kernel_rfl) (by kernel_rfl)) ?_
  intro W base args ds gs before hval0 hW hcnd _
  have hW' := hW
  obtain ⟨p, q, hA0, hV, rfl, hfz, hnd⟩ := hW
  have hA : DataW.TrodAll enc Try.prog W 0 (fun _ => true) true Try.f5.params.toList args.toList ds p := hA0
  have hlt : ∀ x ∈ p, x.block < W.heap.size := fun x hx => hW'.lt x (by simp [hx])
  rw [Try.params5] at hA
  obtain ⟨v, v', v'', d, d', d'', p1, p2, p3, rfl, rfl, hpp, hd, hd', hd''⟩ := trodAll_three hA
  obtain ⟨rfl, rfl⟩ := trodVars_none hV
  have hv0 : Value.okWide Try.prog W .any base 5 v := hval0 0 5 v (by rw [Try.params5]; rfl) rfl
  obtain ⟨r, rfl⟩ := okWide_int Try.underlying5 hv0
  have hv1 : Value.okWide Try.prog W .any base 5 v' := hval0 1 5 v' (by rw [Try.params5]; rfl) rfl
  obtain ⟨a, rfl⟩ := okWide_int Try.underlying5 hv1
  have hv2 : Value.okWide Try.prog W .any base 5 v'' := hval0 2 5 v'' (by rw [Try.params5]; rfl) rfl
  obtain ⟨b, rfl⟩ := okWide_int Try.underlying5 hv2
  obtain ⟨fuel0, hf0⟩ := hd
  obtain ⟨r', er, _, wr⟩ := DataW.trod_int Try.underlying5 hf0
  have er : [Value.int .u8 r] = [Value.int .u8 r'] := er
  cases er
  have br : (0 : Int) ≤ r := (wf_bounds wr).1
  obtain ⟨r, rfl⟩ : ∃ n : Nat, r = n := ⟨r.toNat, by omega⟩
  obtain ⟨fuel1, hf1⟩ := hd'
  obtain ⟨a', ea, _, wa⟩ := DataW.trod_int Try.underlying5 hf1
  have ea : [Value.int .u8 a] = [Value.int .u8 a'] := ea
  cases ea
  have ba : (0 : Int) ≤ a := (wf_bounds wa).1
  obtain ⟨a, rfl⟩ : ∃ n : Nat, a = n := ⟨a.toNat, by omega⟩
  obtain ⟨fuel2, hf2⟩ := hd''
  obtain ⟨b', eb, _, wb⟩ := DataW.trod_int Try.underlying5 hf2
  have eb : [Value.int .u8 b] = [Value.int .u8 b'] := eb
  cases eb
  have bb : (0 : Int) ≤ b := (wf_bounds wb).1
  obtain ⟨b, rfl⟩ : ∃ n : Nat, b = n := ⟨b.toNat, by omega⟩
  simp only [List.append_nil] at hW'
  refine mono_call (rings_spec W r a b) fun v W' ⟨hv, u⟩ => ?_
  subst hv
  exact ⟨_, rfl, post_of_upd (pa := p) (pv := []) hW' u (fun _ _ _ => trodAll_mk1 (shut_bool Try.underlying4 _))
    (fun sp hs => trodAll_keep laid u Try.f5.params.toList _ _ _ (by rw [Try.params5]; intro t ht; simp at ht; subst ht; exact ⟨by kernel_rfl, by decide +kernel⟩) hA0 hlt (fun x hx => hs x hx))
    (fun _ _ => rfl) (by simp)
    (ok_one (by kernel_rfl) rfl (okWide_bool_mk Try.underlying4 _))⟩

theorem rings_holds : Rows.GraphRingsSaid :=
  OpenClaim.holds_of_wide 5 Try.f5 rfl rfl rfl rfl rfl rfl rfl ⟨rfl, rfl, rfl, rfl, rfl⟩ rfl rfl rfl rfl rfl (by kernel_rfl) Try.func5 (by kernel_rfl)
    (of_decide_eq_true (by kernel_rfl)) (by unfold Func.isWrapper; first | (rw [if_pos (by decide +kernel)]; kernel_rfl) | (rw [if_neg (by decide +kernel)]; exact ⟨rfl, rfl⟩))
    (fun os started H enc _ => rings_lifted os started H enc)
end Rings
end Go.Proofs.Ytkacocaekffdgaa
#print axioms Go.Proofs.Ytkacocaekffdgaa.Rings.rings_holds
