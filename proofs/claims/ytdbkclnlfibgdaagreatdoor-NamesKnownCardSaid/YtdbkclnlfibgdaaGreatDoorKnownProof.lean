/- NamesKnown returns true at every call, and nothing that was there has turned. Conditions: none. -/
import Derived.Test.YtdbkclnlfibgdaaGreatDoorWf
import Derived.Test.YtdbkclnlfibgdaaGreatDoorWg
namespace Go.Proofs.YtdbkclnlfibgdaaGreatDoor
namespace Known
open Go.ChangeShapes Go.WideShapes Go.ChangeAt Go.RowKit Go.SX

set_option maxRecDepth 100000 in
theorem lifted (os : Os) (started : os.Started) (H : Type) (enc : TypeId × Value → H) :
    ReturnsInHanded {} Tryz.checked os 6 .any (fun w args => (Rows.namesKnownSpec.pre enc Tryz.prog Tryz.f6 Rows.namesKnownRow.domain false w args ∧ laidMetH Tryz.prog Rows.namesKnownRow.laid w) ∧ sizedMet enc Tryz.prog Tryz.f6 (OpenSpec.ofChange Rows.namesKnownSpec) false w args)
      (Rows.namesKnownSpec.post enc Tryz.prog Tryz.f6 false true false false) := by
  refine returnsInHanded_of_change_and (C := Tryz.checked) (X := fun w _ => laidMetH Tryz.prog Rows.namesKnownRow.laid w) (fun _ _ _ hh h => h.of_heap hh) own_prog started (by kernel_rfl) Tryz.func6
    (ChangeSpec.witness_shaped (enc := enc) (C := Tryz.checked) (os := os) (X := fun w _ => laidMetH Tryz.prog Rows.namesKnownRow.laid w) false (World.laidAll Tryz.prog os Rows.namesKnownRow.laid) #[] 8 (World.laidAll_os _ _ _)
      (World.shaped_of_ZipB (by kernel_rfl) (by kernel_rfl)) (by kernel_rfl) (by kernel_rfl) (by kernel_rfl)
      (by rw [MakeChecks.laidMetH_plain _ _ _ (by kernel_rfl)]; exact laidMet_laidAll _ (by kernel_rfl) (by kernel_rfl))) ?_
  intro W base args ds gs before hval0 hW hcnd _ hL _
  have hW' := hW
  obtain ⟨p, q, hA0, hV, rfl, hfz, hnd⟩ := hW
  have hA : DataW.TrodAll enc Tryz.prog W 0 (fun _ => true) true Tryz.f6.params.toList args.toList ds p := hA0
  rw [Tryz.params6] at hA
  obtain ⟨rfl, rfl, rfl⟩ := trodAll_none hA
  obtain ⟨rfl, rfl⟩ := trodVars_none hV
  clear hA0 hval0
  simp only [List.append_nil] at hW'
  refine mono_call (known_c (K := fun v W' => v = .bool true ∧ Upd No W W') (gl_of hL) fun w' u => ⟨rfl, u⟩) fun v W' ⟨hv, u⟩ => ?_
  subst hv
  exact ⟨_, rfl, post_of_upd (pa := []) (pv := []) hW' u (fun _ _ _ => trodAll_mk1 (shut_bool undBool _)) (fun sp _ => rfl) (fun _ _ => rfl) rfl
    (ok_one (by kernel_rfl) rfl (okWide_bool_mk undBool _))⟩

theorem row_holds : Rows.NamesKnownSaid :=
  OpenClaim.holds_of_wide 6 Tryz.f6 rfl rfl rfl rfl rfl rfl rfl ⟨rfl, rfl, rfl, rfl, rfl⟩ rfl rfl rfl rfl rfl (by kernel_rfl) Tryz.func6 (by kernel_rfl)
    (of_decide_eq_true (by kernel_rfl)) (by unfold Func.isWrapper; first | (rw [if_pos (by decide +kernel)]; kernel_rfl) | (rw [if_neg (by decide +kernel)]; exact ⟨rfl, rfl⟩))
    (fun os started H enc _ => lifted os started H enc)

theorem card_holds : Rows.NamesKnownCardSaid :=
  Claim7.holds_tied_plain_at .later [] [.data, .listed, .data, .pinned] true (true, "e208713175586deee0f5eefa77301e35d3cd5068de46b050a172c3ee48726fd3") true
    row_holds (fun _ h => by cases h) (by kernel_rfl) (fun _ h => by cases h) namesKnown_row_tie rfl ⟨rfl, rfl⟩ (by kernel_rfl) rfl
    (fun f fn hf hfn => by
      obtain rfl : f = 6 := Option.some.inj ((show Tryz.prog.funcNamed "lodger/lodgerlaw16.NamesKnown" = some 6 by kernel_rfl).symm.trans hf) |>.symm
      obtain rfl : fn = Tryz.f6 := (Option.some.inj (Tryz.func6.symm.trans hfn)).symm
      exact ⟨by kernel_rfl, fun j t ht => by
        rw [Tryz.params6] at ht
        exact absurd ht (by simp)⟩)
    (by kernel_rfl)
end Known
end Go.Proofs.YtdbkclnlfibgdaaGreatDoor
#print axioms Go.Proofs.YtdbkclnlfibgdaaGreatDoor.Known.card_holds
