/- NamesText returns true at every call, and nothing that was there has turned. Conditions: none. -/
import Derived.Test.YtdbkclnlfibgdaaGreatDoorWj
namespace Go.Proofs.YtdbkclnlfibgdaaGreatDoor
namespace Text
open Go.ChangeShapes Go.WideShapes Go.ChangeAt Go.RowKit Go.SX

set_option maxRecDepth 100000 in
theorem lifted (os : Os) (started : os.Started) (H : Type) (enc : TypeId × Value → H) :
    ReturnsInHanded {} Tryz.checked os 4 .any (fun w args => (Rows.namesTextSpec.pre enc Tryz.prog Tryz.f4 Rows.namesTextRow.domain false w args ∧ laidMetH Tryz.prog Rows.namesTextRow.laid w) ∧ sizedMet enc Tryz.prog Tryz.f4 (OpenSpec.ofChange Rows.namesTextSpec) false w args)
      (Rows.namesTextSpec.post enc Tryz.prog Tryz.f4 false true false false) := by
  refine returnsInHanded_of_change_and (C := Tryz.checked) (X := fun w _ => laidMetH Tryz.prog Rows.namesTextRow.laid w) (fun _ _ _ hh h => h.of_heap hh) own_prog started (by kernel_rfl) Tryz.func4
    (ChangeSpec.witness_shaped (enc := enc) (C := Tryz.checked) (os := os) (X := fun w _ => laidMetH Tryz.prog Rows.namesTextRow.laid w) false (World.laidAll Tryz.prog os Rows.namesTextRow.laid) #[.string .empty] 8 (World.laidAll_os _ _ _)
      (World.shaped_of_ZipB (by kernel_rfl) (by kernel_rfl)) (by kernel_rfl) (by kernel_rfl) (by kernel_rfl)
      (by rw [MakeChecks.laidMetH_plain _ _ _ (by kernel_rfl)]; exact laidMet_laidAll _ (by kernel_rfl) (by kernel_rfl))) ?_
  intro W base args ds gs before hval0 hW hcnd _ hL _
  have hW' := hW
  obtain ⟨p, q, hA0, hV, rfl, hfz, hnd⟩ := hW
  have hA : DataW.TrodAll enc Tryz.prog W 0 (fun _ => true) true Tryz.f4.params.toList args.toList ds p := hA0
  have hlt : ∀ x ∈ p, x.block < W.heap.size := fun x hx => hW'.lt x (by simp [hx])
  rw [Tryz.params4] at hA
  obtain ⟨v, d, rfl, rfl, hd⟩ := trodAll_one hA
  obtain ⟨rfl, rfl⟩ := trodVars_none hV
  obtain ⟨fuel, hf⟩ := hd
  have k0 : Value.okWide Tryz.prog W .any base 9 v := hval0 0 _ v (by rw [Tryz.params4]; rfl) rfl
  obtain ⟨x, rfl⟩ := okWide_string undStr k0
  simp only [List.append_nil] at hW'
  refine mono_call (ntext_c (x := x) (K := fun v W' => v = .bool true ∧ Upd No W W') (gu_of hL) fun w' u => ⟨rfl, u⟩) fun v W' ⟨hv, u⟩ => ?_
  subst hv
  exact ⟨_, rfl, post_of_upd (pa := p) (pv := []) hW' u (fun _ _ _ => trodAll_mk1 (shut_bool undBool _))
    (fun sp hs => trodAll_keep laidOut u Tryz.f4.params.toList _ _ _ (by rw [Tryz.params4]; intro t ht; simp at ht; subst ht; exact ⟨by kernel_rfl, by decide +kernel⟩) hA0 hlt (fun x hx => hs x hx))
    (fun _ _ => rfl) (by simp)
    (ok_one (by kernel_rfl) rfl (okWide_bool_mk undBool _))⟩

theorem row_holds : Rows.NamesTextSaid :=
  OpenClaim.holds_of_wide 4 Tryz.f4 rfl rfl rfl rfl rfl rfl rfl ⟨rfl, rfl, rfl, rfl, rfl⟩ rfl rfl rfl rfl rfl (by kernel_rfl) Tryz.func4 (by kernel_rfl)
    (of_decide_eq_true (by kernel_rfl)) (by unfold Func.isWrapper; first | (rw [if_pos (by decide +kernel)]; kernel_rfl) | (rw [if_neg (by decide +kernel)]; exact ⟨rfl, rfl⟩))
    (fun os started H enc _ => lifted os started H enc)

theorem card_holds : Rows.NamesTextCardSaid :=
  Claim7.holds_tied_plain_at .later [] [.data, .listed, .data, .pinned] true (true, "e208713175586deee0f5eefa77301e35d3cd5068de46b050a172c3ee48726fd3") true
    row_holds (fun _ h => by cases h) (by kernel_rfl) (fun _ h => by cases h) namesText_row_tie rfl ⟨rfl, rfl⟩ (by kernel_rfl) rfl
    (fun f fn hf hfn => by
      obtain rfl : f = 4 := Option.some.inj ((show Tryz.prog.funcNamed "lodger/lodgerlaw16.NamesText" = some 4 by kernel_rfl).symm.trans hf) |>.symm
      obtain rfl : fn = Tryz.f4 := (Option.some.inj (Tryz.func4.symm.trans hfn)).symm
      exact ⟨by kernel_rfl, fun j t ht => by
        rw [Tryz.params4] at ht
        have hm : t ∈ [9] := by simpa using Array.mem_of_getElem? ht
        have hall : ([9].all fun u => !Tryz.prog.wantsStandIn u) = true := by kernel_rfl
        exact (show Tryz.prog.wantsStandIn t = false by simpa using List.all_eq_true.1 hall t hm)⟩)
    (by kernel_rfl)
end Text
end Go.Proofs.YtdbkclnlfibgdaaGreatDoor
#print axioms Go.Proofs.YtdbkclnlfibgdaaGreatDoor.Text.card_holds
