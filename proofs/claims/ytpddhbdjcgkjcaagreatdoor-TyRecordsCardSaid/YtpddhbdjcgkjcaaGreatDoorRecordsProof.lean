/- TyRecords returns true at every call, and nothing that was there has turned. Conditions: none. -/
import Derived.Test.YtpddhbdjcgkjcaaGreatDoorW4
import Derived.Test.YtpddhbdjcgkjcaaGreatDoorTie
import Derived.Test.YtpddhbdjcgkjcaaGreatDoorCards
import Derived.LaidMore
import Derived.Lay
import Derived.SevenTiedAt
import Derived.Stop.Joined
namespace Go.Proofs.YtpddhbdjcgkjcaaGreatDoor
namespace Records
open Go.ChangeShapes Go.WideShapes Go.ChangeAt Go.RowKit Go.SX

set_option maxRecDepth 100000 in
theorem lifted (os : Os) (started : os.Started) (H : Type) (enc : TypeId × Value → H) :
    ReturnsInHanded {} Tryz.checked os 7 .any (fun w args => (Rows.tyRecordsSpec.pre enc Tryz.prog Tryz.f7 Rows.tyRecordsRow.domain false w args ∧ laidMetH Tryz.prog Rows.tyRecordsRow.laid w) ∧ sizedMet enc Tryz.prog Tryz.f7 (OpenSpec.ofChange Rows.tyRecordsSpec) false w args)
      (Rows.tyRecordsSpec.post enc Tryz.prog Tryz.f7 false true false false) := by
  refine returnsInHanded_of_change_and (C := Tryz.checked) (X := fun w _ => laidMetH Tryz.prog Rows.tyRecordsRow.laid w) (fun _ _ _ hh h => h.of_heap hh) own_prog started (by kernel_rfl) Tryz.func7
    (ChangeSpec.witness_shaped (enc := enc) (C := Tryz.checked) (os := os) (X := fun w _ => laidMetH Tryz.prog Rows.tyRecordsRow.laid w) false (World.laidAll Tryz.prog os Rows.tyRecordsRow.laid) #[.slice none 0 0, .int .u8 0] 8 (World.laidAll_os _ _ _)
      (World.shaped_of_ZipB (by kernel_rfl) (by kernel_rfl)) (by kernel_rfl) (by kernel_rfl) (by kernel_rfl)
      (by rw [MakeChecks.laidMetH_plain _ _ _ (by kernel_rfl)]; exact laidMet_laidAll _ (by kernel_rfl) (by kernel_rfl))) ?_
  intro W base args ds gs before hval0 hW hcnd _ _ _
  have hW' := hW
  obtain ⟨p, q, hA0, hV, rfl, hfz, hnd⟩ := hW
  have hA : DataW.TrodAll enc Tryz.prog W 0 (fun _ => true) true Tryz.f7.params.toList args.toList ds p := hA0
  have hlt : ∀ x ∈ p, x.block < W.heap.size := fun x hx => hW'.lt x (by simp [hx])
  rw [Tryz.params7] at hA
  obtain ⟨v, v', d, d', p1, p2, rfl, rfl, hpp, hd, hd'⟩ := trodAll_two hA
  obtain ⟨rfl, rfl⟩ := trodVars_none hV
  have hval : Value.okWide Tryz.prog W .any base 22 v := hval0 0 _ v (by rw [Tryz.params7]; rfl) rfl
  have hval' : Value.okWide Tryz.prog W .any base 5 v' := hval0 1 _ v' (by rw [Tryz.params7]; rfl) rfl
  obtain ⟨a0, l, c, rfl⟩ := okWide_slice undBs hval
  obtain ⟨t, rfl⟩ := okWide_int undB hval'
  obtain ⟨fuel, hf⟩ := hd
  obtain ⟨fuel', hf'⟩ := hd'
  obtain ⟨cs, e1, e2, e3, hb⟩ := bytes_of hf
  obtain ⟨t', et, _, wt⟩ := DataW.trod_int undB hf'
  have et : [Value.int .u8 t] = [Value.int .u8 t'] := et
  cases et
  have hbd := wf_bounds wt
  have hb1 : (0 : Int) ≤ t := hbd.1
  have hb2 : t ≤ (255 : Int) := hbd.2
  obtain ⟨t, rfl⟩ : ∃ n : Nat, t = n := ⟨t.toNat, by omega⟩
  have ht : t ≤ 255 := by omega
  simp only [List.append_nil] at hW'
  refine mono_call (records_spec hb e1 e2 e3 t ht) fun v W' ⟨hv, u⟩ => ?_
  subst hv
  exact ⟨_, rfl, post_of_upd (pa := p) (pv := []) hW' u (fun _ _ _ => trodAll_mk1 (shut_bool undBool _))
    (fun sp hs => trodAll_keep laid u Tryz.f7.params.toList _ _ _ (by rw [Tryz.params7]; intro t ht; simp at ht; rcases ht with rfl | rfl <;> exact ⟨by kernel_rfl, by decide +kernel⟩) hA0 hlt (fun x hx => hs x hx))
    (fun _ _ => rfl) (by simp)
    (ok_one (by kernel_rfl) rfl (okWide_bool_mk undBool _))⟩

theorem row_holds : Rows.TyRecordsSaid :=
  OpenClaim.holds_of_wide 7 Tryz.f7 rfl rfl rfl rfl rfl rfl rfl ⟨rfl, rfl, rfl, rfl, rfl⟩ rfl rfl rfl rfl rfl (by kernel_rfl) Tryz.func7 (by kernel_rfl)
    (of_decide_eq_true (by kernel_rfl)) (by unfold Func.isWrapper; first | (rw [if_pos (by decide +kernel)]; kernel_rfl) | (rw [if_neg (by decide +kernel)]; exact ⟨rfl, rfl⟩))
    (fun os started H enc _ => lifted os started H enc)

theorem card_holds : Rows.TyRecordsCardSaid :=
  Claim7.holds_tied_plain_at .later [] [.data, .pinned] true (true, "ae89c5b80b173b384b55f46f02ae4ce5f18b950f212bb291dd08fabc5796121e") false
    row_holds (fun _ h => by cases h) (by kernel_rfl) (fun _ h => by cases h) tyRecords_row_tie rfl ⟨rfl, rfl⟩ (by kernel_rfl) rfl
    (fun f fn hf hfn => by
      obtain rfl : f = 7 := Option.some.inj ((show Tryz.prog.funcNamed "lodger/lodgerlaw12.TyRecords" = some 7 by kernel_rfl).symm.trans hf) |>.symm
      obtain rfl : fn = Tryz.f7 := (Option.some.inj (Tryz.func7.symm.trans hfn)).symm
      exact ⟨by kernel_rfl, fun j t ht => by
        rw [Tryz.params7] at ht
        have hm : t ∈ [22, 5] := by simpa using Array.mem_of_getElem? ht
        have hall : ([22, 5].all fun u => !Tryz.prog.wantsStandIn u) = true := by kernel_rfl
        exact (show Tryz.prog.wantsStandIn t = false by simpa using List.all_eq_true.1 hall t hm)⟩)
    (by kernel_rfl)
end Records
end Go.Proofs.YtpddhbdjcgkjcaaGreatDoor
#print axioms Go.Proofs.YtpddhbdjcgkjcaaGreatDoor.Records.card_holds
