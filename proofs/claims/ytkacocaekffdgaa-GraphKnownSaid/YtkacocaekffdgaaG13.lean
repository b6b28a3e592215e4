/- GraphKnown: the walk. -/
import Derived.Test.YtkacocaekffdgaaG12
import Derived.Test.YtkacocaekffdgaaVl
namespace Go.Proofs.Ytkacocaekffdgaa
open Go.SX

def hPs : List ByteArray := [⟨#[]⟩, b1 97]
def hImps : List (List ByteArray) := [[b1 97, ⟨#[]⟩], [⟨#[]⟩]]
theorem h_closed : ∀ p ∈ hPs, closedN (adjOf hPs hImps) 2 p = true := by decide +kernel
theorem h_cyc {p : ByteArray} (hp : p ∈ hPs) {b : Bool} (h : b = true ↔ Reach (adjOf hPs hImps) p p) : b = cycN (adjOf hPs hImps) 2 p := by
  rw [Bool.eq_iff_iff, h, cycN_iff (h_closed p hp)]
theorem h_order : orderOf hPs (adjOf hPs hImps) = [⟨#[]⟩, b1 97] := by
  rw [orderC_eq (n := 2) fun p hp => h_closed p hp]
  decide +kernel

theorem above_nil (w : World) (s : ByteArray) : callC Try.prog 18 #[.pointer none, .string s] w fun v w' => v = .slice none 0 0 ∧ w = w' := gabove _ _ _ _ (brC_tt rfl ⟨rfl, rfl⟩)

theorem known_spec (w : World) : callC Try.prog 7 #[] w fun v w' => v = .bool true ∧ Upd No w w' := by
  refine lknown _ _ (callC_of (new_spec (ps := []) (imps := []) (strsAt_nil w none) (x1 := none) (fun i hi => absurd hi (by simp)) (by decide) 0 0) fun v w1 ⟨u1, h⟩ => ?_)
  rcases h with ⟨_, h⟩ | ⟨g, m, f, hv, _, _, G⟩
  · exact (h (by decide +kernel)).elim
  refine ⟨_, hv, newC_mk fun w4 h4 u4 _ => newC_mk fun w6 h6 u6 _ => newC_mk fun w8 h8 u8 _ => newC_mk fun w10 h10 u10 _ => ?_⟩
  have a8 : Upd No w8 w10 := u10
  have a6 : Upd No w6 w10 := u8.trans a8 fun _ _ => id
  have a4 : Upd No w4 w10 := u6.trans a6 fun _ _ => id
  have hP : StrsAt w10 (some ⟨w1.heap.size, 0, none⟩) hPs := (strsAt_blk (l := hPs) h4).keep a4
  have hI : ImpsAt w10 (some ⟨w8.heap.size, 0, none⟩) hImps := impsAt_blk (imps := hImps) h10 fun i hi => by
    match i, hi with
    | 0, _ => exact ⟨_, _, rfl, (strsAt_blk (l := [b1 97, ⟨#[]⟩]) h6).keep a6, Nat.le_of_ble_eq_true rfl⟩
    | 1, _ => exact ⟨_, _, rfl, (strsAt_blk (l := [⟨#[]⟩]) h8).keep a8, Nat.le_of_ble_eq_true rfl⟩
  refine callC_of (new_spec (ps := hPs) (imps := hImps) hP hI (by decide) 2 2) fun v w12 ⟨u12, h⟩ => ?_
  rcases h with ⟨_, h⟩ | ⟨g2, m2, f2, hv2, _, _, G2⟩
  · exact (h (by decide +kernel)).elim
  refine ⟨_, hv2, callC_of (works_spec w12) fun v w15 ⟨hv, u15⟩ => ⟨_, hv, brC_tt rfl (brC_tt rfl ?_)⟩⟩
  have b1' : Upd No w1 w15 := ((u4.trans a4 fun _ _ => id).trans u12 fun _ _ => id).trans u15 fun _ _ => id
  have G15 := G.keep b1'
  have H15 := G2.keep u15
  refine callC_of (order_spec G15 (by decide) (by simp)) fun v w18 ⟨hrow, u18, _⟩ => ?_
  obtain ⟨p, n, c, rfl, _⟩ := hrow.shape
  have hn := rowAt_len hrow
  have e0 : orderOf [] (adjOf [] []) = [] := List.Perm.eq_nil (order_perm _ List.nodup_nil)
  rw [e0] at hn
  subst hn
  refine ⟨p, _, c, rfl, brC_tt rfl ?_⟩
  refine callC_of (cyclic_spec (G15.keep u18) ⟨#[]⟩) fun v w23 ⟨b, hv, hb, u23⟩ => ⟨b, hv, brC_tt ?_ (brC_tt rfl ?_)⟩
  · have : ¬ Reach (adjOf [] []) ⟨#[]⟩ ⟨#[]⟩ := fun h => by cases h with | one h => cases h | step h _ => cases h
    rw [← hb] at this
    simpa using this
  have H23 := (H15.keep u18).keep u23
  refine callC_of (cyclic_spec H23 ⟨#[]⟩) fun v w26 ⟨b, hv, hb, u26⟩ => ⟨b, hv, brC_tt (by rw [h_cyc (by decide +kernel) hb]; decide +kernel) ?_⟩
  have H26 := H23.keep u26
  refine callC_of (cyclic_spec H26 (b1 97)) fun v w29 ⟨b, hv, hb, u29⟩ => ⟨b, hv, brC_tt (by rw [h_cyc (by decide +kernel) hb]; decide +kernel) ?_⟩
  have H29 := H26.keep u29
  refine callC_of (order_spec H29 (by decide) (by decide +kernel)) fun v w32 ⟨hrow, u32, _⟩ => ?_
  obtain ⟨p, n, c, rfl, _⟩ := hrow.shape
  refine ⟨p, n, c, rfl, newC_mk fun w37 h37 u37 _ => callC_of (texts_is (hrow.upd u37 fun _ _ => id) (by rw [h_order]; decide) (m := [⟨#[]⟩, b1 97]) h37 2 rfl) fun v w39 ⟨hv, u39⟩ => ⟨_, hv, brC_tt (by rw [h_order]; decide +kernel) ?_⟩⟩
  have u0 : Upd No w w39 := (((((((u1.trans b1' fun _ _ => id).trans u18 fun _ _ => id).trans u23 fun _ _ => id).trans u26 fun _ _ => id).trans u29 fun _ _ => id).trans u32 fun _ _ => id).trans u37 fun _ _ => id).trans u39 fun _ _ => id
  refine callC_of (cyclic_nil w39 (b1 97)) fun v w42 ⟨hv, u42⟩ => ⟨_, hv, brC_tt rfl ?_⟩
  refine callC_of (order_nil w42) fun v w45 ⟨hv, e⟩ => ⟨_, _, _, hv, brC_tt rfl ?_⟩
  subst e
  refine callC_of (above_nil w42 (b1 97)) fun v w50 ⟨hv, e⟩ => ⟨_, _, _, hv, brC_tt rfl ?_⟩
  subst e
  refine newC_mk fun w55 h55 u55 _ => newC_mk fun w57 h57 u57 _ => ?_
  refine callC_of (new_spec (ps := [b1 97]) (imps := [[], []]) ((strsAt_blk (l := [b1 97]) h55).keep u57) (impsAt_blk (imps := [[], []]) h57 fun i hi => ?_) (by decide) 1 2) fun v w59 ⟨u59, h⟩ => ?_
  · match i, hi with
    | 0, _ => exact ⟨_, _, rfl, strsAt_nil _ _, Nat.le_of_ble_eq_true rfl⟩
    | 1, _ => exact ⟨_, _, rfl, strsAt_nil _ _, Nat.le_of_ble_eq_true rfl⟩
  rcases h with ⟨hv, _⟩ | ⟨_, _, _, _, h, _⟩
  · exact ⟨_, hv, rfl, (((u0.trans u42 fun _ _ => id).trans u55 fun _ _ => id).trans u57 fun _ _ => id).trans u59 fun _ _ => id⟩
  · exact absurd h (by decide)
end Go.Proofs.Ytkacocaekffdgaa
