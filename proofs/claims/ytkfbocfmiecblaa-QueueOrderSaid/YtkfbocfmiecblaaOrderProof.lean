/- QueueOrder returns true at every call, and its argument reads behind the call as it read before. Conditions: none. -/
import Derived.Test.YtkfbocfmiecblaaRows
import Derived.Test.YtkfbocfmiecblaaQ8
import Derived.Test.YtkfbocfmiecblaaFr
namespace Go.Proofs.Ytkfbocfmiecblaa
open Go.ChangeShapes Go.WideShapes Go.ChangeAt Go.RowKit Go.SX

namespace Order
theorem own_prog : ownKnob Try.prog.godebug = none := by kernel_rfl
theorem laid : laidOutB Try.prog = true := by kernel_rfl

/-- from what the argument reads to: what the walk reads of it. -/
theorem turns_of {H : Type} {enc : TypeId × Value → H} {W : World} {x : DataW H × List MemPlace} {fuel : Nat} {a0 : Option Addr} {l c : Nat}
    (h : DataW.trod enc Try.prog W 0 (fun _ => true) true fuel 43 [.slice a0 l c] = some x) : TurnsAt W a0 l := by
  intro i hi
  rcases Go.Deep.open_slice Try.underlying43 h with ⟨e, _⟩ | ⟨a, len, cap, m, n, D, Pl, e, _, hl, _, hm, _, hx⟩
  · cases e; exact absurd hi (by omega)
  · cases e
    obtain ⟨cs', h1, h2⟩ := hx i (by rw [hm]; split <;> omega)
    have hc : Try.prog.cellsOf 44 = 2 := by kernel_rfl
    have hc5 : Try.prog.cellsOf 5 = 1 := by kernel_rfl
    rw [hc] at h1
    obtain ⟨hlen, hcell⟩ := cells_get h1
    match cs', hlen with
    | [v0, v1], _ =>
      obtain ⟨xs, k, _, _, _, hxs, hel⟩ := DataW.trod_array Try.underlying44 h2
      match xs, hxs with
      | [y0, y1], _ =>
        have e0 := hel 0 (by decide)
        have e1 := hel 1 (by decide)
        rw [hc5] at e0 e1
        obtain ⟨n0, q0, _, w0⟩ := DataW.trod_int Try.underlying5 e0
        obtain ⟨n1, q1, _, w1⟩ := DataW.trod_int Try.underlying5 e1
        have q0 : [v0] = [Value.int .u8 n0] := q0
        have q1 : [v1] = [Value.int .u8 n1] := q1
        cases q0; cases q1
        have b0 := wf_bounds w0
        have b1 := wf_bounds w1
        have c0 := hcell 0 (by decide)
        have c1 := hcell 1 (by decide)
        rw [show (a.add (i * 2)).add 0 = a.add (i * 2) from rfl] at c0
        refine ⟨a, n0, n1, rfl, c0, c1, ?_, ?_, ?_, ?_⟩
        · exact b0.1
        · exact b0.2
        · exact b1.1
        · exact b1.2

set_option maxRecDepth 100000 in
theorem order_lifted (os : Os) (started : os.Started) (H : Type) (enc : TypeId × Value → H) :
    ReturnsInHanded {} Try.checked os 4 .any (Rows.queueOrderSpec.pre6 enc Try.prog Try.f4 Rows.queueOrderRow.domain false) (Rows.queueOrderSpec.post enc Try.prog Try.f4 false true false false) := by
  refine returnsInHanded_of_change (C := Try.checked) own_prog started (by kernel_rfl) Try.func4
    (ChangeSpec.witness6 (enc := enc) (C := Try.checked) false ⟨#[], #[.slice none 0 0], []⟩ 8 (by kernel_rfl) (by kernel_rfl) (by kernel_rfl) (by kernel_rfl)) ?_
  intro W base args ds gs before hval0 hW hcnd _
  have hW' := hW
  obtain ⟨p, q, hA0, hV, rfl, hfz, hnd⟩ := hW
  have hA : DataW.TrodAll enc Try.prog W 0 (fun _ => true) true Try.f4.params.toList args.toList ds p := hA0
  have hlt : ∀ x ∈ p, x.block < W.heap.size := fun x hx => hW'.lt x (by simp [hx])
  rw [Try.params4] at hA
  obtain ⟨v, d, rfl, rfl, hd⟩ := trodAll_one hA
  obtain ⟨rfl, rfl⟩ := trodVars_none hV
  have hval : Value.okWide Try.prog W .any base 43 v := hval0 0 43 v (by rw [Try.params4]; rfl) rfl
  obtain ⟨a0, l, c, rfl⟩ := okWide_slice Try.underlying43 hval
  obtain ⟨fuel, hf⟩ := hd
  have ht := turns_of hf
  simp only [List.append_nil] at hW'
  refine mono_call (order_spec W a0 l c ht) fun v W' ⟨hv, u⟩ => ?_
  subst hv
  exact ⟨_, rfl, post_of_upd (pa := p) (pv := []) hW' u (fun _ _ _ => trodAll_mk1 (shut_bool Try.underlying4 _))
    (fun sp hs => trodAll_keep laid u Try.f4.params.toList _ _ _ (by rw [Try.params4]; intro t ht; simp at ht; subst ht; exact ⟨by kernel_rfl, by decide +kernel⟩) hA0 hlt (fun x hx => hs x hx))
    (fun _ _ => rfl) (by simp)
    (ok_one (by kernel_rfl) rfl (okWide_bool_mk Try.underlying4 _))⟩

theorem order_holds : Rows.QueueOrderSaid :=
  OpenClaim.holds_of_wide 4 Try.f4 rfl rfl rfl rfl rfl rfl rfl ⟨rfl, rfl, rfl, rfl, rfl⟩ rfl rfl rfl rfl rfl (by kernel_rfl) Try.func4 (by kernel_rfl)
    (of_decide_eq_true (by kernel_rfl)) (by unfold Func.isWrapper; first | (rw [if_pos (by decide +kernel)]; kernel_rfl) | (rw [if_neg (by decide +kernel)]; exact ⟨rfl, rfl⟩))
    (fun os started H enc _ => order_lifted os started H enc)
end Order
end Go.Proofs.Ytkfbocfmiecblaa
#print axioms Go.Proofs.Ytkfbocfmiecblaa.Order.order_holds
