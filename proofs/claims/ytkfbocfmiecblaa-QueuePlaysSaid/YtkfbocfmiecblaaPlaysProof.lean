/- QueuePlays returns true at every call, and its arguments read behind the call as they read before. Conditions: none. -/
import Derived.Test.YtkfbocfmiecblaaRows
import Derived.Test.YtkfbocfmiecblaaQ12
import Derived.Test.YtkfbocfmiecblaaFr
namespace Go.Proofs.Ytkfbocfmiecblaa
open Go.ChangeShapes Go.WideShapes Go.ChangeAt Go.RowKit Go.SX

namespace Plays
theorem own_prog : ownKnob Try.prog.godebug = none := by kernel_rfl
theorem laid : laidOutB Try.prog = true := by kernel_rfl

section
variable {H : Type} {enc : TypeId × Value → H} {W : World}
theorem made_one {y : DataW H × List MemPlace} {n : Nat} {cs : List Value} (h : DataW.trod enc Try.prog W 0 (fun _ => true) true n 36 cs = some y) :
    ∃ x : It, cs = [.int .i64 x.conn, .string x.body, .string x.nonce, .int .u64 x.now, .bool x.drawn] := by
  obtain ⟨xs, k, _, _, hlen, hxs, hel⟩ := DataW.trod_struct Try.underlying36 h
  have hc : Try.prog.cellsOf 36 = 5 := by kernel_rfl
  have c3 : Try.prog.cellsOf 3 = 1 := by kernel_rfl
  have c9 : Try.prog.cellsOf 9 = 1 := by kernel_rfl
  have c30 : Try.prog.cellsOf 30 = 1 := by kernel_rfl
  have c4 : Try.prog.cellsOf 4 = 1 := by kernel_rfl
  rw [hc] at hlen
  match cs, hlen with
  | [v0, v1, v2, v3, v4], _ =>
    match xs, hxs with
    | [y0, y1, y2, y3, y4], _ =>
      have e0 := hel 0 _ rfl
      have e1 := hel 1 _ rfl
      have e2 := hel 2 _ rfl
      have e3 := hel 3 _ rfl
      have e4 := hel 4 _ rfl
      have e0 : DataW.trod enc Try.prog W 0 (fun _ => true) true k 3 (List.take (Try.prog.cellsOf 3) [v0, v1, v2, v3, v4]) = some y0 := e0
      have e1 : DataW.trod enc Try.prog W 0 (fun _ => true) true k 9 (List.take (Try.prog.cellsOf 9) [v1, v2, v3, v4]) = some y1 := e1
      have e2 : DataW.trod enc Try.prog W 0 (fun _ => true) true k 9 (List.take (Try.prog.cellsOf 9) [v2, v3, v4]) = some y2 := e2
      have e3 : DataW.trod enc Try.prog W 0 (fun _ => true) true k 30 (List.take (Try.prog.cellsOf 30) [v3, v4]) = some y3 := e3
      have e4 : DataW.trod enc Try.prog W 0 (fun _ => true) true k 4 (List.take (Try.prog.cellsOf 4) [v4]) = some y4 := e4
      rw [c3] at e0; rw [c9] at e1; rw [c9] at e2; rw [c30] at e3; rw [c4] at e4
      obtain ⟨n0, q0, _, _⟩ := DataW.trod_int Try.underlying3 e0
      obtain ⟨s1, q1, _, _⟩ := DataW.trod_string Try.underlying9 e1
      obtain ⟨s2, q2, _, _⟩ := DataW.trod_string Try.underlying9 e2
      obtain ⟨n3, q3, _, _⟩ := DataW.trod_int Try.underlying30 e3
      obtain ⟨b4, q4, _⟩ := DataW.trod_bool Try.underlying4 e4
      have q0 : [v0] = [Value.int .i64 n0] := q0
      have q1 : [v1] = [Value.string s1] := q1
      have q2 : [v2] = [Value.string s2] := q2
      have q3 : [v3] = [Value.int .u64 n3] := q3
      have q4 : [v4] = [Value.bool b4] := q4
      cases q0; cases q1; cases q2; cases q3; cases q4
      exact ⟨⟨n0, s1, n3, s2, b4⟩, rfl⟩

theorem made_of {x : DataW H × List MemPlace} {fuel : Nat} {a0 : Option Addr} {l c : Nat} (h : DataW.trod enc Try.prog W 0 (fun _ => true) true fuel 22 [.slice a0 l c] = some x) : l ≤ c ∧ ∃ f, MadeAt W a0 l f := by
  rcases Go.Deep.open_slice Try.underlying22 h with ⟨e, _⟩ | ⟨a, len, cap, m, n, D, Pl, e, _, hl, _, hm, _, hx⟩
  · cases e; exact ⟨Nat.le_refl _, fun _ => It.zero, fun i hi => absurd hi (by omega)⟩
  · cases e
    have key : ∀ i, ∃ x : It, i < l → W.cell? (Addr.add a (i * 5)) = some (.int .i64 x.conn) ∧ W.cell? (Addr.add (Addr.add a (i * 5)) 1) = some (.string x.body) ∧
        W.cell? (Addr.add (Addr.add a (i * 5)) 2) = some (.string x.nonce) ∧ W.cell? (Addr.add (Addr.add a (i * 5)) 3) = some (.int .u64 x.now) ∧ W.cell? (Addr.add (Addr.add a (i * 5)) 4) = some (.bool x.drawn) := by
      intro i
      by_cases hi : i < l
      · obtain ⟨cs', h1, h2⟩ := hx i (by rw [hm]; split <;> omega)
        have hc : Try.prog.cellsOf 36 = 5 := by kernel_rfl
        rw [hc] at h1
        obtain ⟨x, rfl⟩ := made_one h2
        obtain ⟨_, hcell⟩ := cells_get h1
        refine ⟨x, fun _ => ⟨?_, ?_, ?_, ?_, ?_⟩⟩
        · exact hcell 0 (by decide)
        · exact hcell 1 (by decide)
        · exact hcell 2 (by decide)
        · exact hcell 3 (by decide)
        · exact hcell 4 (by decide)
      · exact ⟨It.zero, fun h => (hi h).elim⟩
    exact ⟨hl, fun i => (key i).choose, fun i hi => ⟨a, rfl, (key i).choose_spec hi⟩⟩
theorem acts_of {x : DataW H × List MemPlace} {fuel : Nat} {a0 : Option Addr} {l c : Nat} (h : DataW.trod enc Try.prog W 0 (fun _ => true) true fuel 23 [.slice a0 l c] = some x) : ActsAt W a0 l := by
  intro i hi
  rcases Go.Deep.open_slice Try.underlying23 h with ⟨e, _⟩ | ⟨a, len, cap, m, n, D, Pl, e, _, hl, _, hm, _, hx⟩
  · cases e; exact absurd hi (by omega)
  · cases e
    obtain ⟨cs', h1, h2⟩ := hx i (by rw [hm]; split <;> omega)
    have hc : Try.prog.cellsOf 5 = 1 := by kernel_rfl
    rw [hc] at h1
    obtain ⟨n0, rfl, _, w0⟩ := DataW.trod_int Try.underlying5 h2
    obtain ⟨_, hcell⟩ := cells_get h1
    exact ⟨a, n0, rfl, hcell 0 (by decide)⟩
end

set_option maxRecDepth 100000 in
theorem plays_lifted (os : Os) (started : os.Started) (H : Type) (enc : TypeId × Value → H) :
    ReturnsInHanded {} Try.checked os 3 .any (Rows.queuePlaysSpec.pre6 enc Try.prog Try.f3 Rows.queuePlaysRow.domain false) (Rows.queuePlaysSpec.post enc Try.prog Try.f3 false true false false) := by
  refine returnsInHanded_of_change (C := Try.checked) own_prog started (by kernel_rfl) Try.func3
    (ChangeSpec.witness6 (enc := enc) (C := Try.checked) false ⟨#[], #[.slice none 0 0, .slice none 0 0], []⟩ 8 (by kernel_rfl) (by kernel_rfl) (by kernel_rfl) (by kernel_rfl)) ?_
  intro W base args ds gs before hval0 hW hcnd _
  have hW' := hW
  obtain ⟨p, q, hA0, hV, rfl, hfz, hnd⟩ := hW
  have hA : DataW.TrodAll enc Try.prog W 0 (fun _ => true) true Try.f3.params.toList args.toList ds p := hA0
  have hlt : ∀ x ∈ p, x.block < W.heap.size := fun x hx => hW'.lt x (by simp [hx])
  rw [Try.params3] at hA
  obtain ⟨v, v', d, d', p1, p2, rfl, rfl, hpp, hd, hd'⟩ := trodAll_two hA
  obtain ⟨rfl, rfl⟩ := trodVars_none hV
  have hval : Value.okWide Try.prog W .any base 22 v := hval0 0 22 v (by rw [Try.params3]; rfl) rfl
  have hval' : Value.okWide Try.prog W .any base 23 v' := hval0 1 23 v' (by rw [Try.params3]; rfl) rfl
  obtain ⟨a0, l, c, rfl⟩ := okWide_slice Try.underlying22 hval
  obtain ⟨a1, l1, c1, rfl⟩ := okWide_slice Try.underlying23 hval'
  obtain ⟨fuel, hf⟩ := hd
  obtain ⟨fuel', hf'⟩ := hd'
  obtain ⟨hlc, f, hm⟩ := made_of hf
  simp only [List.append_nil] at hW'
  refine mono_call (plays_spec W a0 l c a1 l1 c1 f hm (acts_of hf') hlc) fun v W' ⟨hv, u⟩ => ?_
  subst hv
  exact ⟨_, rfl, post_of_upd (pa := p) (pv := []) hW' u (fun _ _ _ => trodAll_mk1 (shut_bool Try.underlying4 _))
    (fun sp hs => trodAll_keep laid u Try.f3.params.toList _ _ _ (by rw [Try.params3]; intro t ht; simp at ht; rcases ht with rfl | rfl <;> exact ⟨by kernel_rfl, by decide +kernel⟩) hA0 hlt (fun x hx => hs x hx))
    (fun _ _ => rfl) (by simp)
    (ok_one (by kernel_rfl) rfl (okWide_bool_mk Try.underlying4 _))⟩

theorem plays_holds : Rows.QueuePlaysSaid :=
  OpenClaim.holds_of_wide 3 Try.f3 rfl rfl rfl rfl rfl rfl rfl ⟨rfl, rfl, rfl, rfl, rfl⟩ rfl rfl rfl rfl rfl (by kernel_rfl) Try.func3 (by kernel_rfl)
    (of_decide_eq_true (by kernel_rfl)) (by unfold Func.isWrapper; first | (rw [if_pos (by decide +kernel)]; kernel_rfl) | (rw [if_neg (by decide +kernel)]; exact ⟨rfl, rfl⟩))
    (fun os started H enc _ => plays_lifted os started H enc)
end Plays
end Go.Proofs.Ytkfbocfmiecblaa
#print axioms Go.Proofs.Ytkfbocfmiecblaa.Plays.plays_holds
