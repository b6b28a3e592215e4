/- PlanKnown: the walk. -/
import Derived.Test.YtkacocaekffdgaaP3
import Derived.Test.YtkacocaekffdgaaVq
namespace Go.Proofs.Ytkacocaekffdgaa
open Go.SX

def kPs : List ByteArray := [b1 97, b1 98, b1 99, b1 100, b1 101, b1 102, b1 103]
def kImps : List (List ByteArray) := [[b1 98, b1 99], [b1 100], [b1 100], [b1 120], [b1 102], [b1 101, b1 97], [b1 103]]
def kO : List ByteArray := [b1 101, b1 102, b1 103, b1 100, b1 98, b1 99, b1 97]
theorem k_order : orderOf kPs (adjOf kPs kImps) = kO := by
  rw [orderC_eq (n := 4) (by decide +kernel)]
  decide +kernel
theorem k_perm : kO.Perm kPs := by rw [← k_order]; exact order_perm _ (by decide +kernel)

/-! ### the second plan: six rounds -/
def ixQ (i : Nat) : Nat := [3, 4, 5, 6, 1, 0].getD i 0
def nmQ (i : Nat) : ByteArray := kO.getD (ixQ i) (b1 0)
def stQ : Nat → (Nat → Bool) × (Nat → Bool)
  | 0 => (firstW kO [b1 97, b1 100], fun _ => false)
  | i + 1 => (fun j => ((stQ i).1 j && !decide (j = ixQ i)) || (actB kO (fun j => (stQ i).2 j || decide (j = ixQ i)) (nmQ i) true && impB kO (adjOf kPs kImps) (nmQ i) j && !((stQ i).2 j || decide (j = ixQ i))), fun j => (stQ i).2 j || decide (j = ixQ i))
def preQ : Nat → ByteArray
  | 0 => ByteArray.mk #[]
  | i + 1 => preQ i ++ nmQ i ++ ByteArray.mk #[46]
theorem q_next : ∀ i, i < 6 → least kO.length (stQ i).1 = some (ixQ i) ∧ kO[ixQ i]? = some (nmQ i) := by decide +kernel
theorem q_size : ∀ i, i < 6 → (preQ i).size + (nmQ i).size ≤ 100 ∧ (preQ i ++ nmQ i).size + 1 ≤ 100 := by decide +kernel
theorem q_text : (ByteArray.toList (preQ 6) == ByteArray.toList (ByteArray.mk #[100, 46, 98, 46, 99, 46, 97, 46, 102, 46, 101, 46])) = true := by decide +kernel
theorem q_end : cnt kO.length (stQ 6).1 = 0 := by decide +kernel

set_option maxRecDepth 20000 in
theorem pknown_spec (w : World) : callC Try.prog 10 #[] w fun v w' => v = .bool true ∧ Upd No w w' := by
  refine pknown _ _ (newC_mk fun w1 h1 u1 _ => newC_mk fun w3 h3 u3 _ => newC_mk fun w5 h5 u5 _ => newC_mk fun w7 h7 u7 _ => newC_mk fun w9 h9 u9 _ => newC_mk fun w11 h11 u11 _ => newC_mk fun w13 h13 u13 _ => newC_mk fun w15 h15 u15 _ => newC_mk fun w17 h17 u17 _ => ?_)
  have a15 : Upd No w15 w17 := u17
  have a13 : Upd No w13 w17 := u15.trans a15 fun _ _ => id
  have a11 : Upd No w11 w17 := u13.trans a13 fun _ _ => id
  have a9 : Upd No w9 w17 := u11.trans a11 fun _ _ => id
  have a7 : Upd No w7 w17 := u9.trans a9 fun _ _ => id
  have a5 : Upd No w5 w17 := u7.trans a7 fun _ _ => id
  have a3 : Upd No w3 w17 := u5.trans a5 fun _ _ => id
  have a1 : Upd No w1 w17 := u3.trans a3 fun _ _ => id
  have hP : StrsAt w17 (some ⟨w.heap.size, 0, none⟩) kPs := (strsAt_blk (l := kPs) h1).keep a1
  have hI : ImpsAt w17 (some ⟨w15.heap.size, 0, none⟩) kImps := impsAt_blk (imps := kImps) h17 fun i hi => by
    match i, hi with
    | 0, _ => exact ⟨_, _, rfl, (strsAt_blk (l := [b1 98, b1 99]) h3).keep a3, Nat.le_of_ble_eq_true rfl⟩
    | 1, _ => exact ⟨_, _, rfl, (strsAt_blk (l := [b1 100]) h5).keep a5, Nat.le_of_ble_eq_true rfl⟩
    | 2, _ => exact ⟨_, _, rfl, (strsAt_blk (l := [b1 100]) h7).keep a7, Nat.le_of_ble_eq_true rfl⟩
    | 3, _ => exact ⟨_, _, rfl, (strsAt_blk (l := [b1 120]) h9).keep a9, Nat.le_of_ble_eq_true rfl⟩
    | 4, _ => exact ⟨_, _, rfl, (strsAt_blk (l := [b1 102]) h11).keep a11, Nat.le_of_ble_eq_true rfl⟩
    | 5, _ => exact ⟨_, _, rfl, (strsAt_blk (l := [b1 101, b1 97]) h13).keep a13, Nat.le_of_ble_eq_true rfl⟩
    | 6, _ => exact ⟨_, _, rfl, (strsAt_blk (l := [b1 103]) h15).keep a15, Nat.le_of_ble_eq_true rfl⟩
  refine callC_of (new_spec (ps := kPs) (imps := kImps) hP hI (by decide) 7 7) fun v w19 ⟨u19, h⟩ => ?_
  rcases h with ⟨_, h⟩ | ⟨g, m, f, hv, _, _, G⟩
  · exact (h (by decide +kernel)).elim
  have u019 : Upd No w w19 := (u1.trans a1 fun _ _ => id).trans u19 fun _ _ => id
  refine ⟨_, hv, newC_mk fun w22 h22 u22 _ => callC_of (pnew_spec (G.keep u22) (by decide) (by decide +kernel) (strsAt_blk (l := [b1 99, b1 100, b1 120, b1 99]) h22) (by decide) 4) fun v w24 ⟨W0, mb, k, bs, vO, nh, hv, P, u0, u24⟩ => ⟨_, hv, ?_⟩⟩
  have G0 := (G.keep u22).keep u0
  have u0' : Upd No w W0 := (u019.trans u22 fun _ _ => id).trans u0 fun _ _ => id
  rw [k_order] at P
  have hsm : ∀ p ∈ kPs, p.size ≤ maxLen := by decide +kernel
  refine ⟨(w24 = ·), ?_, fun b w' => b = false ∧ w24 = w', fun b w104 ⟨hb, e⟩ d => brC_ff hb e, brC_ff rfl (callC_of (plen_spec P) fun v w107 ⟨hv, e⟩ => ⟨_, hv, brC_ff (by decide +kernel) (callC_of (pnew_nil w107 none 0 0) fun v w110 ⟨hv, e'⟩ => ⟨_, hv, rfl, e.trans e'⟩)⟩)⟩
  rintro w27 rfl d
  refine callC_of (done_spec P G0 k_perm hsm (b1 99) true) fun v w30 ⟨hv, ⟨_, P1⟩, _⟩ => ⟨hv, ?_⟩
  refine callC_of (next_is P1 (i := 3) (x := b1 100) (by decide +kernel) (by decide +kernel)) fun v w32 ⟨hv, ⟨_, P2⟩, _⟩ => ⟨_, _, hv, ?_⟩
  refine callC_of (plen_spec P2) fun v w36 ⟨hv, e⟩ => ⟨_, hv, ?_⟩
  subst e
  refine callC_of (done_spec P2 G0 k_perm hsm (b1 100) false) fun v w39 ⟨hv, ⟨_, P3⟩, _⟩ => ⟨hv, ?_⟩
  refine callC_of (next_is P3 (i := 5) (x := b1 99) (by decide +kernel) (by decide +kernel)) fun v w41 ⟨hv, ⟨_, P4⟩, _⟩ => ⟨_, _, hv, ?_⟩
  refine callC_of (done_spec P4 G0 k_perm hsm (b1 99) true) fun v w45 ⟨hv, ⟨_, P5⟩, _⟩ => ⟨hv, ?_⟩
  refine callC_of (plen_spec P5) fun v w47 ⟨hv, e⟩ => ⟨_, hv, ?_⟩
  subst e
  refine callC_of (next_is P5 (i := 6) (x := b1 97) (by decide +kernel) (by decide +kernel)) fun v w50 ⟨hv, ⟨_, P6⟩, _⟩ => ⟨_, _, hv, ?_⟩
  refine callC_of (done_spec P6 G0 k_perm hsm (b1 99) true) fun v w54 ⟨hv, ⟨_, P7⟩, _⟩ => ⟨hv, ?_⟩
  refine callC_of (done_spec P7 G0 k_perm hsm ⟨#[122, 122]⟩ true) fun v w56 ⟨hv, ⟨_, P8⟩, _⟩ => ⟨hv, ?_⟩
  refine callC_of (done_spec P8 G0 k_perm hsm (b1 98) true) fun v w58 ⟨hv, ⟨_, P9⟩, _⟩ => ⟨hv, ?_⟩
  refine callC_of (next_no P9 (by decide +kernel)) fun v w60 ⟨hv, e⟩ => ⟨_, _, hv, ?_⟩
  subst e
  have u058 : Upd No w w58 := u0'.trans P9.old fun _ _ => id
  have G58 := G0.keep P9.old
  refine ⟨(w58 = ·), ?_, fun b w' => b = false ∧ w58 = w', fun b w100 ⟨hb, e⟩ d => brC_ff hb e, brC_ff (by decide +kernel) (brC_ff (by decide +kernel) (brC_ff (by decide +kernel) (brC_ff (by decide +kernel) (brC_ff (by decide +kernel) ⟨rfl, rfl⟩))))⟩
  rintro w64 rfl d
  clear P P1 P2 P3 P4 P5 P6 P7 P8 P9 G0
  refine newC_mk fun w67 h67 u67 _ => callC_of (pnew_spec (G58.keep u67) (by decide) hsm (strsAt_blk (l := [b1 97, b1 100]) h67) (by decide) 2) fun v w69 ⟨W1, mb', k', bs', vO', nh', hv, P, u1', u69⟩ => ⟨_, hv, brC_ff rfl ?_⟩
  have G1 := (G58.keep u67).keep u1'
  have u1'' : Upd No w W1 := (u058.trans u67 fun _ _ => id).trans u1' fun _ _ => id
  rw [k_order] at P
  refine ⟨fun s n w' => ∃ i : Nat, n = i ∧ i ≤ 6 ∧ s = preQ i ∧ ∃ nh, PlanAt W1 w' g mb' k' bs' vO' kO (stQ i).1 (stQ i).2 nh, fun _ n _ => (6 - n).toNat, ⟨0, rfl, by omega, rfl, _, P⟩, ?_⟩
  rintro s73 n74 w75 ⟨i, rfl, hi, rfl, nh, P75⟩ d
  refine brC_intro (fun hlt => ?_) fun hge => ?_
  · have hlt : i < 6 := by have := of_decide_eq_true hlt; omega
    obtain ⟨q1, q2⟩ := q_next i hlt
    obtain ⟨z1, z2⟩ := q_size i hlt
    have hw : IntKind.wrap .i64 ((i : Int) + 1) = ((i + 1 : Nat) : Int) := Go.SX.wrap_small (by omega) (by omega)
    rw [hw]
    refine callC_of (next_is P75 q1 q2) fun v w78 ⟨hv, ⟨_, P78⟩, _⟩ => ⟨_, _, hv, ?_⟩
    refine callC_of (done_spec P78 G1 k_perm hsm (nmQ i) true) fun v w82 ⟨hv, ⟨nh2, P82⟩, _⟩ => ⟨hv, by omega, by omega, ⟨i + 1, rfl, hlt, rfl, nh2, P82⟩, by dsimp only; omega⟩
  · have : i = 6 := by have := of_decide_eq_false hge; omega
    subst this
    have u075 : Upd No w w75 := u1''.trans P75.old fun _ _ => id
    refine callC_of (done_nil w75 (b1 97) true) fun v w84 ⟨hv, e⟩ => ⟨hv, ?_⟩
    subst e
    refine callC_of (next_nil w75) fun v w86 ⟨hv, e⟩ => ⟨_, _, hv, brC_tt q_text ?_⟩
    subst e
    refine callC_of (plen_spec P75) fun v w90 ⟨hv, e⟩ => ⟨_, hv, brC_tt (by rw [q_end]; rfl) (brC_tt rfl ?_)⟩
    subst e
    refine callC_of (plen_nil w75) fun v w93 ⟨hv, e⟩ => ⟨_, hv, brC_tt rfl ?_⟩
    subst e
    exact callC_of (pworks_spec w75) fun v w96 ⟨hv, u96⟩ => ⟨_, hv, rfl, u075.trans u96 fun _ _ => id⟩
end Go.Proofs.Ytkacocaekffdgaa
