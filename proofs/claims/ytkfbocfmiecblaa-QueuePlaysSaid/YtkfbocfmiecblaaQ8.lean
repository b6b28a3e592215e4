/- QueueOrder: the walk. -/
import Derived.Test.YtkfbocfmiecblaaQ7
import Derived.Test.YtkfbocfmiecblaaVd
namespace Go.Proofs.Ytkfbocfmiecblaa
open Go.SX

/-- the request that is put at turn k. -/
def mk (k : Nat) : It := ⟨k, ByteArray.mk #[], k, ByteArray.mk #[], false⟩
/-- those that wait: t to p - 1. -/
def rng (t p : Nat) : List It := (List.range (p - t)).map fun i => mk (t + i)
theorem rng_self (t : Nat) : rng t t = [] := by simp [rng]
theorem rng_snoc {t p : Nat} (h : t ≤ p) : rng t p ++ [mk p] = rng t (p + 1) := by
  unfold rng
  have e : t + (p - t) = p := by omega
  rw [show p + 1 - t = (p - t) + 1 by omega, List.range_succ, List.map_append]
  simp [e]
theorem rng_cons {t p : Nat} (h : t < p) : rng t p = mk t :: rng (t + 1) p := by
  unfold rng
  rw [show p - t = (p - (t + 1)) + 1 by omega, List.range_succ_eq_map, List.map_cons, List.map_map]
  congr 1
  apply List.map_congr_left
  intro i _
  show mk (t + (i + 1)) = mk (t + 1 + i)
  congr 1; omega
theorem rng_length (t p : Nat) : (rng t p).length = p - t := by simp [rng]

theorem cell_upd {W w : World} {a : Addr} {v : Value} (h : W.cell? a = some v) (u : Upd No W w) : w.cell? a = some v := by
  have hb := World.block_lt_of_cell? W a h
  have := u.block a.block hb id
  unfold World.cell? at *
  rw [this]; exact h

/-- what the law reads of its argument. -/
def TurnsAt (W : World) (x0 : Option Addr) (l : Nat) : Prop :=
  ∀ i, i < l → ∃ (a : Addr) (n m : Int), x0 = some a ∧ W.cell? (Addr.add a (i * 2)) = some (.int .u8 n) ∧ W.cell? (Addr.add (Addr.add a (i * 2)) 1) = some (.int .u8 m) ∧ 0 ≤ n ∧ n ≤ 255 ∧ 0 ≤ m ∧ m ≤ 255

theorem u64_small {x : Int} (h0 : 0 ≤ x) (h1 : x ≤ 18446744073709551615) : IntKind.wrap .u64 x = x := IntWalk.u64_in x ⟨h0, h1⟩

set_option maxHeartbeats 2000000 in
theorem order_spec (W : World) (x0 : Option Addr) (l c : Nat) (ht : TurnsAt W x0 l) : callC Try.prog 4 #[.slice x0 l c] W fun v w' => v = .bool true ∧ Upd No W w' := by
  refine order_vd _ _ _ _ _ ?_
  refine callC_of (new_law (Upd.refl No W)) fun v w1 ⟨q, bs, hv, h1, _, _⟩ => ⟨_, hv, brC_ff rfl ?_⟩
  refine ⟨fun n4 n5 w => ∃ t p : Nat, n4 = p ∧ n5 = t ∧ t ≤ p ∧ p ≤ 15300 ∧ ∃ bs, LQ W w q bs (rng t p), fun n4 n5 w6 hx d => ?_, ?_⟩
  · obtain ⟨t, p, rfl, rfl, htp, hp, bs, hq⟩ := hx
    refine ⟨fun n w => ∃ t : Nat, n = t ∧ t ≤ p ∧ ∃ bs, LQ W w q bs (rng t p), fun n w => (p - n).toNat, ⟨t, rfl, htp, bs, hq⟩, fun n10 w11 hx d => ?_⟩
    obtain ⟨s, rfl, hsp, bs, hq⟩ := hx
    refine brC_intro (fun hlt => ?_) fun hge => ?_
    · have hlt : s < p := by simpa using hlt
      rw [rng_cons hlt] at hq
      refine ⟨fun w => ∃ bs, LQ W w q bs (rng (s + 1) p), fun w14 hx d => ?_, ?_⟩
      · obtain ⟨bs, hq⟩ := hx
        rw [wrap_small (by omega) (by omega)]
        exact ⟨⟨s + 1, by omega, by omega, bs, hq⟩, by dsimp only; omega⟩
      · refine callC_of (take_law hq (by rw [rng_length]; omega)) fun v w17 ⟨hv, bs2, h2, s2⟩ => ⟨_, _, _, _, _, _, hv, ?_⟩
        refine box_item (x := mk s) (by simp) fun w30 ⟨cb, hb, ib, _⟩ u30 => ?_
        refine ⟨fun b w => b = false ∧ ∃ bs, LQ W w q bs (rng (s + 1) p), fun b w ⟨e, hx⟩ d => brC_ff e hx, brC_ff rfl ⟨_, hb.cell ib.c0, ?_, bs2, h2.upd u30⟩⟩
        simp [mk]
    · have hge : s = p := by
        have : ¬ ((s : Int) < (p : Int)) := by simpa using hge
        omega
      subst hge
      rw [rng_self] at hq
      refine callC_of (first_law0 hq) fun v w37 ⟨hv, h3, u3⟩ => ⟨_, _, _, _, _, _, hv, ?_⟩
      refine box_item (x := It.zero) (by simp) fun w50 _ u50 => brC_tt rfl ?_
      refine callC_of (len_law (h3.upd u50)) fun v w52 ⟨hv, e⟩ => ⟨_, hv, brC_tt rfl ?_⟩
      subst e
      exact callC_of (works_spec W w50 (h3.upd u50).1) fun v w55 ⟨hv, hu⟩ => ⟨_, hv, rfl, hu⟩
  · refine ⟨fun n59 n60 n61 w => ∃ t p i : Nat, n59 = p ∧ n60 = t ∧ n61 = i ∧ t ≤ p ∧ p ≤ 255 * i ∧ i ≤ 60 ∧ ∃ bs, LQ W w q bs (rng t p), fun _ _ n61 _ => (60 - n61).toNat,
      ⟨0, 0, 0, rfl, rfl, rfl, by omega, by omega, by omega, bs, by rw [rng_self]; exact h1⟩, ?_⟩
    rintro n59 n60 n61 w62 ⟨t, p, i, e59, e60, e61, htp, hpi, hi, bs, hq⟩ d
    subst e59 e60 e61
    refine ⟨fun w => w = w62 ∧ i < l ∧ i < 60, fun w65 hx d => ?_, ?_⟩
    · obtain ⟨rfl, hil, hi60⟩ := hx
      obtain ⟨a, n, m, ha, hn, hm, hn0, hn1, hm0, hm1⟩ := ht i hil
      subst ha
      refine ⟨fun n69 n70 w => ∃ r k : Nat, n69 = ((p + k : Nat) : Int) ∧ n70 = k ∧ k ≤ 255 ∧ r = p + k ∧ ∃ bs, LQ W w q bs (rng t (p + k)), fun _ n70 _ => (256 - n70).toNat, ⟨p, 0, rfl, rfl, by omega, rfl, bs, hq⟩, ?_⟩
      rintro n69 n70 w71 ⟨r, k, e69, e70, hk, hr, bs, hq⟩ d
      subst e69 e70
      refine ⟨by omega, by omega, ?_⟩
      refine ptrC_some ⟨by omega, by omega, n, ?_, ?_⟩
      · rw [Int.toNat_natCast]; exact cell_upd hn hq.1
      rw [wrap_small (by omega) (by omega)]
      refine brC_intro (fun hlt => ?_) fun hge => ?_
      · have hlt : (k : Int) < n := by simpa using hlt
        rw [u64_small (by omega) (by omega), wrap_small (by omega) (by omega), wrap_small (by omega) (by omega)]
        refine callC_of (put_law hq (mk (p + k)) (by rw [rng_length]; omega)) fun v w76 ⟨hv, bs2, h2, s2⟩ => ⟨hv, ⟨p + k + 1, k + 1, by omega, by omega, by omega, by omega, bs2, ?_⟩, by dsimp only; omega⟩
        rw [rng_snoc (by omega)] at h2
        exact h2
      · -- all put: now some are taken
        obtain ⟨P, hP⟩ : ∃ P, P = p + k := ⟨_, rfl⟩
        rw [← hP] at hq ⊢
        refine ⟨fun n79 n80 w => ∃ s k : Nat, n79 = s ∧ n80 = k ∧ k ≤ 255 ∧ s ≤ P ∧ ∃ bs, LQ W w q bs (rng s P), fun _ n80 _ => (256 - n80).toNat, ⟨t, 0, rfl, rfl, by omega, by omega, bs, hq⟩, ?_⟩
        rintro n79 n80 w81 ⟨s, k2, e79, e80, hk2, hsP, bs, hq⟩ d
        subst e79 e80
        refine ⟨by omega, by omega, ?_⟩
        refine ptrC_some ⟨by omega, by omega, m, ?_, ?_⟩
        · rw [Int.toNat_natCast]; exact cell_upd hm hq.1
        rw [wrap_small (x := m) (by omega) (by omega)]
        refine brC_intro (fun hlt2 => ?_) fun hge2 => ?_
        · have hlt2 : (k2 : Int) < m := by simpa using hlt2
          refine ⟨fun n86 w => ∃ s : Nat, n86 = s ∧ s ≤ P ∧ ∃ bs, LQ W w q bs (rng s P), ?_, ?_⟩
          · rintro n86 w87 ⟨s2, e86, hs2, bs, hq⟩ d
            subst e86
            rw [wrap_small (by omega) (by omega)]
            exact ⟨⟨s2, k2 + 1, rfl, by omega, by omega, hs2, bs, hq⟩, by dsimp only; omega⟩
          · by_cases hsp : s < P
            · rw [rng_cons hsp] at hq
              refine callC_of (take_law hq (by rw [rng_length]; omega)) fun v w90 ⟨hv, bs2, h2, s2⟩ => ⟨_, _, _, _, _, _, hv, ?_⟩
              refine box_item (x := mk s) (by simp) fun w103 ⟨cb, hb, ib, _⟩ u103 => ?_
              refine ⟨fun w => ∃ bs, LQ W w q bs (rng (s + 1) P), ?_, fun b w => b = false ∧ ∃ bs, LQ W w q bs (rng (s + 1) P), fun b w ⟨e, hx⟩ d => brC_ff e hx, ?_⟩
              · rintro w105 ⟨bs, hq⟩ d
                rw [wrap_small (by omega) (by omega)]
                exact brC_tt rfl ⟨s + 1, by omega, by omega, bs, hq⟩
              · refine brC_ff (by simp; omega) (brC_tt rfl ⟨_, hb.cell ib.c0, brC_ff (by simp [mk]) ⟨_, hb.cell ib.c2, ?_, bs2, h2.upd u103⟩⟩)
                rw [u64_small (by omega) (by omega)]
                simp [mk]
            · have hsp : s = P := by omega
              subst hsp
              rw [rng_self] at hq
              refine callC_of (take_law0 hq) fun v w90 ⟨hv, h2, u2⟩ => ⟨_, _, _, _, _, _, hv, ?_⟩
              refine box_item (x := It.zero) (by simp) fun w103 _ u103 => ?_
              refine ⟨fun w => ∃ bs, LQ W w q bs [], ?_, fun b w => b = false ∧ ∃ bs, LQ W w q bs [], fun b w ⟨e, hx⟩ d => brC_ff e hx, ?_⟩
              · rintro w105 ⟨bs, hq⟩ d
                exact brC_ff rfl ⟨s, rfl, by omega, bs, by rw [rng_self]; exact hq⟩
              · exact brC_ff (by simp) (brC_ff rfl ⟨rfl, bs, h2.upd u103⟩)
        · refine callC_of (len_law hq) fun v w114 ⟨hv, e⟩ => ⟨_, hv, ?_⟩
          subst e
          rw [rng_length, wrap_small (by omega) (by omega), wrap_small (by omega) (by omega)]
          refine brC_ff ?_ ⟨⟨s, P, i + 1, rfl, rfl, by omega, hsP, by omega, by omega, bs, hq⟩, by dsimp only; omega⟩
          have : ((P - s : Nat) : Int) = (P : Int) - (s : Int) := by omega
          rw [this]; simp
    · have hfin : ∃ t' p' : Nat, (p : Int) = p' ∧ (t : Int) = t' ∧ t' ≤ p' ∧ p' ≤ 15300 ∧ ∃ bs, LQ W w62 q bs (rng t' p') := ⟨t, p, rfl, rfl, htp, by omega, bs, hq⟩
      refine brC_intro (fun h1 => brC_intro (fun h2 => ⟨rfl, ?_, ?_⟩) fun _ => hfin) fun _ => hfin
      · simpa using h1
      · have : (i : Int) < 60 := by simpa using h2
        omega
end Go.Proofs.Ytkfbocfmiecblaa
