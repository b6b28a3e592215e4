/- QueuePlays: the walk. -/
import Derived.Test.YtkfbocfmiecblaaQ11
namespace Go.Proofs.Ytkfbocfmiecblaa
open Go.SX

set_option maxRecDepth 100000 in
set_option maxHeartbeats 4000000 in
theorem plays_spec (W : World) (x0 : Option Addr) (x0l x0c : Nat) (x1 : Option Addr) (x1l x1c : Nat) (f : Nat → It) (hm : MadeAt W x0 x0l f) (ha : ActsAt W x1 x1l) (hc : x0l ≤ x0c) :
    callC Try.prog 3 #[.slice x0 x0l x0c, .slice x1 x1l x1c] W fun v w' => v = .bool true ∧ Upd No W w' := by
  refine plays_ve _ _ _ _ _ _ _ _ ?_
  refine ⟨by omega, by split <;> omega, by split <;> omega, ?_⟩
  have hLl : Int.toNat (if 40 < (x0l : Int) then 40 else (x0l : Int)) - 0 ≤ x0l := by split <;> omega
  generalize Int.toNat (if 40 < (x0l : Int) then 40 else (x0l : Int)) - 0 = L at hLl ⊢
  refine callC_of (new_law (Upd.refl No W)) fun r w1 ⟨q, bs, hv, h1, _, _⟩ => ⟨_, hv, newC_mk fun w4 hb4 u4 s4 => brC_ff rfl ?_⟩
  have hw1 := h1.1.size
  have S0 : St W w4 q bs [] w1.heap.size (.slice none 0 0) [] := by
    refine ⟨h1.upd u4, ⟨hb4, RowAt.nil _ _ _, fun e => by cases e⟩, ?_⟩
    rintro k (rfl | e)
    · refine ⟨hw1, fun e => ?_⟩
      obtain ⟨_, fr, hq, _⟩ := h1
      have := hq.toQI.foot_lt e; omega
    · cases e
  generalize w1.heap.size = k3 at S0 ⊢
  refine ⟨fun w => Upd No W w, fun w6 hu d => callC_of (works_spec W w6 hu) fun v w9 ⟨hv, hu⟩ => ⟨_, hv, rfl, hu⟩, ?_⟩
  refine ⟨fun n13 n14 w => ∃ N i : Nat, ∃ ms bs v, n13 = N ∧ n14 = i ∧ N ≤ i ∧ i ≤ 500 ∧ PI W f L q k3 N ms bs v w, fun _ n14 _ => (500 - n14).toNat, ⟨0, 0, [], bs, _, rfl, rfl, by omega, by omega, by simp, fun _ => rfl, S0⟩, ?_⟩
  rintro n13 n14 w15 ⟨N, i, ms, bs, v, e13, e14, hNi, hi5, P⟩ d
  subst e13 e14
  refine ⟨fun w => w = w15 ∧ i < x1l ∧ i < 500, fun w18 hx d => ?_, ?_⟩
  rotate_left
  · refine brC_intro (fun h1 => brC_intro (fun h2 => ⟨rfl, ?_, ?_⟩) fun _ => P.st.lq.1) fun _ => P.st.lq.1
    · simpa using h1
    · have : (i : Int) < 500 := by simpa using h2
      omega
  obtain ⟨rfl, hix, hi⟩ := hx
  refine ⟨fun n21 w => ∃ N' : Nat, ∃ ms bs v, n21 = N' ∧ N' ≤ i + 1 ∧ PI W f L q k3 N' ms bs v w, ?_, ?_⟩
  · rintro n21 w22 ⟨N', ms, bs, v, e, hN', P⟩ d
    subst e
    rw [wrap_small (by omega) (by omega)]
    exact ⟨⟨N', i + 1, ms, bs, v, rfl, by omega, hN', by omega, P⟩, by dsimp only; omega⟩
  refine newC_mk fun w25 hb25 u25 s25 => newC_mk fun w27 hb27 u27 s27 => ?_
  refine stC_mk (hb25.upd u27 id) (by simp) fun w28 hb28 u28 s28 => ?_
  have u28 : Upd (· = w18.heap.size) w27 w28 := u28
  refine st5 (i := 0) (hb27.upd u28 (by omega)) (by simp) fun w33 hb33 u33 s33 => ?_
  have u33 : Upd (· = w25.heap.size) w28 w33 := u33
  have u : Upd No w18 w33 := ((u25.trans u27 fun _ _ => id).trans u28 fun k hk e => by omega).trans u33 fun k hk e => by omega
  have P33 : PI W f L q k3 N ms bs v w33 := ⟨P.few, P.none, P.st.no u⟩
  have B : Box (Out W q bs k3 v) w33 w25.heap.size _ 32 := ⟨hb33, P.st.new (by omega)⟩
  have hcs : ItAt _ 0 It.zero := setIt_at #[.int .i64 0, .string (ByteArray.mk #[]), .int .u64 0, .string (ByteArray.mk #[]), .bool false] 0 It.zero (by simp)
  have A : At (Out W q bs k3 v) w33 w18.heap.size (.slice none 0 0) [] := by
    refine ⟨⟨hb28.upd u33 (by omega), RowAt.nil _ _ _, fun e => by cases e⟩, ?_⟩
    rintro k (rfl | e)
    · exact P.st.new (by omega)
    · cases e
  have hne : w25.heap.size ≠ w18.heap.size := by omega
  generalize w25.heap.size = k26 at *
  generalize w18.heap.size = k24 at *
  refine ⟨fun n35 w => ∃ N' : Nat, ∃ ms bs v cs, n35 = N' ∧ N' ≤ i + 1 ∧ PI W f L q k3 N' ms bs v w ∧ Box (Out W q bs k3 v) w k26 cs 32 ∧ cs.size = 5, ?_, ?_⟩
  · rintro n35 w36 ⟨N', ms, bs, v, cs, e, hN', P, B, hcs⟩ d
    subst e
    refine callC_of P.st.first fun r w39 ⟨hr, S1, u1⟩ => ⟨_, _, _, _, _, _, hr, ?_⟩
    have B1 := B.go (Gone.no u1)
    refine box_item (x := (ms.map (F f L)).headD It.zero) (by simp) fun w52 ⟨cb, hb, ib, _⟩ u52 => ?_
    have hk : k26 ≠ w39.heap.size := by have := B1.blk.lt; omega
    have B2 := B1.go (Gone.no u52)
    refine st5 (i := 0) B2.blk (by omega) fun w57 hb57 u57 s57 => ?_
    have u57 : Upd (· = k26) w52 w57 := u57
    have S57 := (S1.no u52).keep u57 fun k e => e ▸ B.out
    have hbx := hb.upd u57 (Ne.symm hk)
    generalize w39.heap.size = kx at *
    refine ⟨fun w => ∃ cs, St W w q bs (ms.map (F f L)) k3 v (nat ms) ∧ Box (Out W q bs k3 v) w k26 cs 32 ∧ ItAt cs 0 ((ms.map (F f L)).headD It.zero) ∧ Blk w kx cb 32, ?_, ?_⟩
    · rintro w59 ⟨cs9, S9, B9, i9, hx9⟩ d
      refine ⟨fun b w => b = false ∧ St W w q bs (ms.map (F f L)) k3 v (nat ms), ?_, ?_⟩
      · rintro b w63 ⟨rfl, S⟩ d
        exact brC_ff rfl ⟨N', ms, bs, v, rfl, hN', ⟨P.few, P.none, S⟩⟩
      · refine drawC_mk fun w65 u65 s65 => ?_
        have S5 := S9.no u65
        have hx5 := hx9.upd u65 id
        have B5 := B9.go (Gone.no u65)
        obtain ⟨p, c, rfl, _, hcell⟩ := S5.rq.open
        refine ⟨fun w => w = w65, _, _, _, hcell, fun w e => by subst e; exact lds_slice hcell, brC_ff ?_ ?_⟩
        · cases ms <;> simp [nat]
        · refine ⟨_, hx5.cell ib.c0, _, hx5.cell ib.c1, _, hx5.cell ib.c2, _, hx5.cell ib.c3, _, hx5.cell ib.c4, fun w e => by subst e; exact lds_item hx5 ib,
            _, B5.blk.cell i9.c0, _, B5.blk.cell i9.c1, _, B5.blk.cell i9.c2, _, B5.blk.cell i9.c3, _, B5.blk.cell i9.c4, fun w e => by subst e; exact lds_item B5.blk i9,
            neq_same _ _ _ _ ⟨_, rfl, brC_ff rfl ⟨_, _, _, hcell, fun w e => by subst e; exact lds_slice hcell, callC_of S5.len fun v w90 ⟨hv, e⟩ => ?_, trivial⟩⟩⟩
          subst e
          exact ⟨_, hv, rfl, by simp [nat], S5⟩
    · refine callC_of S57.rfirst fun r w93 ⟨hr, e⟩ => ⟨_, hr, ?_⟩
      subst e
      have B57 : Box (Out W q bs k3 v) w57 k26 _ 32 := ⟨hb57, B.out⟩
      refine brC_intro (fun hp => ?_) fun hn => ?_
      · obtain ⟨m, ms', rfl⟩ : ∃ m ms', ms = m :: ms' := by
          cases ms with
          | nil => simp [nat, hd] at hp
          | cons m ms' => exact ⟨m, ms', rfl⟩
        have h0 : 0 < L := Nat.pos_of_ne_zero fun e => by have := P.none e; cases this
        refine fetch hm S57.lq.1 m h0 hLl fun w102 u102 => ?_
        have B2 := B57.go (Gone.no u102)
        refine st5 (i := 0) B2.blk (by simp; omega) fun w112 hb112 u112 s112 => ?_
        have u112 : Upd (· = k26) w102 w112 := u112
        exact ⟨_, (S57.no u102).keep u112 fun k e => e ▸ B.out, ⟨hb112, B.out⟩, setIt_at _ 0 (f (m % L)) (by simp; omega), (hbx.upd u102 id).upd u112 (Ne.symm hk)⟩
      · have : ms = [] := by
          cases ms with
          | nil => rfl
          | cons m ms' => simp [nat, hd] at hn
        subst this
        exact ⟨_, S57, B57, setIt_at _ 0 It.zero (by omega), hbx⟩
  · refine ⟨fun b w => w = w33 ∧ (b = true → 0 < L), ?_, ?_⟩
    rotate_left
    · obtain ⟨a, n, rfl, hc⟩ := ha i hix
      refine ⟨by omega, by omega, ptrC_some ⟨n, ?_, ?_⟩⟩
      · rw [Int.toNat_natCast]; exact cell_upd hc P33.st.lq.1
      · refine brC_intro (fun _ => ⟨rfl, fun h => ?_⟩) fun _ => ⟨rfl, fun e => by cases e⟩
        have : (L : Int) > 0 := by simpa using h
        omega
    rintro b w115 ⟨e115, hbL⟩ d
    subst e115
    refine brC_intro (fun hb => ?_) fun hb => ?_
    · have h0 := hbL hb
      refine fetch hm P33.st.lq.1 N h0 hLl fun w124 u124 => ?_
      refine callC_of ((P33.st.no u124).put (F f L N) (by have := P.few; simp; omega)) fun r w131 ⟨hr, bs2, S2, g2⟩ => ⟨hr, ?_⟩
      refine callC_of (S2.rput N (by have := P.few; simp [nat]; omega)) fun r w133 ⟨hr, v3, S3, g3⟩ => ⟨hr, ?_⟩
      rw [wrap_small (by omega) (by omega)]
      refine ⟨N + 1, ms ++ [N], bs2, v3, _, rfl, by omega, ⟨by have := P.few; simp; omega, fun e => by omega, ?_⟩, ((B.go (Gone.no u124)).go g2).go g3, by simp⟩
      have e1 : (ms ++ [N]).map (F f L) = ms.map (F f L) ++ [F f L N] := by simp
      have e2 : nat (ms ++ [N]) = nat ms ++ [(N : Int)] := by simp [nat]
      rw [e1, e2]
      exact S3
    · obtain ⟨a, n, rfl, hc⟩ := ha i hix
      refine ⟨by omega, by omega, ptrC_some ⟨n, by rw [Int.toNat_natCast]; exact cell_upd hc P33.st.lq.1, ?_⟩⟩
      refine brC_intro (fun _ => ?_) fun _ => ?_
      · refine callC_of P33.st.rfirst fun r w137 ⟨hr, e⟩ => ⟨_, hr, ?_⟩
        subst e
        refine callC_of (rput_spec A.rq _ (by simp)) fun r w140 ⟨hr, v4, R4, u4, f4⟩ => ⟨hr, ?_⟩
        refine ⟨N, ms, bs, v, _, rfl, by omega, ⟨P.few, P.none, P33.st.keep u4 A.out⟩, ⟨B.blk.upd u4 ?_, B.out⟩, by simp⟩
        rintro (e | e)
        · exact hne e
        · cases e
      · refine callC_of (P33.st.rtake (nat_pos ms)) fun r w142 ⟨hr, v2, S2, g2⟩ => ⟨_, hr, ?_⟩
        have A2 := A.go g2
        have B2 := B.go g2
        refine callC_of (rput_spec A2.rq _ (by simp)) fun r w145 ⟨hr, v4, R4, u4, f4⟩ => ⟨hr, ?_⟩
        have hn4 : ¬ RFoot k24 (.slice none 0 0) k26 := by
          rintro (e | e)
          · exact hne e
          · cases e
        have S4 := S2.keep u4 A2.out
        have B4 : Box (Out W q bs k3 v2) w145 k26 _ 32 := ⟨B2.blk.upd u4 hn4, B2.out⟩
        have A4 : At (Out W q bs k3 v2) w145 k24 v4 [hd (nat ms)] := ⟨R4, fun j hj => (f4 j hj).elim (A2.out j) fun h => S2.new h⟩
        have hf4 : ¬ RFoot k24 v4 k26 := fun e => (f4 _ e).elim hn4 fun h => by have := B2.blk.lt; omega
        refine callC_of (S4.take (by have := P.few; simp; omega)) fun r w147 ⟨hr, bs5, S5, g5⟩ => ⟨_, _, _, _, _, _, hr, ?_⟩
        have A5 := A4.go g5
        have B5 := B4.go g5
        refine box_item (x := (ms.map (F f L)).headD It.zero) (by simp) fun w160 ⟨cb, hb, ib, _⟩ u160 => ?_
        have hk : k26 ≠ w147.heap.size := by have := B5.blk.lt; omega
        have S6 := S5.no u160
        have A6 := A5.go (Gone.no u160)
        have B6 := B5.go (Gone.no u160)
        obtain ⟨p4, c4, rfl, hc4, hcell⟩ := A6.rq.open
        obtain ⟨g, o, rfl, hg⟩ := A6.rq.get (j := 0) (by simp)
        have hg : w160.cell? ⟨g, o, none⟩ = some (.int .i64 (hd (nat ms))) := hg
        generalize w147.heap.size = kx at *
        refine ⟨fun w => ∃ cs, St W w q bs5 (ms.map (F f L)).tail k3 v2 (nat ms).tail ∧ Box (Out W q bs5 k3 v2) w k26 cs 32 ∧ cs.size = 5 ∧ ItAt cs 0 ((ms.map (F f L)).headD It.zero) ∧ Blk w kx cb 32 ∧
          w.cell? ⟨k24, 0, none⟩ = some (.slice (some ⟨g, o, none⟩) 1 c4) ∧ w.cell? ⟨g, o, none⟩ = some (.int .i64 (hd (nat ms))), ?_, ?_⟩
        · rintro w162 ⟨cs2, S7, B7, hs7, i7, hx7, hcell7, hg7⟩ d
          refine ⟨fun b w => b = false ∧ w = w162, ?_, ?_⟩
          · rintro b w166 ⟨rfl, rfl⟩ d
            refine brC_ff rfl ⟨N, ms.tail, bs5, v2, cs2, rfl, by omega, ⟨by have := P.few; simp; omega, fun e => by rw [P.none e]; rfl, ?_⟩, B7, hs7⟩
            rw [nat, List.map_tail, List.map_tail]
            exact S7
          · refine ⟨_, _, _, hcell7, by omega, by simp, ptrC_some ⟨_, hg7, brC_ff ?_ ⟨_, hx7.cell ib.c0, _, hx7.cell ib.c1, _, hx7.cell ib.c2, _, hx7.cell ib.c3, _, hx7.cell ib.c4,
              _, B7.blk.cell i7.c0, _, B7.blk.cell i7.c1, _, B7.blk.cell i7.c2, _, B7.blk.cell i7.c3, _, B7.blk.cell i7.c4, neq_same _ _ _ _ ⟨_, rfl, rfl, rfl⟩⟩⟩⟩
            cases ms <;> simp [nat, hd]
        · refine ⟨_, _, _, hcell, by omega, by simp, ptrC_some ⟨_, hg, brC_intro (fun hp => ?_) fun hn => ?_⟩⟩
          · obtain ⟨m, ms', rfl⟩ : ∃ m ms', ms = m :: ms' := by
              cases ms with
              | nil => simp [nat, hd] at hp
              | cons m ms' => exact ⟨m, ms', rfl⟩
            have h0 : 0 < L := Nat.pos_of_ne_zero fun e => by have := P.none e; cases this
            refine ⟨_, _, _, hcell, by omega, by simp, ptrC_some ⟨_, hg, fetch hm S6.lq.1 m h0 hLl fun w202 u202 => ?_⟩⟩
            have B7 := B6.go (Gone.no u202)
            have A7 := A6.go (Gone.no u202)
            refine st5 (i := 0) B7.blk (by simp) fun w212 hb212 u212 s212 => ?_
            have u212 : Upd (· = k26) w202 w212 := u212
            have A8 := A7.rq.upd u212 fun k hj e => by subst e; exact hf4 hj
            refine ⟨_, (S6.no u202).keep u212 fun k e => e ▸ B6.out, ⟨hb212, B6.out⟩, by simp, setIt_at _ 0 (f (m % L)) (by simp), (hb.upd u202 id).upd u212 (Ne.symm hk), A8.blk.cell rfl, ?_⟩
            obtain ⟨g8, o8, e8, hg8⟩ := A8.get (j := 0) (by simp)
            cases e8
            exact hg8
          · have : ms = [] := by
              cases ms with
              | nil => rfl
              | cons m ms' => simp [nat, hd] at hn
            subst this
            exact ⟨_, S6, B6, by simp, hcs, hb, hcell, hg⟩
end Go.Proofs.Ytkfbocfmiecblaa
