/- GraphOrders: the walk. -/
import Derived.Test.YtkacocaekffdgaaG12
import Derived.Test.YtkacocaekffdgaaVl
namespace Go.Proofs.Ytkacocaekffdgaa
open Go.SX

theorem bytesLess_data {a b : ByteArray} (h : a.data.toList < b.data.toList) : Op.bytesLess a.toList b.toList = true := by
  rw [ByteArray.toList_eq, ByteArray.toList_eq, bytesLess_lt, decide_eq_true_eq]; exact h
theorem adjOf_at {ps : List ByteArray} {imps : List (List ByteArray)} (hn : ps.Nodup) {i : Nat} (hi : i < ps.length) (hi' : i < imps.length) : adjOf ps imps ps[i] = uniq ps imps[i] := by
  unfold adjOf
  rw [assoc_at hn i hi]
  simp [hi']

theorem orders_spec {w : World} {x0 x1 : Option Addr} {ps : List ByteArray} {imps : List (List ByteArray)} (hP0 : StrsAt w x0 ps) (hI0 : ImpsIn w x1 imps) (c0 c1 : Nat) (h0 : ps.length ≤ c0) (hsz : ∀ p ∈ ps, p.size ≤ maxLen) :
    callC Try.prog 4 #[.slice x0 ps.length c0, .slice x1 imps.length c1] w fun v w' => v = .bool true ∧ Upd No w w' := by
  refine lorders _ _ _ _ _ _ _ _ (callC_of (works_spec w) fun v w1 ⟨hv, u1⟩ => ⟨_, hv, brC_ff rfl ?_⟩)
  have hI1 : ImpsIn w1 x1 imps := fun i hi => by
    obtain ⟨a, p, c, e, hc, hs, hl⟩ := hI0 i hi
    exact ⟨a, p, c, e, cell_keep hc u1, hs.keep u1, hl⟩
  refine callC_of (cut_spec (hP0.keep u1) hI1 c0 c1 h0) fun v w4 ⟨u4, p8, k9, k10, hv, hk9, hk9c, hrow⟩ => ⟨_, _, _, _, _, _, hv, ?_⟩
  have hP1 : StrsAt w1 x0 (ps.take 40) := strsAt_take (hP0.keep u1) 40
  have hI4 := impsAt_row hrow u4
  have hlenP : (ps.take 40).length = min ps.length 40 := by rw [List.length_take, Nat.min_comm]
  have hszP : ∀ p ∈ ps.take 40, p.size ≤ maxLen := fun p hp => hsz p (List.mem_of_mem_take hp)
  generalize hPd : ps.take 40 = P at hP1 hlenP hszP
  generalize hId : cut40 imps = I at hrow hk9 hI4
  subst hk9
  rw [← hlenP]
  have hP40 : P.length ≤ 40 := by omega
  refine callC_of (new_spec (hP1.keep u4) hI4 (by omega) c0 k10) fun v w12 ⟨u12, h⟩ => ?_
  rcases h with ⟨hv, _⟩ | ⟨g, m, f, hv, hPI, hN, G⟩
  · exact ⟨_, hv, brC_tt rfl ⟨rfl, (u1.trans u4 fun _ _ => id).trans u12 fun _ _ => id⟩⟩
  refine ⟨_, hv, brC_ff rfl (callC_of (order_spec G (by omega) hszP) fun v w15 ⟨hO, u15, _⟩ => ?_)⟩
  obtain ⟨p16, k17, k18, rfl, _⟩ := hO.shape
  have hk := rowAt_len hO
  subst hk
  have hperm := order_perm (adjOf P I) hN
  have hSO := StrsAt.of_row hO
  have u115 : Upd No w1 w15 := (u4.trans u12 fun _ _ => id).trans u15 fun _ _ => id
  have u015 : Upd No w w15 := u1.trans u115 fun _ _ => id
  have G15 := G.keep u15
  have hP15 := hP1.keep u115
  have hI15 := impsAt_keep hI4 (u12.trans u15 fun _ _ => id)
  generalize hOd : orderOf P (adjOf P I) = O at hperm hSO ⊢
  have hOl := hperm.length_eq
  clear hO hrow
  refine ⟨_, _, _, rfl, brC_ff (by simp [hOl]) ?_⟩
  refine ⟨fun n w' => ∃ i : Nat, n = i ∧ i ≤ P.length ∧ Upd No w15 w', fun n _ => (P.length - n).toNat, ⟨0, rfl, Nat.zero_le _, Upd.refl _ _⟩, ?_⟩
  rintro n21 w22 ⟨i, rfl, hi, u22⟩ d
  refine brC_intro (fun hlt => ?_) fun hge => ?_
  · have hlt : i < P.length := by simpa using hlt
    have hltI : i < I.length := by omega
    have hPi : P[i] ∈ P := List.getElem_mem hlt
    have hAt : ∀ w', Upd No w15 w' → ∃ a, x0 = some a ∧ w'.cell? (Addr.add a (Int.toNat (i : Int) * 1)) = some (.string P[i]) := fun w' u => by
      rw [Int.toNat_natCast]; exact hP15.keep u i hlt
    obtain ⟨a, rfl, ha⟩ := hAt w22 u22
    refine ⟨by omega, by omega, ptrC_some ⟨_, ha, callC_of (place_spec (hSO.keep u22) (by simp only [maxLen]; omega) _ _) fun v w27 ⟨hv, e⟩ => ⟨_, hv, ?_⟩⟩⟩
    subst e
    have hn28 := idxAt_in (i := 0) (hperm.mem_iff.2 hPi)
    refine brC_ff (by simpa using hn28.1) ?_
    obtain ⟨aI, pI, cI, e8, hcI, hsI, hlI⟩ := hI15 i hltI
    subst e8
    refine ⟨fun n w' => ∃ k : Nat, n = k ∧ k ≤ I[i].length ∧ Upd No w15 w', fun n _ => (I[i].length - n).toNat, ⟨0, rfl, Nat.zero_le _, u22⟩, ?_⟩
    rintro n31 w32 ⟨k, rfl, hk, u32⟩ d
    have hcIat : ∀ w', Upd No w15 w' → w'.cell? (Addr.add aI (Int.toNat (i : Int) * 1)) = some (.slice pI I[i].length cI) := fun w' u => by
      rw [Int.toNat_natCast]; exact cell_keep hcI u
    refine ⟨by omega, by omega, ptrC_some ⟨_, _, _, hcIat w32 u32, brC_intro (fun hlt2 => ?_) fun hge2 => ?_⟩⟩
    · have hlt2 : k < I[i].length := by simpa using hlt2
      have hqAt : ∀ w', Upd No w15 w' → ∃ a, pI = some a ∧ w'.cell? (Addr.add a (Int.toNat (k : Int) * 1)) = some (.string I[i][k]) := fun w' u => by
        rw [Int.toNat_natCast]; exact hsI.keep u k hlt2
      have hqI : I[i][k] ∈ I[i] := List.getElem_mem hlt2
      generalize I[i][k] = q at hqAt hqI
      refine ⟨fun w' => Upd No w15 w', fun w39 u39 d => ?_, ?_⟩
      · have hw : IntKind.wrap .i64 ((k : Int) + 1) = ((k + 1 : Nat) : Int) := Go.SX.wrap_small (by omega) (by omega)
        rw [hw]
        exact ⟨⟨k + 1, rfl, hlt2, u39⟩, by dsimp only; omega⟩
      obtain ⟨aq, rfl, hq⟩ := hqAt w32 u32
      refine ⟨by omega, by omega, ptrC_some ⟨_, _, _, hcIat w32 u32, by omega, by omega, ptrC_some ⟨_, hq, callC_of (place_spec (hSO.keep u32) (by simp only [maxLen]; omega) _ _) fun v w48 ⟨hv, e⟩ => ⟨_, hv, ?_⟩⟩⟩⟩
      subst e
      have hadj : q ∈ P → q ∈ adjOf P I P[i] := fun hqP => by
        rw [adjOf_at hN hlt hltI]
        exact ((uniq_inv P I[i]).2 q).2 ⟨hqP, hqI⟩
      refine ⟨fun w' => Upd No w15 w', fun w51 u51 d => ?_, ?_⟩
      · refine ⟨fun b w' => b = false ∧ Upd No w15 w', fun b w55 ⟨hb, u55⟩ d => brC_ff hb u55, drawC_mk fun w57 u57 s57 => ⟨fun w' => Upd No w15 w', ?_⟩⟩
        have u57 : Upd No w15 w57 := u51.trans u57 fun _ _ => id
        refine brC_intro (fun hin => ?_) fun hout => ?_
        · have hqO : q ∈ O := (idxAt_mem O q 0).1 (by simpa using hin)
          have hqP := hperm.mem_iff.1 hqO
          obtain ⟨_, e, hq57⟩ := hqAt w57 u57
          cases e
          obtain ⟨_, e, ha57⟩ := hAt w57 u57
          cases e
          refine ⟨by omega, by omega, ptrC_some ⟨_, _, _, hcIat w57 u57, fun w' u => lds_slice22 (hcIat w' u), by omega, by omega, ptrC_some ⟨_, hq57, fun w' u => lds_str (by obtain ⟨_, e, h⟩ := hqAt w' u; cases e; exact h),
            by omega, by omega, ptrC_some ⟨_, ha57, fun w' u => lds_str (by obtain ⟨_, e, h⟩ := hAt w' u; cases e; exact h), ?_, trivial⟩⟩⟩⟩
          refine callC_of (above_spec (G15.keep u57) (by omega) hszP q) fun v w71 ⟨hA, u71, _⟩ => ?_
          obtain ⟨p72, k73, k74, rfl, _⟩ := hA.shape
          have hk := rowAt_len hA
          subst hk
          have u071 := u57.trans u71 fun _ _ => id
          have hmem : P[i] ∈ sortB (P.filter fun p => decide (q ∈ adjOf P I p)) := mem_sortB.2 (List.mem_filter.2 ⟨hPi, by simpa using hadj hqP⟩)
          have hl74 : (sortB (P.filter fun p => decide (q ∈ adjOf P I p))).length ≤ 40 := by
            rw [length_sortB]; exact Nat.le_trans (List.length_filter_le _ _) hP40
          refine ⟨_, _, _, rfl, u071, callC_of (place_spec (StrsAt.of_row hA) (by simp only [maxLen]; omega) _ _) fun v w76 ⟨hv, e⟩ => ⟨_, hv, e ▸ u071, ?_, e ▸ u071⟩, trivial⟩
          have := idxAt_in (i := 0) hmem
          simpa using this.1
        · exact ⟨⟨⟨rfl, u57⟩, trivial⟩, trivial⟩
      · refine ⟨fun b w' => b = false ∧ Upd No w15 w', fun b w80 ⟨hb, u80⟩ d => brC_ff hb u80, by omega, by omega, ?_⟩
        obtain ⟨_, e, ha32⟩ := hAt w32 u32
        cases e
        refine ptrC_some ⟨_, ha32, callC_of (cyclic_spec (G15.keep u32) P[i]) fun v w85 ⟨b, hv, hb, u85⟩ => ⟨b, hv, ?_⟩⟩
        have u85 : Upd No w15 w85 := u32.trans u85 fun _ _ => id
        refine brC_intro (fun hnb => ⟨?_, u85⟩) fun _ => ⟨rfl, u85⟩
        have hnc : ¬ Reach (adjOf P I) P[i] P[i] := fun h => by rw [hb.2 h] at hnb; cases hnb
        by_cases hqP : q ∈ P
        · have := order_before hN hPi hnc hqP (hadj hqP)
          rw [hOd] at this
          simpa using this
        · rw [idxAt_out (fun h => hqP (hperm.mem_iff.1 h))]
          have := hn28.1
          simp; omega
    · have hw : IntKind.wrap .i64 ((i : Int) + 1) = ((i + 1 : Nat) : Int) := Go.SX.wrap_small (by omega) (by omega)
      rw [hw]
      exact ⟨⟨i + 1, rfl, hlt, u32⟩, by dsimp only; omega⟩
  · refine ⟨fun n w' => ∃ k : Nat, n = ((k + 1 : Nat) : Int) ∧ k ≤ O.length ∧ Upd No w15 w', fun n _ => (O.length + 1 - n).toNat, ⟨0, rfl, Nat.zero_le _, u22⟩, ?_⟩
    rintro n89 w90 ⟨k, rfl, hk, u90⟩ d
    refine brC_intro (fun hlt => ?_) fun hge2 => ⟨rfl, u015.trans u90 fun _ _ => id⟩
    have hlt : k + 1 < O.length := by have h := of_decide_eq_true hlt; omega
    have hw : IntKind.wrap .i64 (((k + 1 : Nat) : Int) + 1) = ((k + 1 + 1 : Nat) : Int) := Go.SX.wrap_small (by omega) (by omega)
    have hw2 : IntKind.wrap .i64 (((k + 1 : Nat) : Int) - 1) = (k : Int) := by
      rw [Go.SX.wrap_small (by omega) (by omega)]; omega
    refine ⟨fun w' => Upd No w15 w', fun w93 u93 d => ?_, ?_⟩
    · rw [hw]
      exact ⟨⟨k + 1, rfl, by omega, u93⟩, by dsimp only; omega⟩
    refine ⟨fun b w' => b = false ∧ Upd No w15 w', fun b w97 ⟨hb, u97⟩ d => brC_ff hb u97, drawC_mk fun w99 u99 s99 => ⟨fun w' => Upd No w15 w', ?_⟩⟩
    have u99 : Upd No w15 w99 := u90.trans u99 fun _ _ => id
    rw [hw2]
    have hAt : ∀ j, (hj : j < O.length) → ∀ w', Upd No w15 w' → ∃ a, p16 = some a ∧ w'.cell? (Addr.add a (Int.toNat (j : Int) * 1)) = some (.string O[j]) := fun j hj w' u => by
      rw [Int.toNat_natCast]; exact hSO.keep u j hj
    obtain ⟨a, rfl, ha⟩ := hAt (k + 1) hlt w99 u99
    have hrise : Reach (adjOf P I) O[k + 1] O[k + 1] → Reach (adjOf P I) O[k] O[k] ∧ O[k].data.toList < O[k + 1].data.toList := by
      subst hOd
      exact order_rising hN hlt
    refine ⟨by omega, by omega, ptrC_some ⟨_, ha, fun w' u => lds_str (by obtain ⟨_, e, h⟩ := hAt (k + 1) hlt w' u; cases e; exact h), callC_of (cyclic_spec (G15.keep u99) O[k + 1]) fun v w105 ⟨b, hv, hb, u105⟩ => ⟨b, hv, u99.trans u105 fun _ _ => id, ?_⟩, trivial⟩⟩
    have u105 : Upd No w15 w105 := u99.trans u105 fun _ _ => id
    refine brC_intro (fun hbt => ?_) fun _ => ⟨⟨rfl, u105⟩, trivial⟩
    obtain ⟨hr1, hr2⟩ := hrise (hb.1 hbt)
    obtain ⟨_, e, ha105⟩ := hAt k (by omega) w105 u105
    cases e
    refine ⟨by omega, by omega, ptrC_some ⟨_, ha105, fun w' u => lds_str (by obtain ⟨_, e, h⟩ := hAt k (by omega) w' u; cases e; exact h), callC_of (cyclic_spec (G15.keep u105) O[k]) fun v w111 ⟨b, hv, hb, u111⟩ => ⟨b, hv, u105.trans u111 fun _ _ => id, ?_⟩, trivial⟩⟩
    have u111 : Upd No w15 w111 := u105.trans u111 fun _ _ => id
    refine brC_ff (by rw [hb.2 hr1]; rfl) ?_
    obtain ⟨_, e, hb1⟩ := hAt k (by omega) w111 u111
    cases e
    obtain ⟨_, e, hb2⟩ := hAt (k + 1) hlt w111 u111
    cases e
    refine ⟨by omega, by omega, ptrC_some ⟨_, hb1, fun w' u => lds_str (by obtain ⟨_, e, h⟩ := hAt k (by omega) w' u; cases e; exact h), by omega, by omega, ptrC_some ⟨_, hb2, fun w' u => lds_str (by obtain ⟨_, e, h⟩ := hAt (k + 1) hlt w' u; cases e; exact h), ?_, u111⟩⟩⟩
    rw [bytesLess_data hr2]; rfl
end Go.Proofs.Ytkacocaekffdgaa
