/- PlanPlays: the walk. -/
import Derived.Test.YtkacocaekffdgaaP7
namespace Go.Proofs.Ytkacocaekffdgaa
open Go.SX

/-- both plans, side by side. -/
structure Duo (W0 w : World) (g mb k bs : Nat) (vO : Value) (gr kr bw bp : Nat) (vO' : Value) (O : List ByteArray) (Wt Ps Wt' Ps' : Nat → Bool) (nh : Nat) : Prop where
  p : PlanAt W0 w g mb k bs vO O Wt Ps nh
  r : RPlanAt w gr kr bw bp vO' O Wt' Ps'
  a1 : ¬ PFt w k bs kr
  a2 : ¬ PFt w k bs bw
  a3 : ¬ PFt w k bs bp
  a4 : ∀ b, InRow vO' b → ¬ PFt w k bs b
  l1 : bs < bw
  l2 : bs < bp
theorem duo_p {W0 w w' : World} {g mb k bs : Nat} {vO : Value} {gr kr bw bp : Nat} {vO' : Value} {O : List ByteArray} {Wt Ps Wt' Ps' Wt2 Ps2 : Nat → Bool} {nh nh2 : Nat} (h : Duo W0 w g mb k bs vO gr kr bw bp vO' O Wt Ps Wt' Ps' nh) (st : PStep k bs w w') (P : PlanAt W0 w' g mb k bs vO O Wt2 Ps2 nh2) :
    Duo W0 w' g mb k bs vO gr kr bw bp vO' O Wt2 Ps2 Wt' Ps' nh2 := by
  have hf : ∀ b, b < w.heap.size → ¬ PFt w k bs b → ¬ PFt w' k bs b := fun b hb hn hf => (st.foot b hf).elim hn fun h => by omega
  exact ⟨P, rplan_upd h.r st.upd h.a1 h.a2 h.a3 h.a4, hf _ h.r.blk.lt h.a1, hf _ (flag_lt h.r.wt) h.a2, hf _ (flag_lt h.r.ps) h.a3, fun b hb => hf b (h.r.row.lt hb) (h.a4 b hb), h.l1, h.l2⟩
theorem duo_r {W0 w w' : World} {g mb k bs : Nat} {vO : Value} {gr kr bw bp : Nat} {vO' : Value} {O : List ByteArray} {Wt Ps Wt' Ps' Wt2 Ps2 : Nat → Bool} {nh : Nat} (h : Duo W0 w g mb k bs vO gr kr bw bp vO' O Wt Ps Wt' Ps' nh) (u : Upd (RFt bw bp) w w') (R : RPlanAt w' gr kr bw bp vO' O Wt2 Ps2) :
    Duo W0 w' g mb k bs vO gr kr bw bp vO' O Wt Ps Wt2 Ps2 nh := by
  have hk := planAt_lt h.p
  have nk : ¬ RFt bw bp k := by
    rintro (e | e)
    · exact h.a2 (.inl e.symm)
    · exact h.a3 (.inl e.symm)
  have hf : ∀ b, ¬ PFt w k bs b → ¬ PFt w' k bs b := fun b hn hf => hn (foot_upd hk u nk hf)
  exact ⟨planAt_upd h.p u fun b hb => hb.elim (fun e => e ▸ ⟨h.l1, h.a2⟩) fun e => e ▸ ⟨h.l2, h.a3⟩, R, hf _ h.a1, hf _ h.a2, hf _ h.a3, fun b hb => hf b (h.a4 b hb), h.l1, h.l2⟩
theorem duo_keep {W0 w w' : World} {g mb k bs : Nat} {vO : Value} {gr kr bw bp : Nat} {vO' : Value} {O : List ByteArray} {Wt Ps Wt' Ps' : Nat → Bool} {nh : Nat} (h : Duo W0 w g mb k bs vO gr kr bw bp vO' O Wt Ps Wt' Ps' nh) (u : Upd No w w') : Duo W0 w' g mb k bs vO gr kr bw bp vO' O Wt Ps Wt' Ps' nh := by
  have hk := planAt_lt h.p
  have hf : ∀ b, ¬ PFt w k bs b → ¬ PFt w' k bs b := fun b hn hf => hn (foot_upd hk u id hf)
  exact ⟨planAt_keep h.p u, rplan_keep h.r u, hf _ h.a1, hf _ h.a2, hf _ h.a3, fun b hb => hf b (h.a4 b hb), h.l1, h.l2⟩

set_option maxRecDepth 20000 in
theorem plays_spec {w : World} {x0 x1 xf xa : Option Addr} {ps : List ByteArray} {imps : List (List ByteArray)} {first : List ByteArray} {la : Nat} (hP0 : StrsAt w x0 ps) (hI0 : ImpsIn w x1 imps) (hF0 : StrsAt w xf first) (hA0 : ActsIn w xa la) (c0 c1 cf ca : Nat) (h0 : ps.length ≤ c0) (hf : first.length ≤ cf) (hsz : ∀ p ∈ ps, p.size ≤ maxLen) :
    callC Try.prog 8 #[.slice x0 ps.length c0, .slice x1 imps.length c1, .agg #[.slice xf first.length cf, .slice xa la ca]] w fun v w' => v = .bool true ∧ Upd No w w' := by
  refine pplays _ _ _ _ _ _ _ _ _ _ _ _ _ _ (newC_mk fun w1 h1 u1 s1 => ?_)
  have hI1 : ImpsIn w1 x1 imps := fun i hi => by
    obtain ⟨a, p, c, e, hc, hs, hl⟩ := hI0 i hi
    exact ⟨a, p, c, e, cell_keep hc u1, hs.keep u1, hl⟩
  generalize hk0 : w.heap.size = k0 at h1 s1
  refine callC_of (small_spec (ps := ps) hI1 c0 c1 h0) fun v w3 ⟨u3, p8, k9, k10, hv, hk9, hk9c, hrow⟩ => ⟨_, _, _, _, _, _, hv, ?_⟩
  have hN1 : smallN ps.length imps.length ≤ ps.length ∧ smallN ps.length imps.length ≤ imps.length ∧ smallN ps.length imps.length ≤ 12 := by unfold smallN; omega
  generalize smallN ps.length imps.length = N at hk9 hrow hN1
  have hP1 : StrsAt w (x0) (ps.take N) := strsAt_take hP0 N
  have hI3 := impsAt_row hrow u3
  have hlenP : (ps.take N).length = N := by rw [List.length_take]; omega
  have hszP : ∀ p ∈ ps.take N, p.size ≤ maxLen := fun p hp => hsz p (List.mem_of_mem_take hp)
  generalize hPd : ps.take N = P at hP1 hlenP hszP
  have hlenI : (cut12 N imps).length = N := by simp [cut12]; omega
  generalize hId : cut12 N imps = I at hrow hk9 hI3 hlenI
  subst hk9
  subst hlenP
  have u03 : Upd No w w3 := u1.trans u3 fun _ _ => id
  refine callC_of (new_spec (hP1.keep u03) hI3 (by omega) c0 k10) fun v w11 ⟨u11, h⟩ => ?_
  have u011 : Upd No w w11 := u03.trans u11 fun _ _ => id
  have hr := rnew_spec (hP1.keep u011) (impsAt_keep hI3 u11) (by omega) c0 k10
  rcases h with ⟨hv, hno⟩ | ⟨g, m, f, hv, hPI, hN, G⟩
  · refine ⟨_, hv, callC_of hr fun v w14 ⟨u14, h⟩ => ?_⟩
    rcases h with ⟨hv, _⟩ | ⟨_, _, _, _, h1, h2, _⟩
    · refine ⟨_, hv, brC_tt rfl (brC_tt rfl (callC_of (pnew_nil w14 _ _ _) fun v w17 ⟨hv, e⟩ => ⟨_, hv, brC_tt rfl (callC_of (pworks_spec w17) fun v w20 ⟨hv, u20⟩ => ⟨_, hv, rfl, ?_⟩)⟩))⟩
      subst e
      exact (u011.trans u14 fun _ _ => id).trans u20 fun _ _ => id
    · exact (hno ⟨h1, h2⟩).elim
  refine ⟨_, hv, callC_of hr fun v w14 ⟨u14, h⟩ => ?_⟩
  rcases h with ⟨_, h⟩ | ⟨gr, vP, vT, hv', _, _, R⟩
  · exact (h ⟨hPI, hN⟩).elim
  refine ⟨_, hv', brC_ff rfl ?_⟩
  have L := links_of hN hPI
  have u014 : Upd No w w14 := u011.trans u14 fun _ _ => id
  have G14 := G.keep u14
  have hperm := order_perm (adjOf P I) hN
  generalize adjOf P I = A at G14 L hperm
  generalize I.map (tosF P) = tos at R L
  have h14 := ((h1.upd u3 id).upd u11 id).upd u14 id
  have hF20 : StrsAt w xf (first.take 20) := strsAt_take hF0 20
  have hFl : (first.take 20).length = min first.length 20 := by rw [List.length_take, Nat.min_comm]
  generalize hFd : first.take 20 = F at hF20 hFl
  clear G hr hI3 hrow
  refine ⟨fun q q' w' => ∃ W0 mb k bs vO kr bw bp vO' nh Wt Ps, q = some ⟨k, 0, none⟩ ∧ q' = some ⟨kr, 0, none⟩ ∧ Duo W0 w' g mb k bs vO gr kr bw bp vO' (orderOf P A) Wt Ps Wt Ps nh ∧ Upd No w14 W0, ?_, drawC_mk fun w112 u112 s112 => ?_⟩
  · rintro q q' w25 ⟨W0, mb, k, bs, vO, kr, bw, bp, vO', nh, Wt, Ps, rfl, rfl, D25, u14W⟩ d
    have GW := G14.keep u14W
    have RW := rGraphAt_keep R u14W
    have hW := h14.upd u14W id
    have u0W : Upd No w W0 := u014.trans u14W fun _ _ => id
    generalize orderOf P A = O at D25 hperm
    refine ⟨fun w' => ∃ nh Wt Ps, Duo W0 w' g mb k bs vO gr kr bw bp vO' O Wt Ps Wt Ps nh, ?_, fun b w' => b = false ∧ w25 = w', fun b w104 ⟨hb, e⟩ d => brC_ff hb (e ▸ ⟨nh, Wt, Ps, D25⟩), brC_ff rfl (callC_of (plen_spec D25.p) fun v w107 ⟨hv, e⟩ => ⟨_, hv, ?_⟩)⟩
    · rintro w28 ⟨nh, Wt, Ps, D28⟩ d
      refine ⟨(Upd No w ·), fun w31 u31 d => callC_of (pworks_spec w31) fun v w34 ⟨hv, u34⟩ => ⟨_, hv, rfl, u31.trans u34 fun _ _ => id⟩, fun s n w' => ∃ i : Nat, n = i ∧ i ≤ 80 ∧ ∃ nh Wt Ps, Duo W0 w' g mb k bs vO gr kr bw bp vO' O Wt Ps Wt Ps nh, fun _ n _ => (80 - n).toNat, ⟨0, rfl, by omega, nh, Wt, Ps, D28⟩, ?_⟩
      clear D28 D25
      rintro s38 n39 w40 ⟨i, rfl, hi, nh, Wt, Ps, D40⟩ d
      have u040 : Upd No w w40 := u0W.trans D40.p.old fun _ _ => id
      have B40 := hW.upd D40.p.old id
      refine ⟨fun w' => i < la ∧ i < 80 ∧ w40 = w', ?_, _, _, _, B40.cell rfl, brC_intro (fun h1 => brC_intro (fun h2 => ⟨by have := of_decide_eq_true h1; omega, by have := of_decide_eq_true h2; omega, rfl⟩) fun _ => u040) fun _ => u040⟩
      rintro w43 ⟨hla, h80, rfl⟩ d
      have hw : IntKind.wrap .i64 ((i : Int) + 1) = ((i + 1 : Nat) : Int) := Go.SX.wrap_small (by omega) (by omega)
      rw [hw]
      refine ⟨fun s w' => ∃ nh Wt Ps, Duo W0 w' g mb k bs vO gr kr bw bp vO' O Wt Ps Wt Ps nh, fun s w47 h d => ⟨⟨i + 1, rfl, h80, h⟩, by dsimp only; omega⟩, _, _, _, B40.cell rfl, by omega, by omega, ?_⟩
      obtain ⟨aa, n53, s54, b55, rfl, ca0, ca1, ca2⟩ := hA0 i hla
      refine ptrC_some ⟨n53, by rw [Int.toNat_natCast]; exact cell_keep ca0 u040, s54, by rw [Int.toNat_natCast]; exact cell_keep ca1 u040, b55, by rw [Int.toNat_natCast]; exact cell_keep ca2 u040, newC_mk fun w57 h57 u57 s57 => stC_mk h57 (by simp) fun w58 h58 u58 s58 => stC_mk h58 (by simp) fun w59 h59 u59 s59 => stC_mk h59 (by simp) fun w60 h60 u60 s60 => ?_⟩
      have h60 : Blk w60 w40.heap.size #[.int .i64 n53, .string s54, .bool b55] 51 := h60
      have u4060 : Upd No w40 w60 := ((u57.trans u58 fun b hb e => by omega).trans u59 fun b hb e => by omega).trans u60 fun b hb e => by omega
      have D60 := duo_keep D40 u4060
      have hk56 : ¬ PFt w60 k bs w40.heap.size := fun hf => by
        have := (planAt_foot D40.p (foot_upd (planAt_lt D40.p) u4060 id hf)).2.2
        omega
      refine ⟨_, h60.cell rfl, fun _ w' => w60 = w', ?_, _, h60.cell rfl, brC_intro (fun _ => rfl) fun _ => rfl⟩
      rintro s63 w64 rfl d
      refine ⟨fun s w' => ∃ nh Wt Ps, Duo W0 w' g mb k bs vO gr kr bw bp vO' O Wt Ps Wt Ps nh, ?_, _, h60.cell rfl, brC_intro (fun hz => ?_) fun hnz => ?_⟩
      · rintro s67 w68 ⟨nh, Wt, Ps, D68⟩ d
        refine callC_of (plen_spec D68.p) fun v w71 ⟨hv, e⟩ => ⟨_, hv, ?_⟩
        subst e
        refine callC_of (rlen_spec D68.r) fun v w74 ⟨hv, e⟩ => ⟨_, hv, brC_ff (by simp) ?_⟩
        subst e
        exact ⟨nh, Wt, Ps, D68⟩
      · refine callC_of (next_spec D60.p) fun r w78 hr => ?_
        rcases hr with ⟨hr, hn, e⟩ | ⟨l, hl, hr, hWl, hmin, ⟨nh2, P78⟩, st78⟩
        · subst e
          refine ⟨_, _, hr, callC_of (rnext_spec D60.r) fun r w82 hr => ?_⟩
          rcases hr with ⟨hr, _, e⟩ | ⟨l, hl, hr, hle, _⟩
          · subst e
            exact ⟨_, _, hr, fun w' => w60 = w', fun w86 e d => e ▸ ⟨nh, Wt, Ps, D60⟩, fun b w' => b = false ∧ w60 = w', fun b w90 ⟨hb, e⟩ d => brC_ff hb e, brC_ff (by simp) ⟨rfl, rfl⟩⟩
          · rw [least_none hn] at hle; cases hle
        · have D78 := duo_p D60 st78 P78
          refine ⟨_, _, hr, callC_of (rnext_spec D78.r) fun r w82 hr => ?_⟩
          rcases hr with ⟨_, hle, _⟩ | ⟨l', hl', hr, hle, R82, u82⟩
          · rw [least_some hl hWl hmin] at hle; cases hle
          · rw [least_some hl hWl hmin] at hle
            cases hle
            have D82 := duo_r D78 u82 R82
            exact ⟨_, _, hr, fun w' => w82 = w', fun w86 e d => e ▸ ⟨nh2, _, _, D82⟩, fun b w' => b = false ∧ w82 = w', fun b w90 ⟨hb, e⟩ d => brC_ff hb e, brC_ff (by simp) ⟨rfl, rfl⟩⟩
      · refine ⟨_, h60.cell rfl, callC_of (done_spec D60.p GW hperm hszP s63 (n53 == 1)) fun v w94 ⟨hv, ⟨nh2, P94⟩, st94⟩ => ⟨hv, ?_⟩⟩
        have D94 := duo_p D60 st94 P94
        have h94 := h60.upd st94.upd hk56
        have RG94 := rGraphAt_keep RW P94.old
        refine ⟨_, h94.cell rfl, callC_of (rdone_spec D94.r RG94 L hperm hszP s63 (n53 == 1)) fun v w97 ⟨hv, R97, u97⟩ => ⟨hv, nh2, _, _, duo_r D94 u97 R97⟩⟩
    · subst e
      exact callC_of (rlen_spec D25.r) fun v w110 ⟨hv, e⟩ => ⟨_, hv, by simp, e⟩
  · have h112 := h14.upd u112 id
    have u0112 : Upd No w w112 := u014.trans u112 fun _ _ => id
    have hL : ∀ w', Upd No w112 w' → Lds Try.prog 22 w' ⟨k0, 0, none⟩ (.slice xf first.length cf) := fun w' u => lds_slice22 ((h112.upd u id).cell rfl)
    refine ⟨(Upd No w112 ·), _, _, _, h112.cell rfl, hL, _, _, _, h112.cell rfl, hL, ?_⟩
    rw [min20]
    refine ⟨by omega, by omega, by omega, _, _, _, h112.cell rfl, hL, _, _, _, h112.cell rfl, hL, by omega, by omega, by omega, ?_, trivial⟩
    rw [subP_zero, Int.toNat_natCast, Nat.sub_zero, Nat.sub_zero, ← hFl]
    refine callC_of (pnew_spec (G14.keep u112) (by omega) hszP (hF20.keep u0112) (by omega) cf) fun v w131 ⟨W0, mb, k, bs, vO, nh0, hv, P131, u0, u131⟩ => ⟨_, hv, u131, ?_, trivial⟩
    have hn9 : P.length ≤ 900000 := by omega
    have hn10 : F.length ≤ 1000000 := by omega
    have R131 := rGraphAt_keep R (u112.trans u131 fun _ _ => id)
    have F131 := hF20.keep (u0112.trans u131 fun _ _ => id)
    rw [min20, Int.toNat_natCast, Nat.sub_zero, ← hFl]
    refine callC_of (rpnew_spec R131 L hn9 hszP F131 hn10 cf) fun v w134 hx => ?_
    obtain ⟨kr, bw, bp, vO', hv, R134, u134, z1, z2, z3, z4⟩ := hx
    have hb131 := (planAt_foot P131 (.inr (.inl rfl))).2.2
    have hnf : ∀ b, w131.heap.size ≤ b → ¬ PFt w134 k bs b := fun b hb hf => by
      have := (planAt_foot P131 (foot_upd (planAt_lt P131) u134 id hf)).2.2
      omega
    have D : Duo W0 w134 g mb k bs vO gr kr bw bp vO' (orderOf P A) (firstW (orderOf P A) F) (fun _ => false) (firstW (orderOf P A) F) (fun _ => false) nh0 :=
      ⟨planAt_keep P131 u134, R134, hnf _ z1, hnf _ z2, hnf _ z3, fun b hb => hnf b (z4 b hb), by omega, by omega⟩
    have uW : Upd No w14 W0 := u112.trans u0 fun _ _ => id
    have u1134 : Upd No w112 w134 := u131.trans u134 fun _ _ => id
    exact ⟨_, hv, u1134, W0, mb, k, bs, vO, kr, bw, bp, vO', nh0, _, _, rfl, rfl, D, uW⟩
end Go.Proofs.Ytkacocaekffdgaa
