/- PlanWhole: the walk. -/
import Derived.Test.YtkacocaekffdgaaP5
namespace Go.Proofs.Ytkacocaekffdgaa
open Go.SX

theorem foot_upd {w w' : World} {k bs : Nat} (hk : k < w.heap.size) {S : Nat → Prop} (u : Upd S w w') (h : ¬ S k) {b : Nat} (hb : PFt w' k bs b) : PFt w k bs b := by
  rcases hb with e | e | ⟨v, hc, hi⟩
  · exact .inl e
  · exact .inr (.inl e)
  · refine .inr (.inr ⟨v, ?_, hi⟩)
    have := u.block k hk h
    unfold World.cell? at *
    rw [this] at hc
    exact hc
/-- what is written elsewhere. -/
theorem planAt_upd {W0 w w' : World} {g mb k bs : Nat} {vO : Value} {O : List ByteArray} {Wt Ps : Nat → Bool} {nh : Nat} (h : PlanAt W0 w g mb k bs vO O Wt Ps nh) {S : Nat → Prop} (u : Upd S w w') (hS : ∀ b, S b → bs < b ∧ ¬ PFt w k bs b) : PlanAt W0 w' g mb k bs vO O Wt Ps nh := by
  have a1 := h.s1; have a2 := h.s2; have a3 := h.s3
  have n1 : ¬ S k := fun e => by have := (hS k e).1; omega
  have n2 : ¬ S bs := fun e => by have := (hS bs e).1; omega
  have n3 : ¬ S mb := fun e => by have := (hS mb e).1; omega
  obtain ⟨vH, a, cs, h1, h2, h3, h4, h5, h6, h7, h8, h9⟩ := h.parts
  refine ⟨h.old.trans u fun b hb e => by have := (hS b e).1; omega, a1, a2, a3, h.row, h.nodup, h.len, ⟨vH, a, cs, h1.upd u n1, heapAt_upd h2 u n1 fun b hb e => (hS b e).2 (.inr (.inr ⟨vH, h2.cell, hb⟩)), h3, h4, h5, h6, h7.upd u n2, h8, h9⟩, h.at_.upd u n3⟩

def ActsIn (w : World) (x : Option Addr) (l : Nat) : Prop :=
  ∀ i, i < l → ∃ (a : Addr) (n : Int) (s : ByteArray) (b : Bool), x = some a ∧ w.cell? (Addr.add a (i * 3)) = some (.int .i64 n) ∧ w.cell? (Addr.add (Addr.add a (i * 3)) 1) = some (.string s) ∧ w.cell? (Addr.add (Addr.add a (i * 3)) 2) = some (.bool b)

/-- the two lists of a play, in memory: B: all above it are new. -/
structure ListsAt (w : World) (B k bs : Nat) (vp vc : Value) (Pd : List ByteArray) (Cg : List Bool) : Prop where
  ps : RowAt w 9 1 vp (strs Pd)
  cs : RowAt w 4 1 vc (bools Cg)
  p1 : ∀ b, InRow vp b → B ≤ b ∧ ¬ PFt w k bs b ∧ ¬ InRow vc b
  c1 : ∀ b, InRow vc b → B ≤ b ∧ ¬ PFt w k bs b
theorem listsAt_step {w w' : World} {B k bs : Nat} {vp vc : Value} {Pd : List ByteArray} {Cg : List Bool} (h : ListsAt w B k bs vp vc Pd Cg) (st : PStep k bs w w') : ListsAt w' B k bs vp vc Pd Cg := by
  refine ⟨h.ps.upd st.upd fun b hb => (h.p1 b hb).2.1, h.cs.upd st.upd fun b hb => (h.c1 b hb).2, fun b hb => ⟨(h.p1 b hb).1, fun hf => ?_, (h.p1 b hb).2.2⟩, fun b hb => ⟨(h.c1 b hb).1, fun hf => ?_⟩⟩
  · rcases st.foot b hf with h' | h'
    · exact (h.p1 b hb).2.1 h'
    · have := h.ps.lt hb; omega
  · rcases st.foot b hf with h' | h'
    · exact (h.c1 b hb).2 h'
    · have := h.cs.lt hb; omega
theorem listsAt_no {w w' : World} {B k bs : Nat} {vp vc : Value} {Pd : List ByteArray} {Cg : List Bool} (h : ListsAt w B k bs vp vc Pd Cg) (hk : k < w.heap.size) (u : Upd No w w') : ListsAt w' B k bs vp vc Pd Cg := listsAt_step h (pstep_no u hk)

theorem play_length {O : List ByteArray} {adj : ByteArray → List ByteArray} {first : List ByteArray} {Wt Ps : Nat → Bool} {Pd : List ByteArray} {Cg : List Bool} (h : Play O adj first Wt Ps Pd Cg) : Pd.length ≤ O.length := subset_length h.nodup h.sub

set_option maxRecDepth 20000 in
theorem lists_pushP {W0 w : World} {g mb k bs : Nat} {vO : Value} {O : List ByteArray} {Wt Ps : Nat → Bool} {nh : Nat} (P : PlanAt W0 w g mb k bs vO O Wt Ps nh) {B : Nat} {p : Option Addr} {n c : Nat} {vc : Value} {Pd : List ByteArray} {Cg : List Bool}
    (LL : ListsAt w B k bs (.slice p n c) vc Pd Cg) (hB : B ≤ w.heap.size) (hbs : bs < B) (hl : Pd.length ≤ 1000000) (x : ByteArray) {K : Value → World → Prop}
    (hK : ∀ vp' w', ListsAt w' B k bs vp' vc (Pd ++ [x]) Cg → PlanAt W0 w' g mb k bs vO O Wt Ps nh → w.heap.size ≤ w'.heap.size → K vp' w') :
    newC w (.cells #[.string x] 9) fun kk w1 => runC Try.prog (Builtin.append_ #[22, 22] 22 #[.slice p n c, .slice (some ⟨kk, 0, none⟩) 1 1]) w1 K := by
  obtain ⟨io, hi1, hi2, hi3, hi4⟩ := info_get (P := Try.prog) (e := 9) (s := 1) (b := 16) (z := .string ByteArray.empty) (by kernel_rfl)
  refine newC_mk fun w1 h1 u1 s1 => ?_
  have L1 := listsAt_no LL (planAt_lt P) u1
  have P1 := planAt_keep P u1
  have hn := rowAt_len L1.ps
  refine append_row (P := Try.prog) (e := 9) (news := [.string x]) Try.underlying22 hi1 hi2 hi3 hi4 rfl L1.ps (n := n) (by rw [strs_len, hn, Nat.mul_one]) _ 1 1 (by omega) (by omega) rfl ?_ (by simp [Value.oneCell']) (by simp only [maxLen]; omega) (by omega)
    fun v' w2 r2 u2 f2 => ?_
  · intro j u hj
    match j, hj with
    | 0, hj => cases hj; exact h1.cell rfl
  have u2 : Upd (InRow (.slice p n c)) w1 w2 := u2
  have hz := u2.size
  have hk1 := planAt_lt P1
  have nk : ¬ InRow (.slice p n c) k := fun h => (L1.p1 k h).2.1 (.inl rfl)
  have e2 : strs Pd ++ [Value.string x] = strs (Pd ++ [x]) := by simp [strs]
  rw [e2] at r2
  refine hK v' w2 ⟨r2, L1.cs.upd u2 fun b hb h => (L1.p1 b h).2.2 hb, fun b hb => ?_, fun b hb => ⟨(L1.c1 b hb).1, fun hf => (L1.c1 b hb).2 (foot_upd hk1 u2 nk hf)⟩⟩ (planAt_upd P1 u2 fun b hb => ⟨by have := (L1.p1 b hb).1; omega, (L1.p1 b hb).2.1⟩) (by omega)
  rcases f2 b hb with h | h
  · exact ⟨(L1.p1 b h).1, fun hf => (L1.p1 b h).2.1 (foot_upd hk1 u2 nk hf), (L1.p1 b h).2.2⟩
  · exact ⟨by omega, fun hf => by have := (planAt_foot P1 (foot_upd hk1 u2 nk hf)).2.2; omega, fun hc => by have := L1.cs.lt hc; omega⟩
set_option maxRecDepth 20000 in
theorem lists_pushC {W0 w : World} {g mb k bs : Nat} {vO : Value} {O : List ByteArray} {Wt Ps : Nat → Bool} {nh : Nat} (P : PlanAt W0 w g mb k bs vO O Wt Ps nh) {B : Nat} {p : Option Addr} {n c : Nat} {vp : Value} {Pd : List ByteArray} {Cg : List Bool}
    (LL : ListsAt w B k bs vp (.slice p n c) Pd Cg) (hB : B ≤ w.heap.size) (hbs : bs < B) (hl : Cg.length ≤ 1000000) (x : Bool) {K : Value → World → Prop}
    (hK : ∀ vc' w', ListsAt w' B k bs vp vc' Pd (Cg ++ [x]) → PlanAt W0 w' g mb k bs vO O Wt Ps nh → w.heap.size ≤ w'.heap.size → K vc' w') :
    newC w (.cells #[.bool x] 4) fun kk w1 => runC Try.prog (Builtin.append_ #[56, 56] 56 #[.slice p n c, .slice (some ⟨kk, 0, none⟩) 1 1]) w1 K := by
  obtain ⟨io, hi1, hi2, hi3, hi4⟩ := info_get (P := Try.prog) (e := 4) (s := 1) (b := 1) (z := .bool false) (by kernel_rfl)
  refine newC_mk fun w1 h1 u1 s1 => ?_
  have L1 := listsAt_no LL (planAt_lt P) u1
  have P1 := planAt_keep P u1
  have hn : n = Cg.length := by
    obtain ⟨p', n', c', e, hl, _⟩ := L1.cs.shape
    cases e
    rw [bools, List.length_map, Nat.mul_one] at hl
    exact hl.symm
  refine append_row (P := Try.prog) (e := 4) (news := [.bool x]) Try.underlying56 hi1 hi2 hi3 hi4 rfl L1.cs (n := n) (by rw [bools, List.length_map, hn, Nat.mul_one]) _ 1 1 (by omega) (by omega) rfl ?_ (by simp [Value.oneCell']) (by simp only [maxLen]; omega) (by omega)
    fun v' w2 r2 u2 f2 => ?_
  · intro j u hj
    match j, hj with
    | 0, hj => cases hj; exact h1.cell rfl
  have u2 : Upd (InRow (.slice p n c)) w1 w2 := u2
  have hz := u2.size
  have hk1 := planAt_lt P1
  have nk : ¬ InRow (.slice p n c) k := fun h => (L1.c1 k h).2 (.inl rfl)
  have e2 : bools Cg ++ [Value.bool x] = bools (Cg ++ [x]) := by simp [bools]
  rw [e2] at r2
  refine hK v' w2 ⟨L1.ps.upd u2 fun b hb h => (L1.p1 b hb).2.2 h, r2, fun b hb => ⟨(L1.p1 b hb).1, fun hf => (L1.p1 b hb).2.1 (foot_upd hk1 u2 nk hf), fun hc => ?_⟩, fun b hb => ?_⟩ (planAt_upd P1 u2 fun b hb => ⟨by have := (L1.c1 b hb).1; omega, (L1.c1 b hb).2⟩) (by omega)
  · rcases f2 b hc with h | h
    · exact (L1.p1 b hb).2.2 h
    · have := L1.ps.lt hb; omega
  · rcases f2 b hb with h | h
    · exact ⟨(L1.c1 b h).1, fun hf => (L1.c1 b h).2 (foot_upd hk1 u2 nk hf)⟩
    · exact ⟨by omega, fun hf => by have := (planAt_foot P1 (foot_upd hk1 u2 nk hf)).2.2; omega⟩

theorem boolsAt {w : World} {p : Option Addr} {n c : Nat} {l : List Bool} (h : RowAt w 4 1 (.slice p n c) (bools l)) : n = l.length ∧ ∀ j, (hj : j < l.length) → ∃ a : Addr, p = some a ∧ w.cell? (Addr.add a (j * 1)) = some (.bool l[j]) := by
  constructor
  · obtain ⟨p', n', c', e, hl, _⟩ := h.shape
    cases e
    rw [bools, List.length_map, Nat.mul_one] at hl
    exact hl.symm
  · intro j hj
    obtain ⟨g, o, rfl, hc⟩ := h.get (j := j) (by simpa [bools] using hj)
    exact ⟨_, rfl, by rw [add_mk, Nat.mul_one, hc]; simp [bools, hj]⟩

set_option maxRecDepth 20000 in
theorem whole_spec {w : World} {x0 x1 xf xa : Option Addr} {ps : List ByteArray} {imps : List (List ByteArray)} {first : List ByteArray} {la : Nat} (hP0 : StrsAt w x0 ps) (hI0 : ImpsIn w x1 imps) (hF0 : StrsAt w xf first) (hA0 : ActsIn w xa la) (c0 c1 cf ca : Nat) (h0 : ps.length ≤ c0) (hf : first.length ≤ cf) (hsz : ∀ p ∈ ps, p.size ≤ maxLen) :
    callC Try.prog 9 #[.slice x0 ps.length c0, .slice x1 imps.length c1, .agg #[.slice xf first.length cf, .slice xa la ca]] w fun v w' => v = .bool true ∧ Upd No w w' := by
  refine pwhole _ _ _ _ _ _ _ _ _ _ _ _ _ _ (newC_mk fun w1 h1 u1 s1 => ?_)
  have hI1 : ImpsIn w1 x1 imps := fun i hi => by
    obtain ⟨a, p, c, e, hc, hs, hl⟩ := hI0 i hi
    exact ⟨a, p, c, e, cell_keep hc u1, hs.keep u1, hl⟩
  generalize hk0 : w.heap.size = k0 at h1 s1
  refine callC_of (small_spec (ps := ps) hI1 c0 c1 h0) fun v w3 ⟨u3, p8, k9, k10, hv, hk9, hk9c, hrow⟩ => ⟨_, _, _, _, _, _, hv, ?_⟩
  have hN1 : smallN ps.length imps.length ≤ ps.length ∧ smallN ps.length imps.length ≤ imps.length ∧ smallN ps.length imps.length ≤ 12 := by unfold smallN; omega
  generalize smallN ps.length imps.length = N at hk9 hrow hN1
  have hP1 : StrsAt w (x0) (ps.take N) := strsAt_take hP0 N
  have hI3 := impsAt_row hrow u3
  have hlenP : (ps.take N).length = N := by rw [List.length_take]; omega
  have hszP : ∀ p ∈ ps.take N, p.size ≤ maxLen := fun p hp => hsz p (List.mem_of_mem_take hp)
  generalize hPd : ps.take N = P at hP1 hlenP hszP
  have hlenI : (cut12 N imps).length = N := by simp [cut12]; omega
  generalize hId : cut12 N imps = I at hrow hk9 hI3 hlenI
  subst hk9
  subst hlenP
  have u03 : Upd No w w3 := u1.trans u3 fun _ _ => id
  refine callC_of (new_spec (hP1.keep u03) hI3 (by omega) c0 k10) fun v w11 ⟨u11, h⟩ => ?_
  have u011 : Upd No w w11 := u03.trans u11 fun _ _ => id
  have h11 := (h1.upd u3 id).upd u11 id
  have hF20 : StrsAt w xf (first.take 20) := strsAt_take hF0 20
  have hFl : (first.take 20).length = min first.length 20 := by rw [List.length_take, Nat.min_comm]
  generalize hFd : first.take 20 = F at hF20 hFl
  rcases h with ⟨hv, hno⟩ | ⟨g, m, f, hv, hPI, hN, G⟩
  · refine ⟨_, hv, _, _, _, h11.cell rfl, _, _, _, h11.cell rfl, ?_⟩
    rw [min20]
    refine ⟨by omega, by omega, by omega, callC_of (pnew_nil w11 _ _ _) fun v w20 ⟨hv, e⟩ => ⟨_, hv, fun _ => False, fun _ h => h.elim, fun b w' => b = true ∧ w20 = w', fun b w208 ⟨hb, e'⟩ d => brC_tt hb (brC_tt rfl (brC_tt rfl (callC_of (pworks_spec w208) fun v w211 ⟨hv, u211⟩ => ⟨_, hv, rfl, ?_⟩))), brC_tt rfl ⟨rfl, rfl⟩⟩⟩
    subst e; subst e'
    exact u011.trans u211 fun _ _ => id
  refine ⟨_, hv, _, _, _, h11.cell rfl, _, _, _, h11.cell rfl, ?_⟩
  rw [min20]
  refine ⟨by omega, by omega, by omega, ?_⟩
  rw [subP_zero, Int.toNat_natCast, Nat.sub_zero, Nat.sub_zero, ← hFl]
  refine callC_of (pnew_spec G (by omega) hszP (hF20.keep u011) (by omega) cf) fun v w20 ⟨W0, mb, k, bs, vO, nh0, hv, P20, u0, u20⟩ => ⟨_, hv, ?_⟩
  have L := links_of hN hPI
  have hadjI : ∀ j, (h : j < P.length) → adjOf P I P[j] = uniq P (I[j]'(by omega)) := fun j h => adjOf_at hN h (by omega)
  have G0 := G.keep u0
  have hperm := order_perm (adjOf P I) hN
  have hord : ∀ (Q : List ByteArray), orderOf P (adjOf P I) = Q → (∀ p ∈ Q, ¬ Reach (adjOf P I) p p) → ∀ i j, (hi : i < Q.length) → (hj : j < Q.length) → Q[i] ∈ adjOf P I Q[j] → i < j := fun Q e hac i j hi hj h => by
    subst e
    exact order_idx hN L.sub hac hi hj h
  have hI00 := impsAt_keep hI3 (u11.trans u0 fun _ _ => id)
  have h00 := h11.upd u0 id
  generalize adjOf P I = A at G G0 P20 hperm hord hadjI
  have hord' := hord _ rfl
  clear hord
  generalize orderOf P A = O at P20 hperm hord'
  have hON := hperm.nodup_iff.2 hN
  have hOl := hperm.length_eq
  have u0W : Upd No w W0 := u011.trans u0 fun _ _ => id
  clear hrow hI3
  have hk20 := planAt_lt P20
  have hbs20 := (planAt_foot P20 (.inr (.inl rfl))).2.2
  -- what all loops below have of a world
  have hPAt : ∀ i, (h : i < P.length) → ∃ a, x0 = some a ∧ ∀ w', Upd No w w' → w'.cell? (Addr.add a (Int.toNat (i : Int) * 1)) = some (.string P[i]) := fun i h => by
    obtain ⟨a, e, hc⟩ := hP1 i h
    exact ⟨a, e, fun w' u => by rw [Int.toNat_natCast]; exact cell_keep hc u⟩
  refine ⟨(w20 = ·), ?_, fun b w' => b = false ∧ w20 = w', fun b w208 ⟨hb, e⟩ d => brC_ff hb e, brC_ff rfl ⟨rfl, rfl⟩⟩
  rintro w23 rfl d
  -- the play
  have hbs20' : bs < w20.heap.size := hbs20
  refine ⟨fun p kk c p' kk' c' n w' => ∃ (i : Nat) (Pd : List ByteArray) (Cg : List Bool) (Wt Ps : Nat → Bool) (nh : Nat), n = i ∧ Pd.length = i ∧ PlanAt W0 w' g mb k bs vO O Wt Ps nh ∧ Play O A F Wt Ps Pd Cg ∧ ListsAt w' w20.heap.size k bs (.slice p kk c) (.slice p' kk' c') Pd Cg ∧ w20.heap.size ≤ w'.heap.size,
    fun _ _ _ _ _ _ n _ => (O.length + 1 - n).toNat, ⟨0, [], [], _, _, nh0, rfl, rfl, P20, play_zero O A F, ⟨RowAt.nil _ _ _, RowAt.nil _ _ _, fun b hb => (by cases hb), fun b hb => (by cases hb)⟩, Nat.le_refl _⟩, ?_⟩
  rintro p27 k28 k29 p30 k31 k32 n33 w34 ⟨i, Pd, Cg, Wt, Ps, nh, rfl, hil, P34, Y, LL, z34⟩ d
  subst hil
  have hk28 := rowAt_len LL.ps
  subst hk28
  have hPdl := play_length Y
  have u034 : Upd No w w34 := u0W.trans P34.old fun _ _ => id
  have hlt34 := planAt_lt P34
  have hw : IntKind.wrap .i64 ((Pd.length : Int) + 1) = ((Pd.length + 1 : Nat) : Int) := Go.SX.wrap_small (by omega) (by omega)
  rw [hw]
  refine ⟨fun p kk c p' kk' c' w' => ∃ (Pd' : List ByteArray) (Cg : List Bool) (Wt Ps : Nat → Bool) (nh : Nat), Pd'.length = Pd.length + 1 ∧ PlanAt W0 w' g mb k bs vO O Wt Ps nh ∧ Play O A F Wt Ps Pd' Cg ∧ ListsAt w' w20.heap.size k bs (.slice p kk c) (.slice p' kk' c') Pd' Cg ∧ w20.heap.size ≤ w'.heap.size, ?_, callC_of (next_spec P34) fun r w46 hr => ?_⟩
  · rintro p kk c p' kk' c' w' ⟨Pd', Cg', Wt', Ps', nh', h1, h2, h3, h4, h5⟩ d
    exact ⟨⟨_, Pd', Cg', Wt', Ps', nh', rfl, h1, h2, h3, h4, h5⟩, by dsimp only; omega⟩
  rcases hr with ⟨hr, hnone, e⟩ | ⟨l, hlO, hr, hWl, hmin, ⟨nh1, P46⟩, st46⟩
  · -- none waits any more
    subst e
    refine ⟨_, _, hr, brC_tt rfl ?_⟩
    have hPsAt := fun (w' : World) (u : Upd No w34 w') => StrsAt.of_row (LL.ps.upd u fun _ _ => id)
    have hCgAt := fun (w' : World) (u : Upd No w34 w') => boolsAt (LL.cs.upd u fun _ _ => id)
    have hk31 := (boolsAt LL.cs).1
    subst hk31
    have hYl := Y.len
    have hIAt : ∀ j, (h : j < P.length) → ∃ (a : Addr) (q : Option Addr) (c : Nat), p8 = some a ∧ (∀ w', Upd No w34 w' → StrsAt w' q (I[j]'(by omega))) ∧ (I[j]'(by omega)).length ≤ 1000000 ∧ ∀ w', Upd No w34 w' → w'.cell? (Addr.add a (Int.toNat (j : Int) * 1)) = some (.slice q (I[j]'(by omega)).length c) := fun j h => by
      obtain ⟨a, q, c, e, hc, hs, hl⟩ := hI00 j (by omega)
      exact ⟨a, q, c, e, fun w' u => (hs.keep P34.old).keep u, hl, fun w' u => by rw [Int.toNat_natCast]; exact cell_keep (cell_keep hc P34.old) u⟩
    have hPdO : ∀ y ∈ Pd, y ∈ P := fun y hy => hperm.mem_iff.1 (Y.sub y hy)
    -- is one cyclic?
    refine ⟨fun b n w' => ∃ j : Nat, n = j ∧ j ≤ P.length ∧ Upd No w34 w' ∧ (b = true ↔ ∃ p ∈ P.take j, Reach A p p), fun _ n _ => (P.length - n).toNat, ⟨0, rfl, Nat.zero_le _, Upd.refl _ _, by simp⟩, ?_⟩
    rintro b51 n52 w53 ⟨j, rfl, hj, u53, hb51⟩ d
    refine brC_intro (fun hlt => ?_) fun hge => ?_
    · have hlt : j < P.length := by have := of_decide_eq_true hlt; omega
      have hw2 : IntKind.wrap .i64 ((j : Int) + 1) = ((j + 1 : Nat) : Int) := Go.SX.wrap_small (by omega) (by omega)
      rw [hw2]
      have htk : P.take (j + 1) = P.take j ++ [P[j]] := List.take_succ_eq_append_getElem hlt
      refine ⟨fun b w' => Upd No w34 w' ∧ (b = true ↔ ∃ p ∈ P.take (j + 1), Reach A p p), fun b w57 ⟨u57, hb⟩ d => ⟨⟨j + 1, rfl, hlt, u57, hb⟩, by dsimp only; omega⟩, brC_intro (fun hbt => ?_) fun hbf => ?_⟩
      · obtain ⟨p, hp, hr⟩ := hb51.1 hbt
        exact ⟨u53, fun _ => ⟨p, by rw [htk]; exact List.mem_append_left _ hp, hr⟩, fun _ => rfl⟩
      · obtain ⟨a, rfl, ha⟩ := hPAt j hlt
        refine ⟨by omega, by omega, ptrC_some ⟨_, ha w53 (u034.trans u53 fun _ _ => id), callC_of (cyclic_spec ((G0.keep P34.old).keep u53) P[j]) fun v w62 ⟨b, hv, hb, u62⟩ => ⟨b, hv, u53.trans u62 fun _ _ => id, ?_⟩⟩⟩
        rw [hb, htk]
        constructor
        · exact fun h => ⟨P[j], List.mem_append_right _ (List.mem_singleton.2 rfl), h⟩
        · rintro ⟨p, hp, hr⟩
          rcases List.mem_append.1 hp with hp | hp
          · have := hb51.2 ⟨p, hp, hr⟩
            rw [this] at hbf; cases hbf
          · rw [← List.mem_singleton.1 hp]; exact hr
    have : j = P.length := by have := of_decide_eq_false hge; omega
    subst this
    rw [List.take_length] at hb51
    have hac : b51 = false → ∀ p ∈ O, ¬ Reach A p p := fun hb p hp hr => by
      have := hb51.2 ⟨p, hperm.mem_iff.1 hp, hr⟩
      rw [this] at hb; cases hb
    -- just those were passed that must be
    refine ⟨fun n w' => ∃ j : Nat, n = j ∧ j ≤ P.length ∧ Upd No w34 w', fun n _ => (P.length - n).toNat, ⟨0, rfl, Nat.zero_le _, u53⟩, ?_⟩
    rintro n66 w67 ⟨j, rfl, hj, u67⟩ d
    refine brC_intro (fun hlt => ?_) fun hge => ?_
    · have hlt : j < P.length := by have := of_decide_eq_true hlt; omega
      have hw2 : IntKind.wrap .i64 ((j : Int) + 1) = ((j + 1 : Nat) : Int) := Go.SX.wrap_small (by omega) (by omega)
      rw [hw2]
      obtain ⟨a, rfl, ha⟩ := hPAt j hlt
      have u067 : Upd No w w67 := u034.trans u67 fun _ _ => id
      refine ⟨by omega, by omega, ptrC_some ⟨_, ha w67 u067, callC_of (phas_spec (hF20.keep u067) (by rw [hFl]; simp only [maxLen]; omega) cf P[j]) fun v w72 ⟨hv, e⟩ => ⟨_, hv, ?_⟩⟩⟩
      subst e
      obtain ⟨aI, qI, cI, rfl, hqI, hlI, hcI⟩ := hIAt j hlt
      refine ⟨fun b n w' => ∃ t : Nat, n = t ∧ t ≤ Pd.length ∧ Upd No w34 w' ∧ (b = true ↔ P[j] ∈ F ∨ ∃ (s : Nat) (y : ByteArray), s < t ∧ Cg[s]? = some true ∧ Pd[s]? = some y ∧ y ∈ I[j]), fun _ n _ => (Pd.length - n).toNat, ⟨0, rfl, Nat.zero_le _, u67, by simp⟩, ?_⟩
      rintro b76 n77 w78 ⟨t, rfl, ht, u78, hb76⟩ d
      refine brC_intro (fun hlt3 => ?_) fun hge3 => ?_
      · have hlt3 : t < Pd.length := by have := of_decide_eq_true hlt3; omega
        have hltC : t < Cg.length := by omega
        have hw3 : IntKind.wrap .i64 ((t : Int) + 1) = ((t + 1 : Nat) : Int) := Go.SX.wrap_small (by omega) (by omega)
        rw [hw3]
        have hnext : (∃ (s : Nat) (y : ByteArray), s < t + 1 ∧ Cg[s]? = some true ∧ Pd[s]? = some y ∧ y ∈ I[j]) ↔ (∃ (s : Nat) (y : ByteArray), s < t ∧ Cg[s]? = some true ∧ Pd[s]? = some y ∧ y ∈ I[j]) ∨ (Cg[t] = true ∧ Pd[t] ∈ I[j]) := by
          constructor
          · rintro ⟨s, y, h1, h2, h3, h4⟩
            by_cases e : s = t
            · subst e
              rw [List.getElem?_eq_getElem hltC] at h2
              rw [List.getElem?_eq_getElem hlt3] at h3
              exact .inr ⟨Option.some.inj h2, by rw [Option.some.inj h3]; exact h4⟩
            · exact .inl ⟨s, y, by omega, h2, h3, h4⟩
          · rintro (⟨s, y, h1, h2⟩ | ⟨h1, h2⟩)
            · exact ⟨s, y, by omega, h2⟩
            · exact ⟨t, Pd[t], by omega, by rw [List.getElem?_eq_getElem hltC, h1], List.getElem?_eq_getElem hlt3, h2⟩
        refine ⟨fun b w' => Upd No w34 w' ∧ (b = true ↔ P[j] ∈ F ∨ ∃ (s : Nat) (y : ByteArray), s < t + 1 ∧ Cg[s]? = some true ∧ Pd[s]? = some y ∧ y ∈ I[j]), fun b w82 ⟨u, hb⟩ d => ⟨⟨t + 1, rfl, hlt3, u, hb⟩, by dsimp only; omega⟩, drawC_mk fun w84 u84 s84 => ?_⟩
        have u84 : Upd No w34 w84 := u78.trans u84 fun _ _ => id
        refine brC_intro (fun hbt => ?_) fun hbf => ?_
        · refine ⟨u84, fun _ => ?_, fun _ => rfl⟩
          rw [hnext]
          rcases hb76.1 hbt with h | h
          · exact .inl h
          · exact .inr (.inl h)
        · have hno : ¬ (P[j] ∈ F ∨ ∃ (s : Nat) (y : ByteArray), s < t ∧ Cg[s]? = some true ∧ Pd[s]? = some y ∧ y ∈ I[j]) := fun h => by rw [hb76.2 h] at hbf; cases hbf
          obtain ⟨ab, rfl, hab⟩ := (hCgAt w84 u84).2 t hltC
          refine ⟨by omega, by omega, ptrC_some ⟨_, by rw [Int.toNat_natCast]; exact hab, brC_intro (fun hc => ?_) fun hc => ?_⟩⟩
          · obtain ⟨ay, rfl, hay⟩ := hPsAt w84 u84 t hlt3
            refine ⟨by omega, by omega, ptrC_some ⟨_, _, _, hcI w84 u84, by omega, by omega, ptrC_some ⟨_, by rw [Int.toNat_natCast]; exact hay, callC_of (phas_spec (hqI w84 u84) (by simp only [maxLen]; omega) cI Pd[t]) fun v w94 ⟨hv, e⟩ => ⟨_, hv, e ▸ u84, ?_⟩⟩⟩⟩
            rw [hnext, decide_eq_true_eq]
            exact ⟨fun h => .inr (.inr ⟨hc, h⟩), fun h => h.elim (fun h => (hno (.inl h)).elim) fun h => h.elim (fun h => (hno (.inr h)).elim) fun h => h.2⟩
          · refine ⟨u84, fun h => (by cases h), fun h => ?_⟩
            rw [hnext] at h
            rcases h with h | h | h
            · exact (hno (.inl h)).elim
            · exact (hno (.inr h)).elim
            · rw [h.1] at hc; cases hc
      · have : t = Pd.length := by have := of_decide_eq_false hge3; omega
        subst this
        refine ⟨by omega, by omega, ptrC_some ⟨_, ha w78 (u034.trans u78 fun _ _ => id), callC_of (phas_spec (hPsAt w78 u78) (by simp only [maxLen]; omega) k29 P[j]) fun v w99 ⟨hv, e⟩ => ⟨_, hv, ?_⟩⟩⟩
        subst e
        have hjO : P[j] ∈ O := hperm.mem_iff.2 (List.getElem_mem hlt)
        have hnj := num_lt hjO
        have hOj : O[num O P[j]] = P[j] := by have := (num_spec hjO).2; rw [List.getElem?_eq_getElem hnj] at this; exact Option.some.inj this
        have hm := Y.must _ hnj
        rw [hnone _ hnj, hOj, Y.ps _ hnj, hOj, hadjI j hlt, decide_eq_true_eq] at hm
        have key : b76 = decide (P[j] ∈ Pd) := by
          rw [Bool.eq_iff_iff, hb76, decide_eq_true_eq]
          constructor
          · intro h
            have := hm.2 (h.imp id fun ⟨s, y, _, h2, h3, h4⟩ => ⟨s, y, h2, h3, ((uniq_inv P _).2 y).2 ⟨hPdO y (List.mem_of_getElem? h3), h4⟩⟩)
            exact this.resolve_left (by simp)
          · intro h
            exact (hm.1 (.inr h)).imp id fun ⟨s, y, h2, h3, h4⟩ => ⟨s, y, (List.getElem?_eq_some_iff.1 h3).1, h2, h3, (((uniq_inv P _).2 y).1 h4).2⟩
        rw [key]
        exact brC_ff (by simp) ⟨⟨j + 1, rfl, hlt, u78⟩, by dsimp only; omega⟩
    have : j = P.length := by have := of_decide_eq_false hge; omega
    subst this
    -- in order
    refine ⟨(Upd No w34 ·), fun w102 u102 d => ?_, ?_⟩
    · refine callC_of (plen_spec (planAt_keep P34 u102)) fun v w105 ⟨hv, e⟩ => ⟨_, hv, ?_⟩
      subst e
      have h0 : cnt O.length Wt = 0 := by
        unfold cnt
        rw [List.length_eq_zero_iff, List.filter_eq_nil_iff]
        intro x hx
        rw [hnone x (by simpa using hx)]
        simp
      rw [h0]
      exact brC_tt rfl (callC_of (pworks_spec w102) fun v w108 ⟨hv, u108⟩ => ⟨_, hv, rfl, (u034.trans u102 fun _ _ => id).trans u108 fun _ _ => id⟩)
    refine ⟨fun n w' => ∃ a : Nat, n = a ∧ a ≤ Pd.length ∧ Upd No w34 w', fun n _ => (Pd.length - n).toNat, ⟨0, rfl, Nat.zero_le _, u67⟩, ?_⟩
    rintro n112 w113 ⟨a, rfl, ha, u113⟩ d
    refine ⟨fun w' => a < Pd.length ∧ b51 = false ∧ Upd No w34 w', ?_, brC_intro (fun hlt => brC_intro (fun hb => ?_) fun _ => u113) fun _ => u113⟩
    · rintro w116 ⟨haP, hbf, u116⟩ d
      have hwa : IntKind.wrap .i64 ((a : Int) + 1) = ((a + 1 : Nat) : Int) := Go.SX.wrap_small (by omega) (by omega)
      rw [hwa]
      have hyAt : ∀ t, (h : t < Pd.length) → ∃ ad, p27 = some ad ∧ ∀ w', Upd No w34 w' → w'.cell? (Addr.add ad (Int.toNat (t : Int) * 1)) = some (.string Pd[t]) := fun t h => by
        obtain ⟨ad, e, hc⟩ := hPsAt w34 (Upd.refl _ _) t h
        exact ⟨ad, e, fun w' u => by rw [Int.toNat_natCast]; exact cell_keep hc u⟩
      obtain ⟨ad, rfl, hada⟩ := hyAt a haP
      refine ⟨fun n w' => ∃ b : Nat, n = b ∧ b ≤ P.length ∧ Upd No w34 w', fun n _ => (P.length - n).toNat, ⟨0, rfl, Nat.zero_le _, u116⟩, ?_⟩
      rintro n120 w121 ⟨b, rfl, hb, u121⟩ d
      refine brC_intro (fun hltb => ?_) fun hgeb => ⟨⟨a + 1, rfl, haP, u121⟩, by dsimp only; omega⟩
      have hltb : b < P.length := by have := of_decide_eq_true hltb; omega
      have hwb : IntKind.wrap .i64 ((b : Int) + 1) = ((b + 1 : Nat) : Int) := Go.SX.wrap_small (by omega) (by omega)
      rw [hwb]
      obtain ⟨aP, rfl, haPb⟩ := hPAt b hltb
      refine ⟨(Upd No w34 ·), fun w124 u124 d => ⟨⟨b + 1, rfl, hltb, u124⟩, by dsimp only; omega⟩, ?_⟩
      refine ⟨fun n w' => ∃ c : Nat, n = c ∧ c ≤ a ∧ Upd No w34 w', fun n _ => (a - n).toNat, ⟨0, rfl, Nat.zero_le _, u121⟩, ?_⟩
      rintro n128 w129 ⟨c, rfl, hc, u129⟩ d
      refine ⟨fun w' => c < a ∧ Upd No w34 w', ?_, drawC_mk fun w160 u160 s160 => ?_⟩
      · rintro w132 ⟨hca, u132⟩ d
        have hwc : IntKind.wrap .i64 ((c : Int) + 1) = ((c + 1 : Nat) : Int) := Go.SX.wrap_small (by omega) (by omega)
        rw [hwc]
        have hcP : c < Pd.length := by omega
        obtain ⟨_, e, hadc⟩ := hyAt c hcP
        cases e
        refine ⟨fun n w' => ∃ q : Nat, n = q ∧ q ≤ P.length ∧ Upd No w34 w', fun n _ => (P.length - n).toNat, ⟨0, rfl, Nat.zero_le _, u132⟩, ?_⟩
        rintro n136 w137 ⟨q, rfl, hq, u137⟩ d
        refine brC_intro (fun hltq => ?_) fun hgeq => ⟨⟨c + 1, rfl, hca, u137⟩, by dsimp only; omega⟩
        have hltq : q < P.length := by have := of_decide_eq_true hltq; omega
        have hwq : IntKind.wrap .i64 ((q : Int) + 1) = ((q + 1 : Nat) : Int) := Go.SX.wrap_small (by omega) (by omega)
        rw [hwq]
        refine ⟨(Upd No w34 ·), fun w140 u140 d => ⟨⟨q + 1, rfl, hltq, u140⟩, by dsimp only; omega⟩, fun b w' => b = false ∧ Upd No w34 w', fun b w144 ⟨hb, u⟩ d => brC_ff hb u, drawC_mk fun w146 u146 s146 => ?_⟩
        have u146 : Upd No w34 w146 := u137.trans u146 fun _ _ => id
        have u0146 : Upd No w w146 := u034.trans u146 fun _ _ => id
        obtain ⟨_, e, haPq⟩ := hPAt q hltq
        cases e
        refine ⟨by omega, by omega, ptrC_some ⟨_, haPq w146 u0146, by omega, by omega, ptrC_some ⟨_, hadc w146 u146, ?_⟩⟩⟩
        rw [beq_bytes]
        refine brC_intro (fun heq => ?_) fun _ => ⟨rfl, u146⟩
        have heq : P[q] = Pd[c] := by simpa using heq
        obtain ⟨aI, qI, cI, rfl, hqI, hlI, hcI⟩ := hIAt q hltq
        refine ⟨by omega, by omega, ptrC_some ⟨_, _, _, hcI w146 u146, by omega, by omega, ptrC_some ⟨_, hada w146 u146, callC_of (phas_spec (hqI w146 u146) (by simp only [maxLen]; omega) cI Pd[a]) fun v w158 ⟨hv, e⟩ => ⟨_, hv, ?_, e ▸ u146⟩⟩⟩⟩
        rw [decide_eq_false_iff_not]
        intro hin
        have hyO : Pd[a] ∈ O := Y.sub _ (List.getElem_mem haP)
        have hzO : Pd[c] ∈ O := Y.sub _ (List.getElem_mem hcP)
        have hya := num_lt hyO
        have hzc := num_lt hzO
        have e1 : O[num O Pd[a]] = Pd[a] := by have := (num_spec hyO).2; rw [List.getElem?_eq_getElem hya] at this; exact Option.some.inj this
        have e2 : O[num O Pd[c]] = Pd[c] := by have := (num_spec hzO).2; rw [List.getElem?_eq_getElem hzc] at this; exact Option.some.inj this
        have hadj : O[num O Pd[a]] ∈ A O[num O Pd[c]] := by
          rw [e1, e2, ← heq, hadjI q hltq]
          exact ((uniq_inv P _).2 _).2 ⟨hPdO _ (List.getElem_mem haP), hin⟩
        have l1 := hord' (hac hbf) _ _ hya hzc hadj
        have l2 := List.pairwise_iff_getElem.1 (Y.up (hac hbf)).2 c a hcP haP hca
        omega
      · have u160 : Upd No w34 w160 := u129.trans u160 fun _ _ => id
        refine ⟨by omega, by omega, ptrC_some ⟨_, haPb w160 (u034.trans u160 fun _ _ => id), by omega, by omega, ptrC_some ⟨_, hada w160 u160, ?_⟩⟩⟩
        refine brC_intro (fun _ => brC_intro (fun hlt2 => ⟨by have := of_decide_eq_true hlt2; omega, u160⟩) fun _ => u160) fun _ => u160
    · exact ⟨by have := of_decide_eq_true hlt; omega, by simpa using hb, u113⟩
  · -- one more
    have hlPd : O[l] ∉ Pd := fun hp => by
      have := Y.excl l hlO hWl
      rw [Y.ps l hlO] at this
      simp [hp] at this
    have hlt1 : Pd.length < O.length := by
      have := subset_length (l := Pd ++ [O[l]]) (m := O) (List.nodup_append.2 ⟨Y.nodup, by simp, fun x hx y hy e => hlPd ((e.trans (List.mem_singleton.1 hy)) ▸ hx)⟩) fun x hx => by
        rcases List.mem_append.1 hx with hx | hx
        · exact Y.sub x hx
        · rw [List.mem_singleton.1 hx]; exact List.getElem_mem hlO
      simp at this; omega
    have hlP : O[l] ∈ P := hperm.mem_iff.1 (List.getElem_mem hlO)
    have L46 := listsAt_step LL st46
    have u046 : Upd No w w46 := u0W.trans P46.old fun _ _ => id
    have hz46 : w34.heap.size ≤ w46.heap.size := st46.upd.size
    refine ⟨_, _, hr, brC_ff rfl ⟨(w46 = ·), ?_, fun b w' => b = false ∧ w46 = w', fun b w198 ⟨hb, e⟩ d => brC_ff hb e, callC_of (phas_spec (StrsAt.of_row L46.ps) (by simp only [maxLen]; omega) k29 O[l]) fun v w201 ⟨hv, e⟩ => ⟨_, hv, brC_ff (by simpa using hlPd) ?_⟩⟩⟩
    · rintro w166 rfl d
      refine ⟨fun _ w' => w46 = w', ?_, ?_⟩
      · rintro b169 w170 rfl d
        refine lists_pushP P46 L46 (by omega) hbs20' (by omega) O[l] fun vp' w175 L175 P175 z175 => ?_
        obtain ⟨p176, k177, k178, rfl, _⟩ := L175.ps.shape
        have hYl := Y.len
        refine ⟨_, _, _, rfl, lists_pushC P175 L175 (by omega) hbs20' (by omega) b169 fun vc' w182 L182 P182 z182 => ?_⟩
        obtain ⟨p183, k184, k185, rfl, _⟩ := L182.cs.shape
        refine ⟨_, _, _, rfl, callC_of (done_spec P182 G0 hperm hszP O[l] b169) fun v w187 ⟨hv, ⟨nh2, P187⟩, st187⟩ => ⟨hv, Pd ++ [O[l]], Cg ++ [b169], _, _, nh2, by simp, P187, play_step Y hON hlO hWl hmin (fun hac j hj h => hord' hac _ _ hlO hj h) b169, listsAt_step L182 st187, by have := st187.upd.size; omega⟩⟩
      · have hB46 := h00.upd P46.old id
        refine ⟨_, _, _, hB46.cell rfl, brC_intro (fun hlt => ?_) fun _ => rfl⟩
        have hlt : Pd.length < la := by have := of_decide_eq_true hlt; omega
        obtain ⟨aa, n, s, bb, rfl, hca, _, _⟩ := hA0 Pd.length hlt
        exact ⟨_, _, _, hB46.cell rfl, by omega, by omega, ptrC_some ⟨n, by rw [Int.toNat_natCast]; exact cell_keep hca u046, rfl⟩⟩
    · subst e
      have hpP := phas_spec (hP1.keep u046) (by simp only [maxLen]; omega) c0 O[l]
      refine callC_of hpP fun v w204 ⟨hv, e⟩ => ⟨_, hv, brC_ff (by simpa using hlP) ⟨?_, e⟩⟩
      rw [decide_eq_false_iff_not]; omega
end Go.Proofs.Ytkacocaekffdgaa
