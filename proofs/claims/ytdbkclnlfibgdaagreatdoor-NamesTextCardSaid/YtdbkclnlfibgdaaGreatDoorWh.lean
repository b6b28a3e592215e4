/- Joined by program of: E1, E2, E3, E4, E5. -/
import Derived.Test.YtdbkclnlfibgdaaGreatDoorWd
set_option maxRecDepth 100000
set_option maxHeartbeats 4000000
namespace Go.Proofs.YtdbkclnlfibgdaaGreatDoor
open Go.SX Go.Ty Go.MapKept Go.RowKit Go.Tx
structure Gave (w0 : World) (tv : Value) (S : Nat -> Prop) (w : World) (d : Nat) (v : Value) (w' : World) : Prop where
  v : ∃ q, v = .iface 108 (.agg #[.pointer q])
  z : ∃ a, Pz w0 tv w' a d
  u : Upd S w w'
theorem Gave.from {w0 : World} {tv : Value} {S T : Nat -> Prop} {w w1 w' : World} {d : Nat} {v : Value} (h : Gave w0 tv T w1 d v w') (u : Upd S w w1) (hs : ∀ x, x < w.heap.size -> T x -> S x) : Gave w0 tv S w d v w' := ⟨h.v, h.z, u.trans h.u hs⟩
def Good (toks : List Tok) : Prop := ∀ a t, toks[a]? = some t -> t.kind ≠ 0 -> a + 1 < toks.length
theorem isW_kind {t : Tok} {l : List ByteArray} (h : isW t l = true) : t.kind ≠ 0 := fun e => by
  unfold isW at h; rw [e] at h; simp at h
theorem Good.get {toks : List Tok} (G : Good toks) {a : Nat} {t : Tok} (ht : toks[a]? = some t) (h : t.kind ≠ 0) : ∃ q, toks[a + 1]? = some q := ⟨_, List.getElem?_eq_getElem (G a t ht h)⟩
section
variable {w0 w : World} {tv : Value} {toks : List Tok} {a d : Nat} {t : Tok} {K R : KV}
theorem fail_x (P : P0 w0 tv toks) (Z : Pz w0 tv w a d) (ht : toks[a]? = some t) {c : Int} (hr : ∀ v w', Gave w0 tv (· = w0.heap.size) w d v w' -> R v w') :
    callX Tryz.prog 90 #[.pointer (some ⟨w0.heap.size, 0, none⟩), .int .i64 c] w K R :=
  fail_text _ _ _ _ _ (next_c P Z ht fun w1 u1 => ⟨_, _, _, _, rfl, newC_mk fun w7 B7 u7 _ => hr _ w7 ⟨⟨_, rfl⟩, ⟨_, Z.keep (up u1 u7)⟩, (up u1 u7).no⟩⟩)
theorem must_x (P : P0 w0 tv toks) (Z : Pz w0 tv w a d) (ht : toks[a]? = some t) (ha : a < 1000000) {s : ByteArray} (hk : isW t [s] = true -> ∀ w', Pz w0 tv w' (a + 1) d -> Upd (· = w0.heap.size) w w' -> K (.tuple #[]) w')
    (hr : isW t [s] = false -> ∀ v w', Gave w0 tv (· = w0.heap.size) w d v w' -> R v w') :
    callX Tryz.prog 86 #[.pointer (some ⟨w0.heap.size, 0, none⟩), .string s] w K R := by
  refine must_text _ _ _ _ _ (newC_mk fun w1 B1 u1 _ => may_c P (Z.keep u1) ht ha (one_str B1) rfl (by decide) (fun h w3 Z3 u3 => ⟨_, rfl, brC_ff rfl (hk h w3 Z3 (u1.no.trans u3 fun _ _ x => x))⟩) fun h w3 u3 => ⟨_, rfl, brC_tt rfl ?_⟩); exact fail_x P (Z.keep (up u1 u3)) ht fun v w' g => hr h v w' (g.from (up u1 u3).no fun _ _ e => e)
theorem take_x (P : P0 w0 tv toks) (Z : Pz w0 tv w a d) (ht : toks[a]? = some t) (ha : a < 1000000) {k : Int} (hk : t.kind = k -> ∀ w', Pz w0 tv w' (a + 1) d -> Upd (· = w0.heap.size) w w' -> K (tokV t) w')
    (hr : t.kind ≠ k -> ∀ v w', Gave w0 tv (· = w0.heap.size) w d v w' -> R v w') :
    callX Tryz.prog 85 #[.pointer (some ⟨w0.heap.size, 0, none⟩), .int .i64 k] w K R := by
  by_cases hkk : t.kind = k
  . subst hkk; exact take_c P Z ht ha (hk rfl)
  have hl := Z.lt; refine take_text _ _ _ _ _ (newC_mk fun w1 B1 u1 s1 => next_c P (Z.keep u1) ht fun w3 u3 => ⟨_, _, _, _, rfl, newC_mk fun w9 B9 u9 s9 => ?_⟩); have hlt : ∀ x, x < w3.heap.size -> x = w3.heap.size -> No x := fun x hx e => by omega
  refine stC_mk B9 (by simp) fun w10 B10 u10 _ => stC_mk B10 (by simp) fun w11 B11 u11 _ => stC_mk B11 (by simp) fun w12 B12 u12 _ => stC_mk B12 (by simp) fun w13 B13 u13 _ => ?_; have U := up (up u1 u3) ((((u9.trans u10 hlt).trans u11 hlt).trans u12 hlt).trans u13 hlt); refine ⟨fun _ => False, fun _ h => h.elim, ⟨_, B13.cell rfl, brC_tt (by simpa using hkk) ?_⟩⟩; exact fail_x P (Z.keep U) ht fun v w' g => hr hkk v w' (g.from U.no fun _ _ e => e)
theorem name_x (P : P0 w0 tv toks) (Z : Pz w0 tv w a d) (ht : toks[a]? = some t) (ha : a < 1000000) (hk : t.kind = 1 -> ∀ w', Pz w0 tv w' (a + 1) d -> Upd (· = w0.heap.size) w w' -> K (.string t.text) w')
    (hr : t.kind ≠ 1 -> ∀ v w', Gave w0 tv (· = w0.heap.size) w d v w' -> R v w') :
    callX Tryz.prog 87 #[.pointer (some ⟨w0.heap.size, 0, none⟩)] w K R :=
  pname_text _ _ _ _ (take_x P Z ht ha (fun h w' z u => ⟨_, _, _, _, rfl, hk h w' z u⟩) hr)
theorem named_x (P : P0 w0 tv toks) (G : Good toks) (Z : Pz w0 tv w a d) (ht : toks[a]? = some t) (hl : toks.length <= 900000)
    (hk : ∀ x a', namedF toks a = some (x, a') -> ∀ w' q, Pz w0 tv w' a' d -> XAt idx (From w.heap.size) w' (.pointer q) x -> Upd (· = w0.heap.size) w w' -> K (.pointer q) w')
    (hr : namedF toks a = none -> ∀ v w', Gave w0 tv (· = w0.heap.size) w d v w' -> R v w') :
    callX Tryz.prog 186 #[.pointer (some ⟨w0.heap.size, 0, none⟩)] w K R := by
  cases hF : namedF toks a with
  | some r => exact named_c P Z hF hl (hk _ _ hF)
  | none =>
  have hr := hr hF; clear hk; have hat := (List.getElem?_eq_some_iff.1 ht).1; have hzl := Z.lt; refine pnamed_text _ _ _ _ (next_c P Z ht fun w1 u1 => ⟨_, _, _, _, rfl, name_x P (Z.keep u1) ht (by omega) (fun h1 w7 Z7 u7 => ⟨_, rfl, newC_mk fun w10 B10 u10 s10 => ?_⟩) fun h1 v w' g => hr v w' (g.from u1.no fun _ _ e => e)⟩); obtain ⟨q, hq⟩ := G.get ht (by omega); have haq := (List.getElem?_eq_some_iff.1 hq).1; unfold namedF at hF; rw [ht, hq] at hF; dsimp only at hF; rw [if_pos h1] at hF; have z1 := u1.size; have z7 := u7.size; have U10 : Upd (· = w0.heap.size) w w10 := (u1.no.trans u7 fun _ _ e => e).trans u10 fun _ _ e => e.elim; refine ⟨fun _ => False, fun _ h => h.elim, newC_mk fun w15 B15 u15 s15 => ?_⟩; have Z15 := Z7.keep (up u10 u15); have U15 := U10.trans u15 fun _ _ e => e.elim; refine may_c P Z15 hq (by omega) (one_str B15) rfl (by decide) (fun hy w17 Z17 u17 => ⟨_, rfl, brC_tt rfl ?_⟩) fun hno w17 u17 => ?_
  . have hy : isW q [wDot] = true := hy; rw [if_pos hy] at hF; obtain ⟨u, hu⟩ := G.get hq (isW_kind hy); have hau := (List.getElem?_eq_some_iff.1 hu).1; have B17 := (B10.upd u15 id).upd u17 (by omega); refine drawC_mk fun w19 u19 _ => ⟨fun w' => Blk w' w7.heap.size #[.int .i64 6, .int .i64 (t.at_ : Int), .string .empty, .string t.text, .slice none 0 0, .slice none 0 0, .pointer none] 63, _, (B17.upd u19 id).cell rfl, fun w22 h => lds_str (h.cell rfl), ?_, trivial⟩; refine name_x P (Z17.keep u19) hu (by omega) (fun hu1 => ?_) fun hu1 v w' g => hr v w' (g.from ((U15.trans u17 fun _ _ e => e).trans u19 fun _ _ e => e.elim) fun _ _ e => e); obtain ⟨v, hv⟩ := G.get hu (by omega); rw [hu, hv] at hF; dsimp only at hF; rw [if_pos hu1] at hF; cases hF
  . have hno : isW q [wDot] = false := hno; rw [if_neg (by rw [hno]; simp)] at hF; cases hF
end
theorem list_x {w0 w : World} {tv : Value} {toks : List Tok} {a d : Nat} {K R : KV} (P : P0 w0 tv toks) (Z : Pz w0 tv w a d) (hl : toks.length <= 900000) {σ : Type} {E : σ -> Nat -> Option (Wt × Nat × σ)} {en : ByteArray} {st : σ}
    (G : Good toks) {t : Tok} (ht : toks[a]? = some t) {B : σ -> Nat -> Prop} (hE : ∀ st a x a1 st', B st a -> E st a = some (x, a1, st') -> a < a1 /\ a1 < toks.length /\ B st' a1) (hB : ∀ st a a', B st a -> a <= a' -> B st a') (hB0 : B st a) {fn : Fn} {fa fc : Array Value} {I : σ -> (Nat -> Prop) -> WP} {N : Nat -> Prop}
    (hkeep : ∀ st N w w' S, I st N w -> Upd S w w' -> (∀ b, N b -> ¬ S b) -> I st N w') (hN : ∀ st N w, I st N w -> ∀ b, N b -> b < w.heap.size /\ w0.heap.size < b)
    (hone : ∀ (st : σ) (N : Nat -> Prop) (a' : Nat) (w : World) (K R : KV), Pz w0 tv w a' d -> I st N w -> B st a' -> a <= a' -> a' < toks.length ->
      (∀ x a1 st', E st a' = some (x, a1, st') -> ∀ w' q N', Pz w0 tv w' a1 d -> I st' N' w' -> (∀ b, N' b -> N b \/ w.heap.size <= b) -> XAt idx (fun b => w.heap.size <= b /\ ¬ N' b) w' (.pointer q) x -> Upd (fun b => b = w0.heap.size \/ N b) w w' -> K (.pointer q) w') ->
      (E st a' = none -> ∀ v w', Gave w0 tv (fun b => b = w0.heap.size \/ N b) w d v w' -> R v w') -> invB Tryz.prog pxT (.func fn fa fc) #[] w K R)
    (hI : I st N w)
    (hk : ∀ xs a' st', lstA toks E en a st = some (xs, a', st') -> ∀ w' p n c vs N', Pz w0 tv w' a' d -> I st' N' w' -> (∀ b, N' b -> N b \/ w.heap.size <= b) -> RowAt w' idx.ptr 1 (.slice p n c) vs -> (∀ b, InRow (.slice p n c) b -> w.heap.size <= b /\ ¬ N' b) -> XsAt idx (fun b => w.heap.size <= b /\ ¬ N' b) w' vs xs -> Upd (fun b => b = w0.heap.size \/ N b) w w' -> K (.slice p n c) w')
    (hr : lstA toks E en a st = none -> ∀ v w', Gave w0 tv (fun b => b = w0.heap.size \/ N b) w d v w' -> R v w') :
    callX Tryz.prog 145 #[.pointer (some ⟨w0.heap.size, 0, none⟩), .string en, .func fn fa fc] w K R := by
  generalize hA : lstA toks E en a st = A at *; unfold lstA at hA; rw [ht] at hA; dsimp only at hA; have hwl := Z.lt; refine listT_text _ _ _ _ _ _ _ _ (newC_mk fun w1 B1 u1 _ => is_c P (Z.keep u1) ht (one_str B1) rfl (by decide) fun w3 u3 => ⟨_, rfl, ?_⟩); have U3 := up u1 u3; have z3 := U3.size
  refine ⟨fun p n c b w' => ∃ st2 N2 a2 xs2 vs, Pz w0 tv w' a2 d /\ a2 <= toks.length /\ I st2 N2 w' /\ (∀ b, N2 b -> N b \/ w.heap.size <= b) /\ RowAt w' idx.ptr 1 (.slice p n c) vs /\ (∀ b, InRow (.slice p n c) b -> w.heap.size <= b /\ ¬ N2 b) /\
      XsAt idx (fun b => w.heap.size <= b /\ ¬ InRow (.slice p n c) b /\ ¬ N2 b) w' vs xs2 /\ Upd (fun b => b = w0.heap.size \/ N b) w w' /\ vs.length <= a2 /\ B st2 a2 /\ a <= a2 /\ a2 < toks.length /\
      (b = true -> ∃ f, lstF toks E en f a2 st2 xs2 = A /\ toks.length + 1 <= f + a2) /\ (b = false -> ∃ q, toks[a2]? = some q /\ A = if isW q [en] then some (xs2, a2 + 1, st2) else none),
    fun _ _ _ _ w' => toks.length + 1 - atOf w' w0.heap.size, ?_, ?_⟩
  . have ha := (List.getElem?_eq_some_iff.1 ht).1; refine ⟨st, N, a, [], [], Z.keep U3, by omega, hkeep _ _ _ _ _ hI U3 (fun _ _ h => h), fun b h => .inl h, RowAt.nil _ _ _, fun b hb => (no_in b hb).elim, trivial, U3.no, Nat.zero_le _, hB0, Nat.le_refl _, ha, fun hb => ?_, fun hb => ?_⟩
    . have hb : isW t [en] = false := by simpa using hb
      rw [if_neg (by rw [hb]; simp)] at hA; exact ⟨_, hA, by omega⟩
    . have hb : isW t [en] = true := by simpa using hb
      rw [if_pos hb] at hA; exact ⟨t, ht, by rw [if_pos hb]; exact hA.symm⟩
  rintro p n c b w11 ⟨st2, N2, a2, xs2, vs, Z11, ha2, I11, sub2, row, rowN, hxs, U11, hvs, hB2, haa, ha2l, hbt, hbf⟩ _; have z11 := U11.size; have hlen := hxs.length; refine brC_intro (fun hb => ?_) fun hb => ?_
  . obtain ⟨f, hf, hfl⟩ := hbt hb
    cases f with
    | zero => omega
    | succ f =>
    unfold lstF at hf
    have gv : ∀ {w1 : World} {S : Nat -> Prop}, Upd S w11 w1 -> (∀ b, b < w11.heap.size -> S b -> b = w0.heap.size \/ N2 b \/ w.heap.size <= b) -> Upd (fun b => b = w0.heap.size \/ N b) w w1 := fun u h => U11.trans u fun y hy hs => by
      rcases h y (by have := U11.size; omega) hs with h | h | h
      . exact .inl h
      . rcases sub2 y h with h | h
        . exact .inr h
        . omega
      . omega
    refine hone st2 N2 a2 w11 _ _ Z11 I11 hB2 haa ha2l (fun x a1 st3 hEx w14 q15 N3 Z14 I14 sub3 hx u14 => ⟨q15, rfl, newC_mk fun w17 B17 u17 s17 => ?_⟩) fun hEn v w' g => ?_
    rotate_left
    . rw [hEn] at hf; exact hr hf.symm v w' ⟨g.v, g.z, gv g.u fun b _ h => h.imp id .inl⟩
    obtain ⟨ha1, hq1, hB3⟩ := hE _ _ _ _ _ hB2 hEx; obtain ⟨q, hq⟩ : ∃ q, toks[a1]? = some q := ⟨_, List.getElem?_eq_getElem hq1⟩; rw [hEx] at hf; dsimp only at hf; rw [hq] at hf; dsimp only at hf; have z14 := u14.size; have hN3 := hN _ _ _ I14
    have nr : ∀ b, InRow (.slice p n c) b -> ¬ (b = w0.heap.size \/ N2 b) := fun b hb h => by
      have := rowN b hb; rcases h with h | h
      . omega
      . exact this.2 h
    have row17 := (row.upd u14 nr).upd u17 fun _ _ h => h; have hnl := row_cap row; have O17 : Own w.heap.size w17 idx.ptr p n c vs := ⟨row17, fun b hb => (rowN b hb).1, hnl.1, hnl.2⟩; refine grow_row elemWt O17 (by omega) (row_one B17) (by intro u hu; simp at hu; subst hu; rfl) (by omega) (by simp; omega) fun p' n' c' w19 o19 _ hin19 u19 => newC_mk fun w24 B24 u24 _ => ?_; have nk : ¬ InRow (.slice p n c) w0.heap.size := fun h => by have := (rowN _ h).1; omega
    have Z19 : Pz w0 tv w19 a1 d := ⟨(Z14.keep u17).up.trans u19 fun y hy h => by have := (rowN y h).1; omega, (Z14.keep u17).blk.upd u19 nk⟩
    have dis : ∀ b, N3 b -> ¬ InRow (.slice p n c) b := fun b hb h => by
      rcases sub3 b hb with h2 | h2
      . exact (rowN b h).2 h2
      . have := row.lt h; omega
    have I24 : I st3 N3 w24 := hkeep _ _ _ _ _ (hkeep _ _ _ _ _ (hkeep _ _ _ _ _ I14 u17 fun _ _ h => h) u19 dis) u24 fun _ _ h => h; have Z24 := Z19.keep u24
    have U24 : Upd (fun b => b = w0.heap.size \/ N b) w w24 := by
      refine ((((U11.trans u14 fun y hy h => ?_).trans u17 fun _ _ h => h.elim).trans u19 fun y hy h => ?_).trans u24 fun _ _ h => h.elim)
      . rcases h with h | h
        . exact .inl h
        . rcases sub2 y h with h | h
          . exact .inr h
          . omega
      . have := (rowN y h).1; omega
    have xs24 : XsAt idx (fun b => w.heap.size <= b /\ ¬ InRow (.slice p' n' c') b /\ ¬ N3 b) w24 (vs ++ [.pointer q15]) (xs2 ++ [x]) := by
      have z17 : w14.heap.size + 1 = w17.heap.size := s17.symm; refine XsAt.append ?_ ⟨?_, trivial⟩
      . have h1 := xsAt_keep (G := fun b => (w.heap.size <= b /\ ¬ InRow (.slice p n c) b) /\ b < w11.heap.size /\ ¬ N3 b) u14 (fun b hb h => by
          rcases h with h | h
          . have := hb.1; omega
          . exact hb.2.2 h) (fun b hlt hb => ⟨⟨hb.1, hb.2.1⟩, hlt, fun h => by
          rcases sub3 b h with h2 | h2
          . exact hb.2.2 h2
          . omega⟩) hxs
        have h2 := xsAt_keep (G := fun b => w.heap.size <= b /\ ¬ InRow (.slice p' n' c') b /\ ¬ N3 b) u19 (fun b hb h => hb.1.2 h) (fun b hlt hb => ⟨hb.1.1, fun h => by
          rcases hin19 b h with h2 | h2
          . exact hb.1.2 h2
          . have := hb.2.1; omega, hb.2.2⟩) (h1.keep u17)
        exact h2.keep u24
      . have h1 := xAt_keep (G := fun b => w.heap.size <= b /\ ¬ InRow (.slice p' n' c') b /\ ¬ N3 b) (Upd.trans (S := InRow (.slice p n c)) (T := InRow (.slice p n c)) u17.no u19 fun _ _ h => h) (fun b hb h => by have := row.lt h; have := hb.1; omega) (fun b hlt hb => ⟨by have := hb.1; omega, fun h => by
          rcases hin19 b h with h2 | h2
          . have := row.lt h2; have := hb.1; omega
          . omega, hb.2⟩) x _ hx
        exact h1.keep u24
    have row24 := o19.row.upd u24 fun _ _ h => h
    have rowN24 : ∀ b, InRow (.slice p' n' c') b -> w.heap.size <= b /\ ¬ N3 b := fun b hb => by
      refine ⟨o19.own b hb, fun h => ?_⟩; rcases hin19 b hb with h2 | h2
      . exact dis b h h2
      . have := (hN3 b h).1; omega
    have sub4 : ∀ b, N3 b -> N b \/ w.heap.size <= b := fun b h => by
      rcases sub3 b h with h | h
      . exact sub2 b h
      . exact .inr (by omega)
    have hmeas : ∀ {w' a3}, Pz w0 tv w' a3 d -> a2 < a3 -> toks.length + 1 - atOf w' w0.heap.size < toks.length + 1 - atOf w11 w0.heap.size := fun h1 h2 => by
      rw [h1.at_, Z11.at_]; omega
    refine may_c P Z24 hq (by omega) (one_str B24) rfl (by decide) (fun hy w26 Z26 u26 => ⟨_, rfl, ⟨st3, N3, a1 + 1, xs2 ++ [x], vs ++ [.pointer q15], Z26, by have := G _ _ hq (isW_kind hy); omega, hkeep _ _ _ _ _ I24 u26 (fun b hb e => by have := (hN3 b hb).2; omega), sub4, row24.upd u26 (fun b hb e => by have := (rowN24 b hb).1; omega), rowN24,
      xs24.upd u26 (fun b hb e => by have := hb.1; omega), U24.trans u26 (fun y hy e => .inl e), by simp; omega, hB _ _ _ hB3 (by omega), by omega, G _ _ hq (isW_kind hy), fun _ => ⟨f, ?_, by omega⟩, fun h => by cases h⟩, hmeas Z26 (by omega)⟩)
      fun hno w26 u26 => ⟨_, rfl, ⟨st3, N3, a1, xs2 ++ [x], vs ++ [.pointer q15], Z24.keep u26, by omega, hkeep _ _ _ _ _ I24 u26 (fun _ _ h => h), sub4, row24.upd u26 (fun _ _ h => h), rowN24, xs24.keep u26, U24.trans u26 (fun _ _ h => h.elim), by simp; omega, hB3, by omega, hq1, fun h => by (cases h), fun _ => ⟨q, hq, ?_⟩⟩, hmeas (Z24.keep u26) ha1⟩
    . have hy : isW q [wComma] = true := hy; rw [if_pos hy] at hf; exact hf
    . rw [if_neg (by rw [show isW q [wComma] = false from hno]; simp)] at hf; exact hf.symm
  . obtain ⟨q, hq, hAq⟩ := hbf hb; have hq1 := (List.getElem?_eq_some_iff.1 hq).1
    refine must_x P Z11 hq (by omega) (fun hen w29 Z29 u29 => ⟨rfl, hk _ _ _ (by rw [hAq, if_pos hen]) w29 p n c vs N2 Z29 (hkeep _ _ _ _ _ I11 u29 (fun b hb e => by have := (hN _ _ _ I11 b hb).2; omega)) sub2 (row.upd u29 fun b hb e => by have := (rowN b hb).1; omega) rowN
      ((hxs.mono fun b _ hb => ⟨hb.1, hb.2.2⟩).upd u29 fun b hb e => by have := hb.1; omega) (U11.trans u29 fun y hy e => .inl e)⟩) fun hen v w' g => hr (by rw [hAq, if_neg (by rw [hen]; simp)]) v w' (g.from U11 fun y hy e => .inl e)
def TypNo (w0 : World) (tv : Value) (toks : List Tok) (self : Nat -> Nat -> Option (Wt × Nat)) (n : Nat) : Prop := ∀ (w : World) (a d : Nat) (K R : KV), Pz w0 tv w a d -> d <= 1000 -> a < toks.length -> toks.length <= n + a -> self a d = none ->
  (∀ v w', Gave w0 tv (· = w0.heap.size) w d v w' -> R v w') -> callX Tryz.prog 88 #[.pointer (some ⟨w0.heap.size, 0, none⟩)] w K R
theorem field_n {w0 w : World} {tv : Value} {toks : List Tok} {a d : Nat} {K R : KV} (P : P0 w0 tv toks) (G : Good toks) (hl : toks.length <= 900000) {self : Nat -> Nat -> Option (Wt × Nat)} {m : Nat} (hno : TypNo w0 tv toks self m)
    {n0 k0 k9 k11 : Nat} {at_ : Int} {nv : Value} {ns : List ByteArray} (Z : Pz w0 tv w a d) (ham : toks.length <= m + a + 2) {t : Tok} (ht : toks[a]? = some t) (hns : ns.length <= a) (hd1 : d <= 1000) (b0 : Blk w k0 #[.pointer (some ⟨w0.heap.size, 0, none⟩)] 110)
    (b9 : Blk w k9 #[.int .i64 7, .int .i64 at_, .string .empty, .string .empty, nv, .slice none 0 0, .pointer none] 63) (b11 : Blk w k11 #[.pointer (some ⟨k9, 0, none⟩)] 27) (row : RowAt w idx.str 1 nv (ns.map Value.string))
    (own : ∀ b, InRow nv b -> n0 <= b /\ b ≠ k0 /\ b ≠ k9 /\ b ≠ k11) (hd : w0.heap.size < n0 /\ n0 <= k0 /\ k0 < k9 /\ k9 < k11) (hF : fieldE toks self d ns a = none)
    (hr : ∀ v w', Gave w0 tv (fun b => b = w0.heap.size \/ b = k9 \/ InRow nv b) w d v w' -> R v w') :
    callX Tryz.prog 185 #[.pointer (some ⟨k11, 0, none⟩), .pointer (some ⟨k0, 0, none⟩)] w K R := by
  have hat := (List.getElem?_eq_some_iff.1 ht).1; unfold fieldE at hF; rw [if_neg (by omega), ht] at hF; obtain ⟨p, n, cp, rfl, hn, hnc, hcm⟩ := row.shape; rw [List.length_map, Nat.mul_one] at hn; refine pone1_text _ _ _ _ _ _ _ ⟨fun w' => t.kind = 1 /\ Pz w0 tv w' (a + 1) d /\ Blk w' k0 #[.pointer (some ⟨w0.heap.size, 0, none⟩)] 110 /\ Upd (fun b => b = w0.heap.size \/ b = k9 \/ InRow (.slice p n cp) b) w w', ?_, drawC_mk fun w10 u10 _ => ?_⟩
  . rintro w1 ⟨h1, Z1, c0, u1⟩ _; obtain ⟨c, hc⟩ := G.get ht (by omega); have hac := (List.getElem?_eq_some_iff.1 hc).1; rw [hc] at hF; dsimp only at hF; rw [if_pos h1] at hF; refine ⟨_, c0.cell rfl, must_x P Z1 hc (by omega) (fun hcol w5 Z5 u5 => ⟨rfl, ?_⟩) fun _ v w' g => hr v w' (g.from u1 fun _ _ e => .inl e)⟩; rw [if_pos (show isW c [wColon] = true from hcol)] at hF; have e0 := c0.upd u5 (by omega)
    have hs : self (a + 2) d = none := by
      cases h : self (a + 2) d with
      | none => rfl
      | some r => rw [h] at hF; cases hF
    exact ⟨_, e0.cell rfl, hno w5 (a + 2) d _ _ Z5 hd1 (G _ _ hc (isW_kind hcol)) (by omega) hs fun v w' g => hr v w' (g.from (u1.trans u5 fun _ _ e => .inl e) fun _ _ e => .inl e)⟩
  have S10 : ∀ {w'}, Upd No w10 w' -> Blk w' k11 #[.pointer (some ⟨k9, 0, none⟩)] 27 /\ Blk w' k0 #[.pointer (some ⟨w0.heap.size, 0, none⟩)] 110 /\ Blk w' k9 #[.int .i64 7, .int .i64 at_, .string .empty, .string .empty, .slice p n cp, .slice none 0 0, .pointer none] 63 := fun u => ⟨(b11.upd u10 id).upd u id, (b0.upd u10 id).upd u id, (b9.upd u10 id).upd u id⟩; obtain ⟨c11, c0, c9⟩ := S10 (Upd.refl _ _)
  refine ⟨fun w' => Blk w' k11 #[.pointer (some ⟨k9, 0, none⟩)] 27 /\ Blk w' k0 #[.pointer (some ⟨w0.heap.size, 0, none⟩)] 110 /\ Blk w' k9 #[.int .i64 7, .int .i64 at_, .string .empty, .string .empty, .slice p n cp, .slice none 0 0, .pointer none] 63,
    _, c11.cell rfl, fun w' h => lds_tx (h.1.cell rfl), _, c11.cell rfl, fun w' h => lds_tx (h.1.cell rfl), ptrC_some ⟨p, n, cp, by rw [add_mk]; exact c9.cell rfl, fun w' h => lds_strs (by rw [add_mk]; exact h.2.2.cell rfl), _, c0.cell rfl, fun w' h => lds_px (h.2.1.cell rfl), ?_, trivial⟩⟩
  refine name_x P (Z.keep u10) ht (by omega) (fun h1 w24 Z24 u24 => ⟨_, rfl, ⟨c11.upd u24 (by omega), c0.upd u24 (by omega), c9.upd u24 (by omega)⟩, newC_mk fun w27 B27 u27 s27 => ⟨⟨(c11.upd u24 (by omega)).upd u27 id, (c0.upd u24 (by omega)).upd u27 id, (c9.upd u24 (by omega)).upd u27 id⟩, ?_, trivial⟩, trivial⟩) fun _ v w' g => hr v w' (g.from u10.no fun _ _ e => .inl e); have d11 := (c11.upd u24 (by omega)).upd u27 id; have d0 := (c0.upd u24 (by omega)).upd u27 id; have d9 := (c9.upd u24 (by omega)).upd u27 id; have r27 := ((row.upd u10 fun _ _ h => h).upd u24 fun b hb e => by have := (own b hb).1; omega).upd u27 fun _ _ h => h; have hnr := row_cap r27; refine grow_row elemStr (n0 := n0) ⟨r27, fun b hb => (own b hb).1, hnr.1, hnr.2⟩ (by have := u10.size; have := u24.size; have := b0.lt; omega) (row_one B27) (by intro u hu; simp at hu; subst hu; rfl) (by omega) (by simp; omega) fun p' n' c' w29 o29 _ hin29 u29 => ?_; refine ⟨⟨d11.upd u29 (fun h => (own _ h).2.2.2 rfl), d0.upd u29 (fun h => (own _ h).2.1 rfl), d9.upd u29 (fun h => (own _ h).2.2.1 rfl)⟩, ptrC_some ⟨?_, trivial⟩⟩; rw [add_mk]; have b9lt := b9.lt; have b0lt := b0.lt; have nk : ¬ InRow (.slice p n cp) w0.heap.size := fun h => by have := (own _ h).1; omega
  refine stC_mk (d9.upd u29 (fun h => (own _ h).2.2.1 rfl)) (by simp) fun w34 B34 u34 _ => ⟨h1, ?_, (d0.upd u29 (fun h => (own _ h).2.1 rfl)).upd u34 (by omega), ?_⟩
  . exact ⟨((Z24.keep u27).up.trans u29 fun y hy h => by have := (own y h).1; omega).trans u34 fun y hy (e : y = _) => by omega, ((Z24.keep u27).blk.upd u29 nk).upd u34 (by omega)⟩
  . exact (((u10.no.trans u24 fun _ _ e => Or.inl e).trans u27 fun _ _ h => h.elim).trans u29 fun _ _ h => .inr (.inr h)).trans u34 fun _ _ e => .inr (.inl e)
def TypIn (toks : List Tok) (self : Nat -> Nat -> Option (Wt × Nat)) : Prop := ∀ a d x a1, self a d = some (x, a1) -> a1 < toks.length
theorem fieldE_more {toks : List Tok} {self : Nat -> Nat -> Option (Wt × Nat)} {d : Nat} {ns : List ByteArray} {a : Nat} {x : Wt} {a1 : Nat} {ns' : List ByteArray} (he : fieldE toks self d ns a = some (x, a1, ns')) (h : TypIn toks self) : a1 < toks.length /\ ns'.length = ns.length + 1 := by
  unfold fieldE at he; split at he
  . cases he
  split at he
  . split at he
    . split at he
      . split at he
        . rename_i x2 a2 hs; simp only [Option.some.injEq, Prod.mk.injEq] at he; have := h _ _ _ _ hs; obtain ⟨_, h2, h3⟩ := he; subst h2; subst h3; exact ⟨this, by simp⟩
        . cases he
      . cases he
    . cases he
  . cases he
theorem argE_in {toks : List Tok} {self : Nat -> Nat -> Option (Wt × Nat)} {d : Nat} {a : Nat} {x : Wt} {a1 : Nat} {st st' : Unit} (he : argE self d st a = some (x, a1, st')) (h : TypIn toks self) : a1 < toks.length := by
  unfold argE at he; split at he
  . rename_i x2 a2 hs; simp only [Option.some.injEq, Prod.mk.injEq] at he; have := h _ _ _ _ hs; omega
  . cases he
theorem lstF_in {σ : Type} {ts : List Tok} (G : Good ts) {E : σ -> Nat -> Option (Wt × Nat × σ)} {en : ByteArray} (h : ∀ st a x a1 st', E st a = some (x, a1, st') -> a1 < ts.length) : ∀ (f a : Nat) (st : σ) (xs ys : List Wt) (a' : Nat) (st' : σ), lstF ts E en f a st xs = some (ys, a', st') -> a' < ts.length
  | 0, _, _, _, _, _, _, e => by cases e
  | f + 1, a, st, xs, ys, a', st', e => by
    unfold lstF at e; split at e
    . cases e
    split at e
    . cases e
    rename_i q hq; split at e
    . exact lstF_in G h f _ _ _ _ _ _ e
    . split at e
      . rename_i hen; simp only [Option.some.injEq, Prod.mk.injEq] at e; have := G _ _ hq (isW_kind hen); omega
      . cases e
theorem lstA_in {σ : Type} {ts : List Tok} (G : Good ts) {E : σ -> Nat -> Option (Wt × Nat × σ)} {en : ByteArray} (h : ∀ st a x a1 st', E st a = some (x, a1, st') -> a1 < ts.length) {a : Nat} {st : σ} {ys : List Wt} {a' : Nat} {st' : σ} (e : lstA ts E en a st = some (ys, a', st')) : a' < ts.length := by
  unfold lstA at e; split at e
  . cases e
  rename_i q hq; split at e
  . rename_i hen; simp only [Option.some.injEq, Prod.mk.injEq] at e; have := G _ _ hq (isW_kind hen); omega
  . exact lstF_in G h _ _ _ _ _ _ _ e
theorem one_n {w0 w : World} {tv : Value} {toks : List Tok} {a d : Nat} {K R : KV} (P : P0 w0 tv toks) (hl : toks.length <= 900000) {self : Nat -> Nat -> Option (Wt × Nat)} (hself : TypOk w0 tv self) (hinc : Inc self) (G : Good toks) (hin : TypIn toks self) {m : Nat} (hnot : TypNo w0 tv toks self m) (Z : Pz w0 tv w a d) (hd1 : d <= 1000) (ham : toks.length <= m + a + 1) {t : Tok} (ht : toks[a]? = some t) (hF : oneS toks self a d = none)
    (hr : ∀ v w', Gave w0 tv (· = w0.heap.size) w d v w' -> R v w') :
    callX Tryz.prog 144 #[.pointer (some ⟨w0.heap.size, 0, none⟩)] w K R := by
  unfold oneS at hF; rw [ht] at hF; dsimp only at hF; have hat := (List.getElem?_eq_some_iff.1 ht).1; have hzl := Z.lt; refine pone_text _ _ _ _ (newC_mk fun w1 B1 u1 s1 => ⟨_, B1.cell rfl, next_c P (Z.keep u1) ht fun w4 u4 => ⟨_, _, _, _, rfl, newC_mk fun w10 B10 u10 s10 => newC_mk fun w12 B12 u12 s12 => ?_⟩⟩); have z4 := u4.size
  have O12 : On w0 tv w w12 w.heap.size w4.heap.size w10.heap.size #[.int .i64 0, .int .i64 (t.at_ : Int), .string .empty, .string .empty, .slice none 0 0, .slice none 0 0, .pointer none] none a d :=
    ⟨Z.keep (up (up u1 u4) (up u10 u12)), (up (up u1 u4) (up u10 u12)).no, B1.upd (up u4 (up u10 u12)) id, B10.upd u12 id, B12, by omega, by omega, by omega, by omega⟩
  generalize hk9 : w4.heap.size = k9 at O12; generalize hk11 : w10.heap.size = k11 at O12; clear B1 B10 B12 u1 u4 u10 u12; refine O12.st11 fun w13 O13 _ => ⟨_, O13.b0.cell rfl, next_c P O13.z ht fun w16 u16 => ⟨_, _, _, _, rfl, ?_⟩⟩; have O16 := O13.keep u16; have hd := O16.d; clear O12 O13 u16; refine ⟨fun _ => False, fun _ h => h.elim, ?_⟩; refine ⟨_, O16.b0.cell rfl, newC_mk fun w27 B27 u27 _ => ?_⟩; have O27 := O16.keep u27; have row5 : StrsAt w27 (some ⟨w16.heap.size, 0, none⟩) plainL := strs_row (l := plainL) (row_blk B27 5 rfl (by simp only [maxLen]; omega)); refine may_c P O27.z ht (by omega) row5 rfl (by decide) (fun hy w29 Z29 u29 => ⟨_, rfl, brC_tt rfl ?_⟩) fun hno w29 u29 => ⟨_, rfl, brC_ff rfl ?_⟩
  . -- a word
    have O29 := O27.adv Z29 u29; rw [if_pos hy, if_pos (G _ _ ht (isW_kind hy))] at hF; cases hF
  have hno : isW t plainL = false := hno; rw [if_neg (by rw [hno]; simp)] at hF; have O29 := O27.keep u29; refine ⟨_, O29.b0.cell rfl, newC_mk fun w42 B42 u42 _ => ?_⟩; have O42 := O29.keep u42; refine may_c P O42.z ht (by omega) (one_str B42) rfl (by decide) (fun hy w44 Z44 u44 => ⟨_, rfl, brC_tt rfl ?_⟩) fun hno w44 u44 => ⟨_, rfl, brC_ff rfl ?_⟩
  . -- parentheses
    have hy : isW t [wLp] = true := hy; rw [if_pos hy] at hF; have O44 := O42.adv Z44 u44; have ha1 := G _ _ ht (isW_kind hy)
    cases hs : self (a + 1) d with
    | none => exact ⟨_, O44.b0.cell rfl, hnot w44 (a + 1) d _ _ O44.z hd1 ha1 (by omega) hs fun v w' g => hr v w' (g.from O44.u fun _ _ e => e)⟩
    | some r =>
    obtain ⟨x2, a2⟩ := r; have ha2 := hin _ _ _ _ hs; obtain ⟨q, hq⟩ : ∃ q, toks[a2]? = some q := ⟨_, List.getElem?_eq_getElem ha2⟩; rw [hs] at hF; dsimp only at hF; rw [hq] at hF; dsimp only at hF; refine ⟨_, O44.b0.cell rfl, hself w44 (a + 1) d x2 a2 _ _ O44.z hs fun w48 q48 Z48 hx u48 => ⟨_, rfl, ?_⟩⟩; have O48 := O44.adv Z48 u48; refine O48.st11 fun w50 O50 u50 => ⟨_, O50.b0.cell rfl, must_x P O50.z hq (by omega) (fun hrp => ?_) fun _ v w' g => hr v w' (g.from O50.u fun _ _ e => e)⟩; rw [if_pos (show isW q [wRp] = true from hrp)] at hF; cases hF
  have hno : isW t [wLp] = false := hno; rw [if_neg (by rw [hno]; simp)] at hF; have O44 := O42.keep u44; refine ⟨_, O44.b0.cell rfl, newC_mk fun w56 B56 u56 _ => ?_⟩; have O56 := O44.keep u56; refine may_c P O56.z ht (by omega) (one_str B56) rfl (by decide) (fun hy w58 Z58 u58 => ⟨_, rfl, brC_tt rfl ?_⟩) fun hno w58 u58 => ⟨_, rfl, brC_ff rfl ?_⟩
  . -- a record
    have hy : isW t [wLb] = true := hy; rw [if_pos hy] at hF; have O58 := O56.adv Z58 u58; refine ⟨_, O58.b11.cell rfl, ptrC_some (O58.st9 (by simp) fun w62 O62 _ => drawC_mk fun w63 u63 _ => ?_)⟩; have O63 := O62.keep u63; refine ⟨fun w' => Blk w' k11 #[.pointer (some ⟨k9, 0, none⟩)] 27 /\ Blk w' w.heap.size #[.pointer (some ⟨w0.heap.size, 0, none⟩)] 110, _, O63.b11.cell rfl, fun w' h => lds_tx (h.1.cell rfl), _, O63.b0.cell rfl, fun w' h => lds_px (h.2.cell rfl), ?_, trivial⟩; have hq := List.getElem?_eq_getElem (G _ _ ht (isW_kind hy))
    refine list_x P O63.z hl (σ := List ByteArray) (E := fieldE toks self d) (en := wRb) (st := []) G hq (B := fun ns a => ns.length <= a) (fun ns a x a1 ns' hb h => ?_) (fun _ _ _ h h2 => Nat.le_trans h h2) (Nat.zero_le _) (N := fun b => b = w.heap.size \/ b = k9 \/ b = k11 \/ InRow (.slice none 0 0) b)
      (I := fun ns N w' => ∃ nv, Blk w' w.heap.size #[.pointer (some ⟨w0.heap.size, 0, none⟩)] 110 /\ Blk w' k9 #[.int .i64 7, .int .i64 (t.at_ : Int), .string .empty, .string .empty, nv, .slice none 0 0, .pointer none] 63 /\ Blk w' k11 #[.pointer (some ⟨k9, 0, none⟩)] 27 /\
        RowAt w' idx.str 1 nv (ns.map Value.string) /\ (∀ b, InRow nv b -> w.heap.size <= b /\ b ≠ w.heap.size /\ b ≠ k9 /\ b ≠ k11) /\ ∀ b, N b ↔ b = w.heap.size \/ b = k9 \/ b = k11 \/ InRow nv b) ?_ ?_ ?_ ?_ (fun xs a' st' h => ?_) fun _ v w' g => ?_
    rotate_left 6
    . refine hr v w' (g.from O63.u fun y hy h => ?_); rcases h with h | h | h | h | h
      . exact h
      . omega
      . omega
      . omega
      . exact (no_in y h).elim
    . have h1 := fieldE_inc hinc h; obtain ⟨h2, h3⟩ := fieldE_more h hin; exact ⟨h1, h2, by omega⟩
    . rintro ns N w1 w2 S ⟨nv, c0, c9, c11, rn, on, eN⟩ u hS; exact ⟨nv, c0.upd u (hS _ ((eN _).2 (.inl rfl))), c9.upd u (hS _ ((eN _).2 (.inr (.inl rfl)))), c11.upd u (hS _ ((eN _).2 (.inr (.inr (.inl rfl))))), rn.upd u (fun b hb => hS _ ((eN _).2 (.inr (.inr (.inr hb))))), on, eN⟩
    . rintro ns N w1 ⟨nv, c0, c9, c11, rn, on, eN⟩ b hb; rcases (eN b).1 hb with rfl | rfl | rfl | h
      . exact ⟨c0.lt, by omega⟩
      . exact ⟨c9.lt, by omega⟩
      . exact ⟨c11.lt, by omega⟩
      . exact ⟨rn.lt h, by have := (on b h).1; omega⟩
    . rintro ns N a3 w1 K1 R1 Z1 ⟨nv, c0, c9, c11, rn, on, eN⟩ hns ha3 ha3l hK hR; refine of_eq (p := callX Tryz.prog 185 #[.pointer (some ⟨k11, 0, none⟩), .pointer (some ⟨w.heap.size, 0, none⟩)] w1 K1 R1) ?_ (by kernel_rfl)
      cases he : fieldE toks self d ns a3 with
      | none => exact field_n P G hl hnot (n0 := w.heap.size) Z1 (by omega) (List.getElem?_eq_getElem ha3l) hns hd1 c0 c9 c11 rn on (by omega) he fun v w' g => hR he v w' ⟨g.v, g.z, g.u.mono fun b _ hb => hb.imp id fun h => h.elim (fun h => (eN b).2 (.inr (.inl h))) fun h => (eN b).2 (.inr (.inr (.inr h)))⟩
      | some r =>
      obtain ⟨x3, a4, ns'⟩ := r; refine field_c P hl hself (n0 := w.heap.size) Z1 c0 c9 c11 rn on (by omega) he fun w' q nv' z e0 e9 e11 r _ on' in1 hx u => hK _ _ _ he w' q (fun b => b = w.heap.size \/ b = k9 \/ b = k11 \/ InRow nv' b) z ⟨nv', e0, e9, e11, r, on', fun _ => Iff.rfl⟩ (fun b hb => ?_) (hx.mono fun b _ hb => ⟨hb.1, fun h => ?_⟩) (u.mono fun b _ hb => ?_)
      . rcases hb with h | h | h | h
        . exact .inl ((eN b).2 (.inl h))
        . exact .inl ((eN b).2 (.inr (.inl h)))
        . exact .inl ((eN b).2 (.inr (.inr (.inl h))))
        . exact (in1 b h).imp (fun h => (eN b).2 (.inr (.inr (.inr h)))) id
      . have := c0.lt; have := c9.lt; have := c11.lt; have := hb.1; rcases h with h | h | h | h
        . omega
        . omega
        . omega
        . exact hb.2 h
      . rcases hb with h | h | h
        . exact .inl h
        . exact .inr ((eN b).2 (.inr (.inl h)))
        . exact .inr ((eN b).2 (.inr (.inr (.inr h))))
    . exact ⟨.slice none 0 0, O63.b0, O63.b9, O63.b11, RowAt.nil _ _ _, fun b hb => (no_in b hb).elim, fun _ => Iff.rfl⟩
    . rw [h] at hF; cases hF
  have hno : isW t [wLb] = false := hno; rw [if_neg (by rw [hno]; simp)] at hF; have O58 := O56.keep u58; refine ⟨_, O58.b0.cell rfl, newC_mk fun w78 B78 u78 _ => ?_⟩; have O78 := O58.keep u78; refine may_c P O78.z ht (by omega) (one_str B78) rfl (by decide) (fun hy w80 Z80 u80 => ⟨_, rfl, brC_tt rfl ?_⟩) fun hno w80 u80 => ⟨_, rfl, brC_ff rfl ?_⟩
  . -- a function
    have hy : isW t [wFn] = true := hy; rw [if_pos hy] at hF; obtain ⟨q, hq⟩ := G.get ht (isW_kind hy); have haq := (List.getElem?_eq_some_iff.1 hq).1; rw [hq] at hF; dsimp only at hF; have O80 := O78.adv Z80 u80; refine ⟨_, O80.b11.cell rfl, ptrC_some (O80.st9 (by simp) fun w84 O84 _ => ⟨_, O84.b0.cell rfl, must_x P O84.z hq (by omega) (fun hlp w87 Z87 u87 => ⟨rfl, ?_⟩) fun _ v w' g => hr v w' (g.from O84.u fun _ _ e => e)⟩)⟩; rw [if_pos (show isW q [wLp] = true from hlp)] at hF; obtain ⟨q2, hq2⟩ := G.get hq (isW_kind hlp); have O87 := O84.adv Z87 u87; have zz := O87.u.size; refine ⟨fun w' => ∃ xs a2, lstA toks (argE self d) wRp (a + 2) () = some (xs, a2, ()) /\ ∃ p n c vs, On w0 tv w w' w.heap.size k9 k11 #[.int .i64 8, .int .i64 (t.at_ : Int), .string .empty, .string .empty, .slice none 0 0, .slice p n c, .pointer none] (some ⟨k9, 0, none⟩) a2 d /\ RowAt w' idx.ptr 1 (.slice p n c) vs /\ (∀ b, InRow (.slice p n c) b -> w87.heap.size <= b) /\ XsAt idx (From w87.heap.size) w' vs xs, ?_, drawC_mk fun w105 u105 _ => ?_⟩
    . rintro w89 ⟨xs, a2, hs, p, n, c, vs, O89, row, rowN, hxs⟩ _; have ha2 := lstA_in G (fun _ _ _ _ _ h => argE_in h hin) hs; obtain ⟨r, hrr⟩ : ∃ r, toks[a2]? = some r := ⟨_, List.getElem?_eq_getElem ha2⟩; rw [hs] at hF; dsimp only at hF; rw [hrr] at hF; dsimp only at hF; have hinc2 := lstA_inc (fun _ _ _ _ _ h2 => argE_inc hinc h2) hs; refine ⟨_, O89.b0.cell rfl, must_x P O89.z hrr (by omega) (fun har w93 Z93 u93 => ⟨rfl, drawC_mk fun w94 u94 _ => ?_⟩) fun _ v w' g => hr v w' (g.from O89.u fun _ _ e => e)⟩; rw [if_pos (show isW r [wArrow] = true from har)] at hF
      have hs3 : self (a2 + 1) d = none := by
        cases h : self (a2 + 1) d with
        | none => rfl
        | some r => rw [h] at hF; cases hF
      have O94 := (O89.adv Z93 u93).keep u94; refine ⟨fun w' => Blk w' k11 #[.pointer (some ⟨k9, 0, none⟩)] 27 /\ Blk w' w.heap.size #[.pointer (some ⟨w0.heap.size, 0, none⟩)] 110, _, O94.b11.cell rfl, fun w' h => lds_tx (h.1.cell rfl), _, O94.b0.cell rfl, fun w' h => lds_px (h.2.cell rfl), ?_, trivial⟩; exact hnot w94 (a2 + 1) d _ _ O94.z hd1 (G _ _ hrr (isW_kind har)) (by omega) hs3 fun v w' g => hr v w' (g.from O94.u fun _ _ e => e)
    have O105 := O87.keep u105; refine ⟨fun w' => Blk w' k11 #[.pointer (some ⟨k9, 0, none⟩)] 27 /\ Blk w' w.heap.size #[.pointer (some ⟨w0.heap.size, 0, none⟩)] 110, _, O105.b11.cell rfl, fun w' h => lds_tx (h.1.cell rfl), _, O105.b0.cell rfl, fun w' h => lds_px (h.2.cell rfl), _, O105.b0.cell rfl, fun w' h => lds_px (h.2.cell rfl), ?_, trivial⟩
    refine list_x P O105.z hl (σ := Unit) (E := argE self d) (en := wRp) (st := ()) G hq2 (B := fun _ _ => True) (fun _ _ _ _ _ _ h => ⟨argE_inc hinc h, argE_in h hin, trivial⟩) (fun _ _ _ h _ => h) trivial (N := fun b => b = w.heap.size \/ b = k9 \/ b = k11)
      (I := fun _ N w' => Blk w' w.heap.size #[.pointer (some ⟨w0.heap.size, 0, none⟩)] 110 /\ Blk w' k9 #[.int .i64 8, .int .i64 (t.at_ : Int), .string .empty, .string .empty, .slice none 0 0, .slice none 0 0, .pointer none] 63 /\ Blk w' k11 #[.pointer (some ⟨k9, 0, none⟩)] 27 /\
        ∀ b, N b ↔ b = w.heap.size \/ b = k9 \/ b = k11) ?_ ?_ ?_ ?_ (fun xs a2 st2 hs w114 p115 n116 c117 vs N' Z114 ⟨c0, c9, c11, eN⟩ sub row rowN hxs u114 => ⟨_, _, _, rfl, ⟨c11, c0⟩, ptrC_some ⟨?_, trivial⟩⟩) fun _ v w' g => ?_
    rotate_left 5
    . refine hr v w' (g.from O105.u fun y hy h => ?_); rcases h with h | h | h | h
      . exact h
      . omega
      . omega
      . omega
    . rintro _ N w1 w2 S ⟨c0, c9, c11, eN⟩ u hS; exact ⟨c0.upd u (hS _ ((eN _).2 (.inl rfl))), c9.upd u (hS _ ((eN _).2 (.inr (.inl rfl)))), c11.upd u (hS _ ((eN _).2 (.inr (.inr rfl)))), eN⟩
    . rintro _ N w1 ⟨c0, c9, c11, eN⟩ b hb; rcases (eN b).1 hb with rfl | rfl | rfl
      . exact ⟨c0.lt, by omega⟩
      . exact ⟨c9.lt, by omega⟩
      . exact ⟨c11.lt, by omega⟩
    . rintro _ N a4 w1 K1 R1 Z1 ⟨c0, c9, c11, eN⟩ _ ha4 ha4l hK hR; refine of_eq (p := callX Tryz.prog 88 #[.pointer (some ⟨w0.heap.size, 0, none⟩)] w1 K1 R1) ?_ (by kernel_rfl)
      cases hs5 : self a4 d with
      | none => exact hnot w1 a4 d _ _ Z1 hd1 ha4l (by omega) hs5 fun v w' g => hR (by unfold argE; rw [hs5]) v w' ⟨g.v, g.z, g.u.mono fun b _ hb => .inl hb⟩
      | some r =>
      obtain ⟨x4, a5⟩ := r; refine hself w1 a4 d x4 a5 _ _ Z1 hs5 fun w' q z hx u => hK x4 a5 () (by unfold argE; rw [hs5]) w' q N z ⟨c0.upd u (by omega), c9.upd u (by omega), c11.upd u (by omega), eN⟩ (fun b hb => .inl hb) (hx.mono fun b _ (hb : w1.heap.size <= b) => ⟨hb, fun h => ?_⟩) (u.mono fun b _ hb => .inl hb); have := c0.lt; have := c9.lt; have := c11.lt; rcases (eN b).1 h with h | h | h <;> omega
    . exact ⟨O105.b0, O105.b9, O105.b11, fun _ => Iff.rfl⟩
    . rw [add_mk]; have z105 : w87.heap.size <= w105.heap.size := u105.size
      refine stC_mk c9 (by simp) fun w119 B119 u119 _ => ⟨xs, a2, hs, p115, n116, c117, vs, ⟨⟨Z114.up.trans u119 fun y hy (e : y = _) => by omega, Z114.blk.upd u119 (by omega)⟩, ?_, c0.upd u119 (by omega), B119, c11.upd u119 (by omega), O105.d⟩, row.upd u119 fun b hb e => (rowN b hb).2 ((eN b).2 (.inr (.inl e))), fun b hb => by have := (rowN b hb).1; omega,
        (hxs.upd u119 fun b hb e => hb.2 ((eN b).2 (.inr (.inl e)))).mono fun b _ hb => (show w87.heap.size <= b by have := hb.1; omega)⟩
      refine (O105.u.trans u114 fun y hy h => ?_).trans u119 fun y hy (e : y = _) => by omega
      rcases h with h | h | h | h
      . exact h
      . omega
      . omega
      . omega
  . -- a name
    have hno : isW t [wFn] = false := hno; rw [if_neg (by rw [hno]; simp)] at hF; have O80 := O78.keep u80; have zz := O80.u.size; exact ⟨_, O80.b0.cell rfl, named_x P G O80.z ht hl (fun x a' h => by rw [hF] at h; cases h) fun _ v w' g => hr v w' (g.from O80.u fun _ _ e => e)⟩
theorem oneS_in {ts : List Tok} {self : Nat -> Nat -> Option (Wt × Nat)} (G : Good ts) (h : TypIn ts self) {a d : Nat} {x : Wt} {a1 : Nat} (e : oneS ts self a d = some (x, a1)) : a1 < ts.length := by
  unfold oneS at e; split at e
  . cases e
  rename_i t ht; split at e
  . split at e
    . simp only [Option.some.injEq, Prod.mk.injEq] at e; omega
    . cases e
  split at e
  . split at e
    . cases e
    rename_i x2 a2 hs; split at e
    . cases e
    rename_i q hq; split at e
    . rename_i hw; have := G _ _ hq (isW_kind hw); simp only [Option.some.injEq, Prod.mk.injEq] at e; omega
    . cases e
  split at e
  . split at e
    . cases e
    rename_i xs a2 ns hs; have := lstA_in G (fun _ _ _ _ _ h2 => (fieldE_more h2 h).1) hs; simp only [Option.some.injEq, Prod.mk.injEq] at e; omega
  split at e
  . split at e
    . cases e
    split at e
    . split at e
      . cases e
      rename_i xs a2 st hs; split at e
      . cases e
      split at e
      . split at e
        . cases e
        rename_i x3 a3 hs3; have := h _ _ _ _ hs3; simp only [Option.some.injEq, Prod.mk.injEq] at e; omega
      . cases e
    . cases e
  . unfold namedF at e; split at e
    . rename_i t q ht hq; have hqa := (List.getElem?_eq_some_iff.1 hq).1; split at e
      . split at e
        . split at e
          . rename_i u v hu hv; have := (List.getElem?_eq_some_iff.1 hv).1; split at e
            . simp only [Option.some.injEq, Prod.mk.injEq] at e; omega
            . cases e
          . cases e
        . simp only [Option.some.injEq, Prod.mk.injEq] at e; omega
      . cases e
    . cases e
theorem barsF_in {ts : List Tok} {one : Nat -> Option (Wt × Nat)} : ∀ (f a : Nat) (acc l : List Wt) (a' : Nat), barsF ts one f a acc = some (l, a') -> a' < ts.length
  | 0, _, _, _, _, e => by cases e
  | f + 1, a, acc, l, a', e => by
    unfold barsF at e; split at e
    . cases e
    rename_i t ht; split at e
    . split at e
      . cases e
      exact barsF_in f _ _ _ _ e
    . have := (List.getElem?_eq_some_iff.1 ht).1; simp only [Option.some.injEq, Prod.mk.injEq] at e; omega
theorem typS_in (ts : List Tok) (self : Nat -> Nat -> Option (Wt × Nat)) : TypIn ts (typS ts self) := fun a d x a1 e => by
  unfold typS at e; split at e
  . cases e
  split at e
  . cases e
  split at e
  . cases e
  split at e
  . cases e
  rename_i l a3 hb; have := barsF_in _ _ _ _ _ hb; simp only [Option.some.injEq, Prod.mk.injEq] at e; omega
theorem typF_in (ts : List Tok) : ∀ f, TypIn ts (typF ts f)
  | 0 => fun a d x a1 e => by cases e
  | f + 1 => typS_in ts (typF ts f)
theorem typ1_n {w0 w : World} {tv : Value} {toks : List Tok} {a d : Nat} {K R : KV} (P : P0 w0 tv toks) (hl : toks.length <= 900000) {self : Nat -> Nat -> Option (Wt × Nat)} (hself : TypOk w0 tv self) (hinc : Inc self) (Z : Pz w0 tv w a (d + 1)) {c0 : Nat} (b0 : Blk w c0 #[.pointer (some ⟨w0.heap.size, 0, none⟩)] 110) (hc0 : w0.heap.size < c0)
    (G : Good toks) (hin : TypIn toks self) {m : Nat} (hnot : TypNo w0 tv toks self m) (hd1 : d + 1 <= 1000) (ham : toks.length <= m + a + 1)
    {t : Tok} (ht : toks[a]? = some t) (hF : ∀ x a1, oneS toks self a (d + 1) = some (x, a1) -> barsF toks (fun a => oneS toks self a (d + 1)) (toks.length + 1) a1 [x] = none)
    (hr : ∀ v w', Gave w0 tv (· = w0.heap.size) w (d + 1) v w' -> R v w') :
    callX Tryz.prog 143 #[.pointer (some ⟨c0, 0, none⟩)] w K R := by
  have hwl := Z.lt; refine typ1_text _ _ _ _ _ ⟨_, b0.cell rfl, next_c P Z ht fun w2 u2 => ⟨_, _, _, _, rfl, _, (b0.upd u2 id).cell rfl, ?_⟩⟩
  cases ho : oneS toks self a (d + 1) with
  | none => exact one_n P hl hself hinc G hin hnot (Z.keep u2) hd1 ham ht ho fun v w' g => hr v w' (g.from u2.no fun _ _ e => e)
  | some r =>
  obtain ⟨x, a1⟩ := r; have hb := hF x a1 ho; have ha1l := oneS_in G hin ho; refine one_c P hl hself hinc (Z.keep u2) ho fun w9 q10 Z9 hx u9 => ⟨_, rfl, newC_mk fun w12 B12 u12 s12 => ?_⟩; have z2 := u2.size; have z9 := u9.size; have U12 : Upd (· = w0.heap.size) w w12 := (u2.no.trans u9 fun _ _ e => e).trans u12 fun _ _ h => h.elim; have ha1 := oneS_inc hinc ho
  refine ⟨fun p n c w' => ∃ a2 xs vs f, Pz w0 tv w' a2 (d + 1) /\ Blk w' c0 #[.pointer (some ⟨w0.heap.size, 0, none⟩)] 110 /\ RowAt w' idx.ptr 1 (.slice p n c) vs /\ (∀ b, InRow (.slice p n c) b -> w.heap.size <= b) /\ (∀ v ∈ vs, v.oneCell' = true) /\
      barsF toks (fun a => oneS toks self a (d + 1)) f a2 xs = none /\ toks.length + 1 <= f + a2 /\ a <= a2 /\ a2 < toks.length /\ Upd (· = w0.heap.size) w w' /\ vs.length <= a2, fun _ _ _ w' => toks.length + 1 - atOf w' w0.heap.size, ?_, ?_⟩
  . exact ⟨a1, [x], [.pointer q10], _, Z9.keep u12, ((b0.upd u2 id).upd u9 (by omega)).upd u12 id, row_one B12, fun b hb => by rw [in_blk hb]; omega, by intro u hu; simp at hu; subst hu; rfl, hb, by omega, by omega, ha1l, U12, by simp; omega⟩
  rintro p n c w18 ⟨a2, xs, vs, f, Z18, e0, row, rowN, hvo, hf, hfl, haa, ha2l, U18, hvs⟩ _; have z18 := U18.size
  cases f with
  | zero => omega
  | succ f =>
  obtain ⟨q, hq⟩ : ∃ q, toks[a2]? = some q := ⟨_, List.getElem?_eq_getElem ha2l⟩; unfold barsF at hf; rw [hq] at hf; dsimp only at hf; have haq := (List.getElem?_eq_some_iff.1 hq).1; have hnr := row_cap row; have nk : ∀ b, w.heap.size <= b -> ¬ b = w0.heap.size := fun b hb e => by omega
  refine ⟨_, e0.cell rfl, newC_mk fun w22 B22 u22 _ => may_c P (Z18.keep u22) hq (by omega) (one_str B22) rfl (by decide) (fun hy w24 Z24 u24 => ⟨_, rfl, brC_tt rfl ?_⟩) fun hno w24 u24 => ⟨_, rfl, brC_ff rfl ?_⟩⟩
  . have hy : isW q [wBar] = true := hy; rw [if_pos hy] at hf; have e24 := (e0.upd u22 id).upd u24 (by omega); have U24 : Upd (· = w0.heap.size) w w24 := (U18.trans u22 fun _ _ h => h.elim).trans u24 fun _ _ e => e; have hqa := G _ _ hq (isW_kind hy)
    cases ho2 : oneS toks self (a2 + 1) (d + 1) with
    | none => exact ⟨_, e24.cell rfl, one_n P hl hself hinc G hin hnot Z24 hd1 (by omega) (List.getElem?_eq_getElem hqa) ho2 fun v w' g => hr v w' (g.from U24 fun _ _ e => e)⟩
    | some r2 =>
    obtain ⟨x2, a3⟩ := r2; rw [ho2] at hf; dsimp only at hf; have ha3 := oneS_inc hinc ho2; have ha3l := oneS_in G hin ho2; refine ⟨_, e24.cell rfl, one_c P hl hself hinc Z24 ho2 fun w28 q29 Z28 hx2 u28 => ⟨_, rfl, newC_mk fun w31 B31 u31 s31 => ?_⟩⟩; have z22 := u22.size; have z24 := u24.size; have z28 := u28.size; have row31 := (((row.upd u22 fun _ _ h => h).upd u24 fun b hb => nk b (rowN b hb)).upd u28 fun b hb => nk b (rowN b hb)).upd u31 fun _ _ h => h; refine grow_row elemWt (n0 := w.heap.size) ⟨row31, rowN, hnr.1, hnr.2⟩ (by omega) (row_one B31) (by intro u hu; simp at hu; subst hu; rfl) (by omega) (by simp; omega) fun p' n' c' w33 o33 _ hin33 u33 => ?_; have nkr : ¬ InRow (.slice p n c) w0.heap.size := fun h => nk _ (rowN _ h) rfl; have Z33 : Pz w0 tv w33 a3 (d + 1) := ⟨(Z28.keep u31).up.trans u33 fun y hy h => by have := rowN y h; omega, (Z28.keep u31).blk.upd u33 nkr⟩; refine ⟨⟨a3, xs ++ [x2], vs ++ [.pointer q29], f, Z33, ?_, o33.row, o33.own, ?_, hf, by omega, by omega, ha3l, ?_, by simp; omega⟩, ?_⟩
    . refine ((e24.upd u28 (by omega)).upd u31 id).upd u33 fun h => ?_; exact absurd (row_type row e0 h) (by decide)
    . intro u hu; rcases List.mem_append.1 hu with h | h
      . exact hvo u h
      . simp at h; subst h; rfl
    . exact ((((U18.trans u22 fun _ _ h => h.elim).trans u24 fun _ _ e => e).trans u28 fun _ _ e => e).trans u31 fun _ _ h => h.elim).trans u33 fun y hy h => by have := rowN y h; omega
    . show toks.length + 1 - atOf w33 w0.heap.size < toks.length + 1 - atOf w18 w0.heap.size; rw [Z33.at_, Z18.at_]; omega
  . have hno : isW q [wBar] = false := hno; rw [if_neg (by rw [hno]; simp)] at hf; cases hf
section
variable {w0 : World} {tv : Value} {toks : List Tok}
theorem typS_no (P : P0 w0 tv toks) (G : Good toks) (hl : toks.length <= 900000) {self : Nat -> Nat -> Option (Wt × Nat)} (hself : TypOk w0 tv self) (hinc : Inc self) (hin : TypIn toks self) {m : Nat} (hnot : TypNo w0 tv toks self m) : TypNo w0 tv toks (typS toks self) (m + 1) := by
  intro w a d K R Z hd9 hal ham hF hr; unfold typS at hF; obtain ⟨t, ht⟩ : ∃ t, toks[a]? = some t := ⟨_, List.getElem?_eq_getElem hal⟩; have hwl := Z.lt; refine typ_text _ _ _ _ (newC_mk fun w1 B1 u1 s1 => ⟨_, B1.cell rfl, ?_⟩); refine withinT_text _ _ _ _ _ _ _ (newC_mk fun w3 B3 u3 s3 => ⟨_, B3.cell rfl, ptrC_some ⟨_, by rw [add_mk]; exact ((Z.keep u1).keep u3).blk.cell rfl, ptrC_some ?_⟩⟩); rw [add_mk]; refine ((Z.keep u1).keep u3).deep (d' := d + 1) (wrap_succ (by omega)) fun w6 Z6 u6 => ?_; have b1 := (B1.upd u3 id).upd u6 (by omega); have b3 := B3.upd u6 (by omega); have U6 : Upd (· = w0.heap.size) w w6 := (u1.no.trans u3 fun _ _ h => h.elim).trans u6 fun _ _ e => e
  have out : ∀ (w7 : World) (v : Value) (w' : World), Upd (· = w0.heap.size) w w7 -> Blk w7 w1.heap.size #[.pointer (some ⟨w0.heap.size, 0, none⟩)] 110 -> Gave w0 tv (· = w0.heap.size) w7 (d + 1) v w' ->
      defP Tryz.prog (Deferred.mk (Target.fn (Fn.func 183) #[.pointer (some ⟨w1.heap.size, 0, none⟩)]) #[]) v w' (fun _ => False) R := fun w7 v w' U7 b7 g => by
    obtain ⟨a3, Z3⟩ := g.z; refine ⟨_, _, _, _, rfl, rfl, (withinD w1.heap.size 0 _ w' (fun _ w2 => Pz w0 tv w2 a3 d /\ Upd (· = w0.heap.size) w' w2) ?_).mono ?_⟩
    . refine ⟨_, (b7.upd g.u (by omega)).cell rfl, ptrC_some ⟨_, by rw [add_mk]; exact Z3.blk.cell rfl, ptrC_some ?_⟩⟩; rw [add_mk]; exact Z3.deep (wrap_pred (by omega)) fun w' z u => ⟨z, u⟩
    . rintro e u w2 ⟨x, rfl, rfl, z, u⟩; exact ⟨⟨_, rfl⟩, .inr ⟨rfl, hr v w2 ⟨g.v, ⟨_, z⟩, (U7.trans g.u fun _ _ e => e).trans u fun _ _ e => e⟩⟩⟩
  refine ⟨fun w' => d < 40 /\ w' = w6, ?_, ⟨_, b3.cell rfl, ptrC_some ⟨_, by rw [add_mk]; exact Z6.blk.cell rfl, brC_intro (fun h => ?_) fun h => ⟨by have := of_decide_eq_false h; omega, rfl⟩⟩⟩⟩
  . rintro w8 ⟨h40, rfl⟩ _
    refine of_eq (p := callX Tryz.prog 143 #[.pointer (some ⟨w.heap.size, 0, none⟩)] w8 (fun v10 w11 => ∃ p12, v10 = .pointer p12 /\ defC Tryz.prog (Deferred.mk (Target.fn (Fn.func 183) #[.pointer (some ⟨w1.heap.size, 0, none⟩)]) #[]) w11 fun w13 => ∃ p5, Value.pointer p12 = .pointer p5 /\ K (.pointer p5) w13)
      (fun v14 w15 => defP Tryz.prog (Deferred.mk (Target.fn (Fn.func 183) #[.pointer (some ⟨w1.heap.size, 0, none⟩)]) #[]) v14 w15 (fun _ => False) R)) ?_ (by kernel_rfl)
    refine typ1_n P hl hself hinc Z6 b1 (by omega) G hin hnot (by omega) (by omega) ht (fun x a1 ho => ?_) fun v w' g => out w8 v w' U6 b3 g; rw [if_neg (by omega), ht] at hF; dsimp only at hF; rw [ho] at hF; dsimp only at hF; split at hF
    . rename_i hb; exact hb
    . cases hF
  . exact ⟨_, b3.cell rfl, fail_x P Z6 ht fun v w' g => out w6 v w' U6 b3 g⟩
theorem typF_no (P : P0 w0 tv toks) (G : Good toks) (hl : toks.length <= 900000) : ∀ f, TypNo w0 tv toks (typF toks f) f
  | 0 => fun w a d K R Z _ h1 h2 => by omega
  | f + 1 => typS_no P G hl (typF_ok P hl f) (typF_inc toks f) (typF_in toks f) (typF_no P G hl f)
end
end Go.Proofs.YtdbkclnlfibgdaaGreatDoor
