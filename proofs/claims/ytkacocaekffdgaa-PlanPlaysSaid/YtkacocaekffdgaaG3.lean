/- Cyclic's closure: what it meets. -/
import Derived.Test.YtkacocaekffdgaaG2
namespace Go.Proofs.Ytkacocaekffdgaa
open Go.SX

set_option maxRecDepth 100000 in
theorem inv_walk {x c0 c1 c2 : Value} {w : World} {K : Value → World → Prop} (h : callC Try.prog 40 #[x, c0, c1, c2] w K) : invC Try.prog (.func (.func 40) #[] #[c0, c1, c2]) #[x] w K :=
  of_eq h (by kernel_rfl)

def one : Value → Value := fun _ => .int .i64 1
theorem zero3 (w : World) : (zeroValue 3).run Try.prog w = .ok (.int .i64 0) w := run_zero (s := 1) (b := 8) (by kernel_rfl) w

/-- 'met[q]'. -/
theorem met_look {w : World} {mb : Nat} {M : List ByteArray} (h : MapF .string w mb (strs M) one) (q : ByteArray) :
    (Instr.lookup 69 (.map (some mb)) (.string q) false).run Try.prog w = .ok (.int .i64 (if q ∈ M then 1 else 0)) w := by
  by_cases hq : q ∈ M
  · rw [if_pos hq]
    exact run_lookup_in (P := Try.prog) (t := 69) (kt := 9) (et := 3) Try.underlying69 Try.underlying9 (k := .string q) trivial h (strs_mem.2 hq) false
  · rw [if_neg hq]
    exact run_lookup_out (P := Try.prog) (t := 69) (kt := 9) (et := 3) Try.underlying69 Try.underlying9 (k := .string q) trivial h (fun e => hq (strs_mem.1 e)) (zero3 w) false

/-- the closure's three variables. -/
structure Env3 (w : World) (g mb b0 b1 b2 : Nat) : Prop where
  c0 : w.cell? ⟨b0, 0, none⟩ = some (.pointer (some ⟨g, 0, none⟩))
  c1 : w.cell? ⟨b1, 0, none⟩ = some (.map (some mb))
  c2 : w.cell? ⟨b2, 0, none⟩ = some (.func (.func 40) #[] #[.pointer (some ⟨b0, 0, none⟩), .pointer (some ⟨b1, 0, none⟩), .pointer (some ⟨b2, 0, none⟩)])
  n0 : b0 ≠ mb
  n1 : b1 ≠ mb
  n2 : b2 ≠ mb
theorem cell_upd {S : Nat → Prop} {w w' : World} {a : Addr} {v : Value} (h : w.cell? a = some v) (u : Upd S w w') (hn : ¬ S a.block) : w'.cell? a = some v := by
  have hb := World.block_lt_of_cell? w a h
  have := u.block a.block hb hn
  unfold World.cell? at *
  rw [this]; exact h
theorem Env3.upd {w w' : World} {g mb b0 b1 b2 : Nat} (h : Env3 w g mb b0 b1 b2) (u : Upd (· = mb) w w') : Env3 w' g mb b0 b1 b2 :=
  ⟨cell_upd h.c0 u h.n0, cell_upd h.c1 u h.n1, cell_upd h.c2 u h.n2, h.n0, h.n1, h.n2⟩

/-- what comes of a walk from p, M met ahead. -/
structure Walked (adj : ByteArray → List ByteArray) (ps : List ByteArray) (M M' : List ByteArray) (from_ : List ByteArray) (p : ByteArray) : Prop where
  sub : ∀ x ∈ M', x ∈ ps
  old : ∀ x ∈ M, x ∈ M'
  nodup : M'.Nodup
  all : ∀ q ∈ from_, q ∈ M'
  new : ∀ x ∈ M', x ∉ M → (∀ y ∈ adj x, y ∈ M') ∧ Reach adj p x

theorem ptrC_some {a : Addr} {K : Addr → Prop} (h : K a) : ptrC (some a) K := h
theorem runR_of {α : Type} {e : Sem α} {w : World} {K : α → Prop} {v : α} (h : e.run Try.prog w = .ok v w) (hk : K v) : runR Try.prog e (some w) K := ⟨v, hk, fun w' hw => by cases hw; exact h⟩

theorem walk_spec {w0 : World} {g : Nat} {ps : List ByteArray} {adj : ByteArray → List ByteArray} {m : Nat} {f : Value → Value} (G : GraphAt w0 g ps adj m f) {mb b0 b1 b2 : Nat} (hmb : w0.heap.size ≤ mb) :
    ∀ (n : Nat) (w : World) (M : List ByteArray) (p : ByteArray), ps.length - M.length < n → Upd No w0 w → Env3 w g mb b0 b1 b2 → MapF .string w mb (strs M) one → (∀ x ∈ M, x ∈ ps) → M.Nodup →
      callC Try.prog 40 #[.string p, .pointer (some ⟨b0, 0, none⟩), .pointer (some ⟨b1, 0, none⟩), .pointer (some ⟨b2, 0, none⟩)] w fun v w' => v = .tuple #[] ∧ Upd (· = mb) w w' ∧
        ∃ M', MapF .string w' mb (strs M') one ∧ Walked adj ps M M' (adj p) p := by
  intro n
  induction n with
  | zero => intro w M p hn; omega
  | succ n ih =>
    intro w M p hn u E hM hsub hnd
    refine gwalk _ _ _ _ _ _ _ _ _ ?_
    have Gw := G.keep u
    obtain ⟨q, c, hlen, hto⟩ := G.to p
    simp only [maxLen] at hlen
    refine ⟨_, E.c0, ptrC_some ⟨_, Gw.blk.cell rfl, runR_of (hto w u).1 ⟨_, _, _, rfl, ?_⟩⟩⟩
    refine ⟨fun n9 w10 => ∃ i : Nat, n9 = i ∧ i ≤ (adj p).length ∧ Upd (· = mb) w w10 ∧ ∃ M', MapF .string w10 mb (strs M') one ∧ Walked adj ps M M' ((adj p).take i) p, fun n9 _ => ((adj p).length - n9).toNat,
      ⟨0, rfl, Nat.zero_le _, Upd.refl _ _, M, hM, hsub, fun _ => id, hnd, by simp, fun x h h' => (h' h).elim⟩, ?_⟩
    rintro n9 w10 ⟨i, rfl, hi, u10, M', hM', W⟩ d
    have E10 := E.upd u10
    have u010 : Upd No w0 w10 := u.trans u10 fun k hk e => by omega
    refine brC_intro (fun hlt => ?_) fun hge => ?_
    · have hlt : i < (adj p).length := by simpa using hlt
      refine ⟨fun w13 => Upd (· = mb) w w13 ∧ ∃ M', MapF .string w13 mb (strs M') one ∧ Walked adj ps M M' ((adj p).take (i + 1)) p, ?_, ?_⟩
      · rintro w13 ⟨u13, M2, hM2, W2⟩ d
        rw [wrap_small (by omega) (by omega)]
        exact ⟨⟨i + 1, by omega, hlt, u13, M2, hM2, W2⟩, by dsimp only; omega⟩
      · obtain ⟨a, rfl, ha⟩ := (hto w10 u010).2 i hlt
        have hin : (adj p)[i] ∈ adj p := List.getElem_mem hlt
        have htake : (adj p).take (i + 1) = (adj p).take i ++ [(adj p)[i]] := List.take_succ_eq_append_getElem hlt
        have hps := G.sub p _ hin
        refine ⟨by omega, by omega, ptrC_some ⟨_, by rw [Int.toNat_natCast]; exact ha, _, E10.c1, runR_of (met_look hM' _) ⟨_, rfl, ?_⟩⟩⟩
        generalize (adj p)[i] = x at hin htake hps ⊢
        by_cases hx : x ∈ M'
        · rw [if_pos hx]
          refine brC_ff rfl ⟨u10, M', hM', W.sub, W.old, W.nodup, fun y hy => ?_, W.new⟩
          rw [htake, List.mem_append, List.mem_singleton] at hy
          rcases hy with hy | rfl
          · exact W.all y hy
          · exact hx
        · rw [if_neg hx]
          refine brC_tt rfl ⟨_, E10.c1, update_out (P := Try.prog) (t := 69) (kt := 9) (et := 3) (f' := one) Try.underlying69 Try.underlying9 (k := .string x) trivial hM' (fun e => hx (strs_mem.1 e)) _ rfl (fun _ _ _ => rfl) fun w22 hM2 u22 _ => ?_⟩
          have e2 : strs M' ++ [Value.string x] = strs (M' ++ [x]) := by simp [strs]
          rw [e2] at hM2
          have E22 := E10.upd u22
          have u022 : Upd No w0 w22 := u010.trans u22 fun k hk e => by omega
          have nd2 : (M' ++ [x]).Nodup := by
            rw [List.nodup_append]
            exact ⟨W.nodup, by simp, fun a ha b hb e => by simp at hb; subst hb; subst e; exact hx ha⟩
          have sub2 : ∀ y ∈ M' ++ [x], y ∈ ps := fun y hy => by
            rw [List.mem_append, List.mem_singleton] at hy
            rcases hy with hy | rfl
            · exact W.sub y hy
            · exact hps
          have hlen2 := subset_length nd2 sub2
          have hlen1 := subset_length hnd W.old
          simp only [List.length_append, List.length_singleton] at hlen2
          refine ⟨_, E22.c2, inv_walk (callC_of (ih w22 (M' ++ [x]) x (by simp; omega) u022 E22 hM2 sub2 nd2) fun v w25 ⟨hv, u25, M3, hM3, W3⟩ => ⟨hv, ?_, M3, hM3, W3.sub, ?_, W3.nodup, ?_, ?_⟩)⟩
          · exact (u10.trans u22 fun _ _ e => e).trans u25 fun _ _ e => e
          · exact fun y hy => W3.old y (List.mem_append_left _ (W.old y hy))
          · intro y hy
            rw [htake, List.mem_append, List.mem_singleton] at hy
            rcases hy with hy | rfl
            · exact W3.old y (List.mem_append_left _ (W.all y hy))
            · exact W3.old y (by simp)
          · intro y hy hyM
            by_cases h1 : y ∈ M' ++ [x]
            · rw [List.mem_append, List.mem_singleton] at h1
              rcases h1 with h1 | rfl
              · obtain ⟨a1, a2⟩ := W.new y h1 hyM
                exact ⟨fun z hz => W3.old z (List.mem_append_left _ (a1 z hz)), a2⟩
              · exact ⟨W3.all, .one hin⟩
            · obtain ⟨a1, a2⟩ := W3.new y hy h1
              exact ⟨a1, .step hin a2⟩
    · have : i = (adj p).length := by
        have : ¬ ((i : Int) < ((adj p).length : Int)) := by simpa using hge
        omega
      subst this
      rw [List.take_length] at W
      exact ⟨rfl, u10, M', hM', W⟩
end Go.Proofs.Ytkacocaekffdgaa
