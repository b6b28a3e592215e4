/- Above. -/
import Derived.Test.YtkacocaekffdgaaG5
namespace Go.Proofs.Ytkacocaekffdgaa
open Go.SX

theorem key_of_strs {k : Value} {ps : List ByteArray} (h : k ∈ strs ps) : ∃ p, p ∈ ps ∧ k = .string p := by
  obtain ⟨p, hp, e⟩ := List.mem_map.1 h
  exact ⟨p, hp, e.symm⟩

theorem strs_nodup {l : List ByteArray} (h : (strs l).Nodup) : l.Nodup := by
  unfold strs at h
  rw [List.nodup_iff_pairwise_ne, List.pairwise_map] at h
  rw [List.nodup_iff_pairwise_ne]
  exact h.imp fun hne e => hne (by rw [e])

theorem above_spec {w : World} {g : Nat} {ps : List ByteArray} {adj : ByteArray → List ByteArray} {m : Nat} {f : Value → Value} (G : GraphAt w g ps adj m f) (hn : ps.length ≤ 1000000) (hs : ∀ p ∈ ps, p.size ≤ maxLen) (s : ByteArray) :
    callC Try.prog 18 #[.pointer (some ⟨g, 0, none⟩), .string s] w fun v w' => RowAt w' 9 1 v (strs (sortB (ps.filter fun p => decide (s ∈ adj p)))) ∧ Upd No w w' ∧ ∀ k, InRow v k → w.heap.size ≤ k := by
  have hnd : ps.Nodup := strs_nodup G.map.nodup
  refine gabove _ _ _ _ (brC_ff rfl ?_)
  refine newM_mk (d := .string) (f := one) fun w1 h1 u1 s1 => ptrC_some ⟨_, (G.keep u1).blk.cell rfl, range_mk (P := Try.prog) (kt := 9) (et := 22) Try.underlying58 (G.keep u1).map fun w5 R5 u5 s5 => ?_⟩
  generalize hr : w1.heap.size = r at R5 s5 ⊢
  have hm := G.map.lt
  refine ⟨fun w' => ∃ vis hk : List ByteArray, RangeF .string w' m (strs ps) f r (strs vis) ∧ vis.Nodup ∧ MapF .string w' w.heap.size (strs hk) one ∧ (∀ x, x ∈ hk ↔ x ∈ vis ∧ s ∈ adj x) ∧ Upd No w w', fun w' => ps.length - seenOf w' r,
    ⟨[], [], R5, by simp, h1.upd u5 id, by simp, u1.trans u5 fun _ _ => id⟩, ?_⟩
  rintro w8 ⟨vis, hk, R8, nd8, M8, hk8, u8⟩ d
  have hvs : ∀ x ∈ vis, x ∈ ps := fun x hx => strs_mem.1 (R8.vis_sub _ (strs_mem.2 hx))
  refine next_mk (P := Try.prog) R8 0 (fun hall => .inl ⟨rfl, ?_⟩) fun w11 k hkin hkn R11 u11 s11 => .inr ⟨_, _, rfl, ?_⟩
  · have hall : ∀ x ∈ ps, x ∈ vis := fun x hx => strs_mem.1 (hall _ (strs_mem.2 hx))
    have hsub : ∀ x ∈ hk, x ∈ ps := fun x hx => hvs x ((hk8 x).1 hx).1
    have hkd : hk.Nodup := strs_nodup M8.nodup
    have hkl := subset_length hkd hsub
    refine callC_of (rising_spec M8 (by omega) fun x hx => hs x (hsub x hx)) fun v w13 ⟨hrow, u13, hge⟩ => ?_
    have e : sortB hk = sortB (ps.filter fun p => decide (s ∈ adj p)) := by
      unfold sortB
      rw [sort_perm]
      refine List.Perm.map _ ?_
      refine (List.perm_ext_iff_of_nodup hkd (hnd.filter _)).2 fun x => ?_
      rw [hk8, List.mem_filter, decide_eq_true_eq]
      exact ⟨fun ⟨a, b⟩ => ⟨hvs x a, b⟩, fun ⟨a, b⟩ => ⟨hall x a, b⟩⟩
    rw [e] at hrow
    obtain ⟨p, n, c, rfl, _⟩ := hrow.shape
    exact ⟨p, n, c, rfl, hrow, u8.trans u13 fun _ _ => id, fun k hk => Nat.le_trans u8.size (hge k hk)⟩
  · obtain ⟨p, hp, rfl⟩ := key_of_strs hkin
    have hpv : p ∉ vis := fun e => hkn (strs_mem.2 e)
    have hrw : w.heap.size ≤ r ∧ w.heap.size ≠ r := by have := u1.size; omega
    have u011 : Upd No w w11 := u8.trans u11 fun k hk e => by omega
    have hrow := (G.keep u011).row p hp
    obtain ⟨q, n, c, e, hl, hc, hmx⟩ := hrow.shape
    have hl : n = (adj p).length := by simp [strs] at hl; omega
    subst hl
    refine entry_mk (vis := strs vis) R11 ?_
    rw [e] at hrow ⊢
    have M11 := M8.upd u11 hrw.2
    have nd11 : (p :: vis).Nodup := List.nodup_cons.2 ⟨hpv, nd8⟩
    have hlen := subset_length nd11 fun x hx => by
      rcases List.mem_cons.1 hx with rfl | hx
      · exact hp
      · exact hvs x hx
    simp only [List.length_cons] at hlen
    have hseen8 := R8.seen
    simp only [strs, List.length_map] at hseen8
    refine ⟨p, q, _, c, rfl, callC_of (contains_spec (StrsAt.of_row hrow) (by omega) c s) fun v w26 ⟨hv, ew⟩ => ⟨_, hv, ?_⟩⟩
    subst ew
    refine brC_intro (fun hin => ?_) fun hin => ?_
    · have hin : s ∈ adj p := by simpa using hin
      refine update_out (P := Try.prog) (t := 69) (kt := 9) (et := 3) (f' := one) Try.underlying69 Try.underlying9 (k := .string p) trivial M11 (fun e => hpv ((hk8 p).1 (strs_mem.1 e)).1) _ rfl (fun _ _ _ => rfl) fun w29 M29 u29 s29 => ?_
      have e2 : strs hk ++ [Value.string p] = strs (hk ++ [p]) := by simp [strs]
      rw [e2] at M29
      have R29 := R11.upd u29 (by omega) (Ne.symm hrw.2)
      have hseen := R29.seen
      simp only [List.length_cons, strs, List.length_map] at hseen
      refine ⟨⟨p :: vis, hk ++ [p], R29, nd11, M29, fun x => ?_, u011.trans u29 fun k hk e => by omega⟩, by dsimp only; omega⟩
      rw [List.mem_append, List.mem_singleton, hk8, List.mem_cons]
      constructor
      · rintro (⟨a, b⟩ | rfl)
        · exact ⟨.inr a, b⟩
        · exact ⟨.inl rfl, hin⟩
      · rintro ⟨rfl | a, b⟩
        · exact .inr rfl
        · exact .inl ⟨a, b⟩
    · have hin : s ∉ adj p := by simpa using hin
      have hseen := R11.seen
      simp only [List.length_cons, strs, List.length_map] at hseen
      refine ⟨⟨p :: vis, hk, R11, nd11, M11, fun x => ?_, u011⟩, by dsimp only; omega⟩
      rw [hk8, List.mem_cons]
      constructor
      · rintro ⟨a, b⟩; exact ⟨.inr a, b⟩
      · rintro ⟨rfl | a, b⟩
        · exact (hin b).elim
        · exact ⟨a, b⟩
end Go.Proofs.Ytkacocaekffdgaa
