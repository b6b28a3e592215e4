/- The graph, as it lies in memory; who leads to whom. -/
import Derived.Test.YtkacocaekffdgaaG1
namespace Go.Proofs.Ytkacocaekffdgaa
open Go.SX

/-- p leads to q, by one import or several. -/
inductive Reach (adj : ByteArray → List ByteArray) : ByteArray → ByteArray → Prop
  | one {p q : ByteArray} (h : q ∈ adj p) : Reach adj p q
  | step {p q r : ByteArray} (h : q ∈ adj p) (t : Reach adj q r) : Reach adj p r
theorem Reach.trans {adj : ByteArray → List ByteArray} {p q r : ByteArray} (h : Reach adj p q) (k : Reach adj q r) : Reach adj p r := by
  induction h with
  | one h => exact .step h k
  | step h _ ih => exact .step h (ih k)
/-- what is closed and holds the first ones holds all. -/
theorem Reach.closed {adj : ByteArray → List ByteArray} {p q : ByteArray} (h : Reach adj p q) {S : ByteArray → Prop} (h0 : ∀ x ∈ adj p, S x) (hc : ∀ x, S x → ∀ y ∈ adj x, S y) : S q := by
  induction h with
  | one h => exact h0 _ h
  | step h _ ih => exact ih (hc _ (h0 _ h))

theorem subset_length {l m : List ByteArray} (hn : l.Nodup) (hs : ∀ x ∈ l, x ∈ m) : l.length ≤ m.length := by
  induction l generalizing m with
  | nil => simp
  | cons a l ih =>
    obtain ⟨hna, hnl⟩ := List.nodup_cons.1 hn
    obtain ⟨s, t, rfl⟩ := List.append_of_mem (hs a (by simp))
    have := ih (m := s ++ t) hnl fun x hx => by
      have h := hs x (by simp [hx])
      rw [List.mem_append, List.mem_cons] at h
      rw [List.mem_append]
      rcases h with h | rfl | h
      · exact .inl h
      · exact (hna hx).elim
      · exact .inr h
    simp at this ⊢
    omega

/-- block g is a graph of the paths ps; adj p: what p imports. -/
structure GraphAt (w : World) (g : Nat) (ps : List ByteArray) (adj : ByteArray → List ByteArray) (m : Nat) (f : Value → Value) : Prop where
  blk : Blk w g #[.map (some m)] 60
  map : MapF .string w m (strs ps) f
  row : ∀ p ∈ ps, RowAt w 9 1 (f (.string p)) (strs (adj p))
  none : ∀ p, p ∉ ps → adj p = []
  sub : ∀ p, ∀ q ∈ adj p, q ∈ ps
  nodup : ∀ p, (adj p).Nodup
theorem GraphAt.keep {W w : World} {g : Nat} {ps : List ByteArray} {adj : ByteArray → List ByteArray} {m : Nat} {f : Value → Value} (h : GraphAt W g ps adj m f) (u : Upd No W w) : GraphAt w g ps adj m f :=
  ⟨h.blk.upd u id, h.map.upd u id, fun p hp => (h.row p hp).upd u fun _ _ => id, h.none, h.sub, h.nodup⟩
theorem strs_mem {p : ByteArray} {ps : List ByteArray} : Value.string p ∈ strs ps ↔ p ∈ ps := by simp [strs]
theorem zero22 (w : World) : (zeroValue 22).run Try.prog w = .ok (.slice none 0 0) w := run_zero (s := 1) (b := 24) (by kernel_rfl) w
/-- 'g.to[p]', there and whatever new blocks there are. -/
theorem GraphAt.to {w : World} {g : Nat} {ps : List ByteArray} {adj : ByteArray → List ByteArray} {m : Nat} {f : Value → Value} (h : GraphAt w g ps adj m f) (p : ByteArray) :
    ∃ q c, (adj p).length ≤ maxLen ∧ ∀ w', Upd No w w' → (Instr.lookup 58 (.map (some m)) (.string p) false).run Try.prog w' = .ok (.slice q (adj p).length c) w' ∧ StrsAt w' q (adj p) := by
  by_cases hp : p ∈ ps
  · have hr := h.row p hp
    obtain ⟨q, n, c, e, hl, hc, hm⟩ := hr.shape
    have hl : n = (adj p).length := by simp [strs] at hl; omega
    subst hl
    refine ⟨q, c, by omega, fun w' u => ?_⟩
    have h' := h.keep u
    have hr := h'.row p hp
    have hr2 := run_lookup_in (P := Try.prog) (t := 58) (kt := 9) (et := 22) Try.underlying58 Try.underlying9 (k := .string p) trivial h'.map (strs_mem.2 hp) false
    rw [e] at hr hr2
    exact ⟨hr2, StrsAt.of_row hr⟩
  · rw [h.none p hp]
    refine ⟨Option.none, 0, Nat.zero_le _, fun w' u => ⟨?_, fun i hi => by simp at hi⟩⟩
    exact run_lookup_out (P := Try.prog) (t := 58) (kt := 9) (et := 22) Try.underlying58 Try.underlying9 (k := .string p) trivial (h.keep u).map (fun e => hp (strs_mem.1 e)) (zero22 w') false
end Go.Proofs.Ytkacocaekffdgaa
