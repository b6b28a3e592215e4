/- Lists of texts that are only read; slices.Index, slices.Contains. -/
import Derived.Test.YtkacocaekffdgaaVc
import Derived.Test.YtkacocaekffdgaaRow
import Derived.Test.YtkacocaekffdgaaMap
namespace Go.Proofs.Ytkacocaekffdgaa
open Go.SX

/-- the texts l lie at p, one behind the other. -/
def StrsAt (w : World) (p : Option Addr) (l : List ByteArray) : Prop := ∀ i, (h : i < l.length) → ∃ a : Addr, p = some a ∧ w.cell? (Addr.add a (i * 1)) = some (.string l[i])
theorem cell_keep {W w : World} {a : Addr} {v : Value} (h : W.cell? a = some v) (u : Upd No W w) : w.cell? a = some v := by
  have hb := World.block_lt_of_cell? W a h
  have := u.block a.block hb id
  unfold World.cell? at *
  rw [this]; exact h
theorem StrsAt.keep {W w : World} {p : Option Addr} {l : List ByteArray} (h : StrsAt W p l) (u : Upd No W w) : StrsAt w p l := fun i hi => by
  obtain ⟨a, rfl, hc⟩ := h i hi
  exact ⟨a, rfl, cell_keep hc u⟩
def strs (l : List ByteArray) : List Value := l.map Value.string
theorem StrsAt.of_row {w : World} {p : Option Addr} {n c : Nat} {l : List ByteArray} (h : RowAt w 9 1 (.slice p n c) (strs l)) : StrsAt w p l := fun i hi => by
  obtain ⟨g, o, rfl, hc⟩ := h.get (j := i) (by simpa [strs] using hi)
  refine ⟨_, rfl, ?_⟩
  rw [add_mk, Nat.mul_one, hc]
  simp [strs, hi]

theorem beq_bytes (x y : ByteArray) : (x.toList == y.toList) = decide (x = y) := by
  rw [Bool.eq_iff_iff, beq_iff_eq, ByteArray.toList_eq, ByteArray.toList_eq, decide_eq_true_eq]
  constructor
  · intro h
    cases x; cases y
    congr 1
    exact Array.toList_inj.1 h
  · rintro rfl; rfl

/-- the place of s in l, counted from i; -1: it is not there. -/
def idxAt : List ByteArray → ByteArray → Nat → Int
  | [], _, _ => -1
  | x :: l, s, i => if x = s then i else idxAt l s (i + 1)
theorem idxAt_mem (l : List ByteArray) (s : ByteArray) : ∀ i, 0 ≤ idxAt l s i ↔ s ∈ l := by
  induction l with
  | nil => intro i; simp [idxAt]
  | cons x l ih =>
    intro i
    unfold idxAt
    split
    · rename_i h; subst h; simp
    · rename_i h
      rw [ih, List.mem_cons]
      exact ⟨.inr, fun e => e.elim (fun e => (h e.symm).elim) id⟩

instance (s : ByteArray) (l : List ByteArray) : Decidable (s ∈ l) := decidable_of_iff (0 ≤ idxAt l s 0) (idxAt_mem l s 0)

/-- a loop over a list of texts that stops where s is: both ways of asking. -/
theorem index_loop {w : World} {p : Option Addr} {l : List ByteArray} {s : ByteArray} {K : Value → World → Prop} (h : StrsAt w p l) (hl : l.length ≤ maxLen) (hK : K (.int .i64 (idxAt l s 0)) w) (cmp : ByteArray → Bool) (hc : ∀ x, cmp x = decide (x = s)) :
    ∃ (J : Int → World → Prop), ∃ (μ : Int → World → Nat), J 0 w ∧ ∀ (n2 : Int) (w3 : World), J n2 w3 → ∀ (_ : Nat → Value), brC (decide (n2 < (l.length : Int))) (idxC n2 l.length (ptrC p fun (a5 : Addr) ↦ ∃ (s6 : ByteArray), World.cell? w3 (Addr.add a5 (Int.toNat n2 * 1)) = some (.string s6) ∧
      brC (cmp s6) (K (.int .i64 n2) w3) (J (IntKind.wrap IntKind.i64 (n2 + 1)) w3 ∧ μ (IntKind.wrap IntKind.i64 (n2 + 1)) w3 < μ n2 w3))) (K (.int .i64 (-1)) w3) := by
  simp only [maxLen] at hl
  refine ⟨fun n w' => ∃ i : Nat, n = i ∧ w' = w ∧ i ≤ l.length ∧ idxAt l s 0 = idxAt (l.drop i) s i, fun n _ => (l.length - n).toNat, ⟨0, rfl, rfl, Nat.zero_le _, rfl⟩, ?_⟩
  rintro n w3 ⟨i, rfl, rfl, hi, he⟩ d
  refine brC_intro (fun hlt => ?_) fun hge => ?_
  · have hlt : i < l.length := by simpa using hlt
    obtain ⟨a, rfl, ha⟩ := h i hlt
    have hd : l.drop i = l[i] :: l.drop (i + 1) := (List.getElem_cons_drop hlt).symm
    have e2 : idxAt (l[i] :: l.drop (i + 1)) s i = if l[i] = s then (i : Int) else idxAt (l.drop (i + 1)) s (i + 1) := rfl
    rw [hd, e2] at he
    refine ⟨by omega, by omega, ?_⟩
    show ∃ s6, _
    refine ⟨l[i], by rw [Int.toNat_natCast]; exact ha, ?_⟩
    rw [hc]
    refine brC_intro (fun hs => ?_) fun hs => ?_
    · rw [if_pos (by simpa using hs)] at he
      rw [← he]; exact hK
    · rw [if_neg (by simpa using hs)] at he
      rw [wrap_small (by omega) (by omega)]
      exact ⟨⟨i + 1, by omega, rfl, hlt, he⟩, by dsimp only; omega⟩
  · have : i = l.length := by
      have : ¬ ((i : Int) < (l.length : Int)) := by simpa using hge
      omega
    subst this
    rw [List.drop_length] at he
    have he : idxAt l s 0 = -1 := he
    rw [← he]; exact hK
theorem index_spec {w : World} {p : Option Addr} {l : List ByteArray} (h : StrsAt w p l) (hl : l.length ≤ maxLen) (c : Nat) (s : ByteArray) :
    callC Try.prog 51 #[.slice p l.length c, .string s] w fun v w' => v = .int .i64 (idxAt l s 0) ∧ w = w' :=
  index _ _ _ _ _ _ (index_loop (K := fun v w' => v = .int .i64 (idxAt l s 0) ∧ w = w') h hl ⟨rfl, rfl⟩ (fun x => s.toList == x.toList) fun x => by rw [beq_bytes]; simp [eq_comm])
theorem contains_spec {w : World} {p : Option Addr} {l : List ByteArray} (h : StrsAt w p l) (hl : l.length ≤ maxLen) (c : Nat) (s : ByteArray) :
    callC Try.prog 36 #[.slice p l.length c, .string s] w fun v w' => v = .bool (decide (s ∈ l)) ∧ w = w' := by
  refine contains _ _ _ _ _ _ (callC_of (index_spec h hl c s) fun v w1 ⟨hv, e⟩ => ⟨_, hv, ?_, e⟩)
  congr 1
  rw [decide_eq_decide]
  exact idxAt_mem l s 0
end Go.Proofs.Ytkacocaekffdgaa
