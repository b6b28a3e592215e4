/- Slices that a law's own code has made: rows of cells, from any cell of their block on. Reading, cutting, appending. Nothing of a program stands here. -/
import Derived.Test.YtpddhbdjcgkjcaaGreatDoorHp
import Derived.Laws.AppendOwn
namespace Go.SX

/-- v is a slice of elements of e (size cells each); xs: all cells of its elements. -/
def RowAt (w : World) (e : TypeId) (size : Nat) (v : Value) (xs : List Value) : Prop :=
  ∃ n, xs.length = n * size ∧ ((v = .slice none 0 0 ∧ n = 0) ∨
    ∃ g o cap cur, v = .slice (some ⟨g, o, none⟩) n cap ∧ Blk w g cur e ∧ n ≤ cap ∧ cap ≤ maxLen ∧ o + cap * size ≤ cur.size ∧ (cur.toList.drop o).take (n * size) = xs)

theorem RowAt.nil (w : World) (e : TypeId) (size : Nat) : RowAt w e size (.slice none 0 0) [] := ⟨0, by simp, .inl ⟨rfl, rfl⟩⟩

/-- the block that it lies in. -/
def InRow (v : Value) : Nat → Prop := fun b => v.ownBlock = some b

theorem RowAt.lt {w : World} {e : TypeId} {size : Nat} {v : Value} {xs : List Value} (h : RowAt w e size v xs) {b : Nat} (hb : InRow v b) : b < w.heap.size := by
  obtain ⟨n, _, ⟨rfl, _⟩ | ⟨g, o, cap, cur, rfl, hg, _⟩⟩ := h
  · cases hb
  · have : g = b := by simpa [InRow, Value.ownBlock] using hb
    subst this
    exact hg.lt
theorem RowAt.upd {w w' : World} {e : TypeId} {size : Nat} {v : Value} {xs : List Value} (h : RowAt w e size v xs) {S : Nat → Prop} (u : Upd S w w') (hn : ∀ b, InRow v b → ¬ S b) : RowAt w' e size v xs := by
  obtain ⟨n, hl, h | ⟨g, o, cap, cur, rfl, hg, hr⟩⟩ := h
  · exact ⟨n, hl, .inl h⟩
  · exact ⟨n, hl, .inr ⟨g, o, cap, cur, rfl, hg.upd u (hn g rfl), hr⟩⟩

theorem RowAt.shape {w : World} {e : TypeId} {size : Nat} {v : Value} {xs : List Value} (h : RowAt w e size v xs) : ∃ p n c, v = .slice p n c ∧ xs.length = n * size ∧ n ≤ c ∧ c ≤ maxLen := by
  obtain ⟨n, hl, ⟨rfl, rfl⟩ | ⟨g, o, cap, cur, rfl, hg, h1, h2, _⟩⟩ := h
  · exact ⟨_, _, _, rfl, hl, Nat.le_refl _, Nat.zero_le _⟩
  · exact ⟨_, _, _, rfl, hl, h1, h2⟩

/-- its cells, one by one. -/
theorem RowAt.get {w : World} {e : TypeId} {size : Nat} {p : Option Addr} {n c : Nat} {xs : List Value} (h : RowAt w e size (.slice p n c) xs) {j : Nat} (hj : j < xs.length) :
    ∃ g o, p = some ⟨g, o, none⟩ ∧ w.cell? ⟨g, o + j, none⟩ = xs[j]? := by
  obtain ⟨m, hl, ⟨e0, rfl⟩ | ⟨g, o, cap, cur, e0, hg, h1, h2, h3, h4⟩⟩ := h
  · rw [Nat.zero_mul] at hl; omega
  · cases e0
    refine ⟨g, o, rfl, ?_⟩
    have hx : xs[j]? = cur[o + j]? := by
      rw [← h4, List.getElem?_take, if_pos (by omega), List.getElem?_drop]
      simp
    have hlt : o + j < cur.size := by
      have : n * size ≤ c * size := Nat.mul_le_mul_right _ h1
      omega
    rw [hx, Array.getElem?_eq_getElem hlt]
    exact hg.cell (Array.getElem?_eq_getElem hlt)

/-- a part of it: 's[lo:hi]'. -/
theorem RowAt.cut {w : World} {e : TypeId} {size : Nat} {p : Option Addr} {n c : Nat} {xs : List Value} (h : RowAt w e size (.slice p n c) xs) {lo hi : Nat} (h1 : lo ≤ hi) (h2 : hi ≤ n) :
    RowAt w e size (.slice (subP p c lo size) (hi - lo) (c - lo)) ((xs.drop (lo * size)).take ((hi - lo) * size)) := by
  obtain ⟨m, hl, ⟨e0, rfl⟩ | ⟨g, o, cap, cur, e0, hg, hnc, hcm, hfit, htk⟩⟩ := h
  · cases e0
    have : hi = 0 := by omega
    subst this
    have : lo = 0 := by omega
    subst this
    have : xs = [] := List.eq_nil_of_length_eq_zero (by simpa using hl)
    subst this
    exact ⟨0, by simp, .inl ⟨by simp [subP], rfl⟩⟩
  · cases e0
    have hlen : ((xs.drop (lo * size)).take ((hi - lo) * size)).length = (hi - lo) * size := by
      rw [List.length_take, List.length_drop, hl]
      have : (hi - lo) * size + lo * size ≤ n * size := by rw [← Nat.add_mul]; exact Nat.mul_le_mul_right _ (by omega)
      omega
    refine ⟨hi - lo, hlen, .inr ?_⟩
    unfold subP
    split
    · rename_i hc
      subst hc
      have : hi = c := by omega
      subst this
      refine ⟨g, o, hi - hi, cur, rfl, hg, by omega, by omega, ?_, by simp⟩
      have : (hi - hi) * size = 0 := by simp
      omega
    · refine ⟨g, o + lo * size, c - lo, cur, ?_, hg, by omega, by omega, ?_, ?_⟩
      · rw [Option.map_some, add_mk]
      · have : lo * size + (c - lo) * size = c * size := by rw [← Nat.add_mul]; congr 1; omega
        omega
      · rw [← htk, List.drop_take, List.drop_drop, List.take_take]
        congr 1
        have : (hi - lo) * size + lo * size ≤ n * size := by rw [← Nat.add_mul]; exact Nat.mul_le_mul_right _ (by omega)
        omega

theorem add_block (a : Addr) (n : Nat) : (a.add n).block = a.block := by unfold Addr.add; split <;> rfl
theorem inRow_cut {p : Option Addr} {n c n' c' c'' l size b : Nat} (h : InRow (.slice (subP p c'' l size) n' c') b) : InRow (.slice p n c) b := by
  unfold InRow subP at *
  cases p with
  | none => split at h <;> cases h
  | some a =>
    split at h
    · exact h
    · simp only [Option.map_some, Value.ownBlock, add_block] at h ⊢; exact h

/-- A ROW GROWS BY THE CELLS OF ANOTHER ONE. -/
theorem append_row {P : Program} {w : World} {t ty e : TypeId} {i : TypeInfo} {z : Value} {size bytes : Nat} (ht : P.underlying t = some (.slice e)) (hi : P.info? e = some i) (hz : i.zero = some z)
    (hsize : i.size = size) (hby : i.bytes = bytes) (hzs : z.cells.size = size) {v : Value} {xs : List Value} {n : Nat} (h : RowAt w e size v xs) (hn : xs.length = n * size)
    (a : Addr) (m c : Nat) (news : List Value) (hm : 0 < m) (hsz : 0 < size) (hl : news.length = m * size) (hnews : ∀ j u, news[j]? = some u → w.cell? (a.add j) = some u) (h1 : ∀ u ∈ news, u.oneCell' = true)
    (h63 : n + m ≤ maxLen) (hbytes : (n + m) * bytes ≤ 140737488355328) {K : Value → World → Prop}
    (hk : ∀ v' w', RowAt w' e size v' (xs ++ news) → Upd (InRow v) w w' → (∀ b, InRow v' b → InRow v b ∨ w.heap.size ≤ b) → K v' w') :
    runC P (Builtin.append_ #[t, t] ty #[v, .slice (some a) m c]) w K := by
  subst hsize
  subst hby
  have hsmall : n + m ≤ 9223372036854775807 := by simp only [maxLen] at h63; omega
  have hlen : (xs ++ news).length = (n + m) * i.size := by rw [List.length_append, hn, hl, Nat.add_mul]
  have grown : ∀ (old : Nat), old < n + m →
      RowAt (w.drew.alloc (.cells (xs.toArray ++ news.toArray ++ Builtin.zeroCells z.cells (grownCap w (n + m) old e - (n + m))) e)) e i.size
        (.slice (some ⟨w.heap.size, 0, none⟩) (n + m) (grownCap w (n + m) old e)) (xs ++ news) := by
    intro old ho
    have hge := grownCap_ge w (n + m) old e
    have hcm : grownCap w (n + m) old e ≤ maxLen := grownCap_le_maxLen w (n + m) old e h63
    refine ⟨n + m, hlen, .inr ⟨w.heap.size, 0, _, _, rfl, heap_alloc_new w.drew _, hge, hcm, ?_, ?_⟩⟩
    · simp only [Array.size_append, List.size_toArray, size_zeroCells, hzs, hn, hl, ← Nat.add_mul]
      have : n + m + (grownCap w (n + m) old e - (n + m)) = grownCap w (n + m) old e := by omega
      rw [this]; omega
    · simp only [Array.toList_append, List.append_assoc, List.drop_zero]
      rw [← List.append_assoc, ← hlen]
      exact List.take_left
  have gupd : ∀ (o : Obj), Upd (InRow v) w (w.drew.alloc o) := fun o => ⟨rfl, rfl, rfl, by simp, fun k hk _ => heap_alloc_old w.drew _ k hk⟩
  obtain ⟨n', hl', ⟨rfl, rfl⟩ | ⟨g, o, cap, cur, rfl, hg, hnc, hcm, hfit, htk⟩⟩ := h
  · have hx : xs = [] := List.eq_nil_of_length_eq_zero (by simpa using hl')
    subst hx
    have hn0 : n = 0 := by
      rcases Nat.eq_zero_or_pos n with e | e
      · exact e
      · have := Nat.mul_pos e hsz; simp at hn; omega
    subst hn0
    have hr := run_append_nil (P := P) w t ty e i z ht hi hz a m c news hl hnews (by omega) (by omega) (by have hb := hbytes; simp only [Nat.zero_add] at hb; omega)
    have hgr := grown 0 (by omega)
    simp only [Nat.zero_add, List.nil_append, Array.empty_append] at hgr hk ⊢
    exact ⟨_, _, hr, hk _ _ hgr (gupd _) fun b hb => .inr (by simp [InRow, Value.ownBlock] at hb; omega)⟩
  · have hnn : n' = n := Nat.eq_of_mul_eq_mul_right hsz (by omega)
    subst hnn
    have holds : ∀ j u, xs[j]? = some u → w.cell? ((⟨g, o, none⟩ : Addr).add j) = some u := by
      intro j u hu
      have hj : j < xs.length := by
        rcases Nat.lt_or_ge j xs.length with h | h
        · exact h
        · rw [List.getElem?_eq_none h] at hu; cases hu
      obtain ⟨g', o', e', hc⟩ := RowAt.get (c := cap) (p := some ⟨g, o, none⟩) (n := n') ⟨n', hl', .inr ⟨g, o, cap, cur, rfl, hg, hnc, hcm, hfit, htk⟩⟩ hj
      cases e'
      rw [add_mk, hc, hu]
    by_cases hroom : n' + m ≤ cap
    · have hfit2 : o + n' * i.size + news.length ≤ cur.size := by
        rw [hl]
        have : n' * i.size + m * i.size ≤ cap * i.size := by rw [← Nat.add_mul]; exact Nat.mul_le_mul_right _ hroom
        omega
      have hf := run_firstCells_some (P := P) w i.size m a m c news hl hnews
      have hst := run_storeCells_at P g (o + n' * i.size) e news 0 cur w hg (by simpa using hfit2) h1
      simp only [Nat.add_zero] at hst
      have hr : (Builtin.append_ #[t, t] ty #[.slice (some ⟨g, o, none⟩) n' cap, .slice (some a) m c]).run P w =
          .ok (.slice (some ⟨g, o, none⟩) (n' + m) cap) (w.setRow g (cur.toList.take (o + n' * i.size) ++ news ++ cur.toList.drop (o + n' * i.size + news.length)).toArray) := by
        simp [Builtin.append_, run_underlying ht, sizeOf, typeInfo, hi, Builtin.lenOf, hroom, hf, add_mk, hst]
      refine ⟨_, _, hr, hk _ _ ⟨n' + m, hlen, .inr ⟨g, o, cap, _, rfl, setRow_heap w g cur _ e _ hg, hroom, hcm, ?_, ?_⟩⟩ ⟨rfl, rfl, rfl, by simp, fun k _ hk => setRow_other w g k _ (fun e => hk (by simp [InRow, Value.ownBlock, e]))⟩ fun b hb => .inl hb⟩
      · simp only [List.size_toArray, List.length_append, List.length_take, List.length_drop, Array.length_toList]
        omega
      · have e1 : cur.toList.take (o + n' * i.size) = cur.toList.take o ++ xs := by
          rw [List.take_add, htk]
        have e2 : (cur.toList.take o).length = o := by rw [List.length_take, Array.length_toList]; omega
        rw [List.toList_toArray, e1, List.append_assoc, List.append_assoc, List.drop_append_of_le_length (by omega), List.drop_of_length_le (by omega), List.nil_append, ← List.append_assoc, ← hlen]
        exact List.take_left
    · have hr := run_append_grow (P := P) w t ty e i z ht hi hz ⟨g, o, none⟩ n' cap xs hn holds a m c news hl hnews (by omega) (by omega) (growslice_fits (by omega) hbytes)
      exact ⟨_, _, hr, hk _ _ (grown cap (by omega)) (gupd _) fun b hb => .inr (by simp [InRow, Value.ownBlock] at hb; omega)⟩

/-- nothing is appended. -/
theorem append_zero {P : Program} {w : World} {t ty e : TypeId} {i : TypeInfo} (ht : P.underlying t = some (.slice e)) (hi : P.info? e = some i) {size : Nat} {v : Value} {xs : List Value} (h : RowAt w e size v xs) (p : Option Addr) (c : Nat)
    {K : Value → World → Prop} (hk : K v w) : runC P (Builtin.append_ #[t, t] ty #[v, .slice p 0 c]) w K := by
  obtain ⟨q, n, cap, rfl, _, hnc, _⟩ := h.shape
  refine ⟨_, _, ?_, hk⟩
  have hf : (Builtin.firstCells i.size 0 (.slice p 0 c)).run P w = .ok #[] w := by
    cases p with
    | none => simp [Builtin.firstCells]
    | some a => simpa using run_firstCells_some (P := P) w i.size 0 a 0 c [] (by simp) (by simp)
  cases q with
  | none => simp [Builtin.append_, run_underlying ht, sizeOf, typeInfo, hi, Builtin.lenOf, hnc, hf]
  | some a => simp [Builtin.append_, run_underlying ht, sizeOf, typeInfo, hi, Builtin.lenOf, hnc, hf, storeCells]

/-- A ROW GROWS BY THE CELLS OF ANOTHER ONE, of none too. -/
theorem append_slice {P : Program} {w : World} {t ty e : TypeId} {i : TypeInfo} {z : Value} {size bytes : Nat} (ht : P.underlying t = some (.slice e)) (hi : P.info? e = some i) (hz : i.zero = some z)
    (hsize : i.size = size) (hby : i.bytes = bytes) (hzs : z.cells.size = size) {v : Value} {xs : List Value} {n : Nat} (h : RowAt w e size v xs) (hn : xs.length = n * size)
    (p : Option Addr) (m c : Nat) (news : List Value) (hsz : 0 < size) (hl : news.length = m * size) (hnews : ∀ j u, news[j]? = some u → ∃ a : Addr, p = some a ∧ w.cell? (a.add j) = some u) (h1 : ∀ u ∈ news, u.oneCell' = true)
    (h63 : n + m ≤ maxLen) (hbytes : (n + m) * bytes ≤ 140737488355328) {K : Value → World → Prop}
    (hk : ∀ v' w', RowAt w' e size v' (xs ++ news) → Upd (InRow v) w w' → (∀ b, InRow v' b → InRow v b ∨ w.heap.size ≤ b) → K v' w') :
    runC P (Builtin.append_ #[t, t] ty #[v, .slice p m c]) w K := by
  rcases Nat.eq_zero_or_pos m with rfl | hm
  · have : news = [] := List.eq_nil_of_length_eq_zero (by simpa using hl)
    subst this
    exact append_zero ht hi h p c (hk v w (by simpa using h) (Upd.refl _ _) fun b hb => .inl hb)
  · have h0 : 0 < news.length := by rw [hl]; exact Nat.mul_pos hm hsz
    obtain ⟨a, rfl, _⟩ := hnews 0 news[0] (by simp)
    refine append_row ht hi hz hsize hby hzs h hn a m c news hm hsz hl (fun j u hj => ?_) h1 h63 hbytes hk
    obtain ⟨a', e, hc⟩ := hnews j u hj
    cases e
    exact hc
end Go.SX
