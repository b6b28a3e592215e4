/- The document's queue: a list of numbers. Its three calls; 'item'. -/
import Derived.Test.YtkfbocfmiecblaaQ7
import Derived.Test.YtkfbocfmiecblaaVc
import Derived.Test.YtkfbocfmiecblaaRow
namespace Go.Proofs.Ytkfbocfmiecblaa
open Go.SX

theorem info_of {P : Program} {e : TypeId} {s b : Nat} {z : Value} (h : (P.info? e).map (fun i => (i.size, i.bytes, i.zero)) = some (s, b, some z)) : ∃ i, P.info? e = some i ∧ i.zero = some z ∧ i.size = s ∧ i.bytes = b := by
  cases hi : P.info? e with
  | none => rw [hi] at h; cases h
  | some i =>
    rw [hi] at h
    simp only [Option.map_some, Option.some.injEq, Prod.mk.injEq] at h
    exact ⟨i, rfl, h.2.2, h.1, h.2.1⟩

def ints (ns : List Int) : List Value := ns.map fun n => .int .i64 n
theorem ints_get {ns : List Int} {j : Nat} (h : j < ns.length) : (ints ns)[j]? = some (.int .i64 ns[j]) := by simp [ints, h]
theorem ints_len (ns : List Int) : (ints ns).length = ns.length := by simp [ints]

/-- block b holds the list v of ns. -/
structure RQ (w : World) (b : Nat) (v : Value) (ns : List Int) : Prop where
  blk : Blk w b #[v] 29
  row : RowAt w 3 1 v (ints ns)
  out : ¬ InRow v b
def RFoot (b : Nat) (v : Value) : Nat → Prop := fun k => k = b ∨ InRow v k
theorem RQ.foot_lt {w : World} {b : Nat} {v : Value} {ns : List Int} (h : RQ w b v ns) {k : Nat} (hk : RFoot b v k) : k < w.heap.size := by
  rcases hk with rfl | hk
  · exact h.blk.lt
  · exact h.row.lt hk
theorem RQ.upd {w w' : World} {b : Nat} {v : Value} {ns : List Int} (h : RQ w b v ns) {S : Nat → Prop} (u : Upd S w w') (hn : ∀ k, RFoot b v k → ¬ S k) : RQ w' b v ns :=
  ⟨h.blk.upd u (hn b (.inl rfl)), h.row.upd u fun k hk => hn k (.inr hk), h.out⟩

/-- its first two words, opened. -/
theorem RQ.open {w : World} {b : Nat} {v : Value} {ns : List Int} (h : RQ w b v ns) : ∃ p c, v = .slice p ns.length c ∧ ns.length ≤ c ∧ w.cell? ⟨b, 0, none⟩ = some (.slice p ns.length c) := by
  obtain ⟨p, n, c, rfl, hl, hc, _⟩ := h.row.shape
  rw [ints_len, Nat.mul_one] at hl
  subst hl
  exact ⟨p, c, rfl, hc, h.blk.cell rfl⟩

def hd (ns : List Int) : Int := ns.headD (-1)

theorem RQ.get {w : World} {b : Nat} {p : Option Addr} {n c : Nat} {ns : List Int} (h : RQ w b (.slice p n c) ns) {j : Nat} (hj : j < ns.length) : ∃ g o, p = some ⟨g, o, none⟩ ∧ w.cell? ⟨g, o + j, none⟩ = some (.int .i64 ns[j]) := by
  obtain ⟨g, o, hp, hc⟩ := h.row.get (j := j) (by rw [ints_len]; exact hj)
  rw [ints_get hj] at hc
  exact ⟨g, o, hp, hc⟩

theorem rfirst_spec {w : World} {b : Nat} {v : Value} {ns : List Int} (h : RQ w b v ns) : callC Try.prog 10 #[.pointer (some ⟨b, 0, none⟩)] w fun r w' => r = .int .i64 (hd ns) ∧ w = w' := by
  obtain ⟨p, c, rfl, hc, hcell⟩ := h.open
  refine rfirst_vc _ _ _ (ptrC_some ⟨_, _, _, hcell, ?_⟩)
  match ns, h with
  | [], _ => exact brC_tt rfl ⟨rfl, rfl⟩
  | n :: ns, h =>
    refine brC_ff ?_ (ptrC_some ⟨_, _, _, hcell, ⟨by omega, by simp, ?_⟩⟩)
    · simp
      omega
    · obtain ⟨g, o, rfl, hg⟩ := h.get (j := 0) (by simp)
      exact ptrC_some ⟨n, hg, rfl, rfl⟩

theorem rput_spec {w : World} {b : Nat} {v : Value} {ns : List Int} (h : RQ w b v ns) (x : Int) (hn : ns.length < 1000000) :
    callC Try.prog 9 #[.pointer (some ⟨b, 0, none⟩), .int .i64 x] w fun r w' => r = .tuple #[] ∧ ∃ v', RQ w' b v' (ns ++ [x]) ∧ Upd (RFoot b v) w w' ∧ ∀ k, RFoot b v' k → RFoot b v k ∨ w.heap.size ≤ k := by
  obtain ⟨p, c, rfl, hc, hcell⟩ := h.open
  refine rput_vc _ _ _ _ (ptrC_some ⟨_, _, _, hcell, newC_mk fun w1 h1 u1 s1 => ?_⟩)
  have r1 := h.upd u1 fun _ _ => id
  obtain ⟨i, hi, hz, hs, hb⟩ := info_of (P := Try.prog) (e := 3) (s := 1) (b := 8) (z := .int .i64 0) (by kernel_rfl)
  refine append_row (P := Try.prog) (e := 3) (news := [.int .i64 x]) Try.underlying27 hi hz hs hb rfl r1.row (n := ns.length) (by rw [ints_len, Nat.mul_one]) _ 1 1 (by omega) (by omega) rfl ?_ (by simp [Value.oneCell']) (by simp only [maxLen]; omega) (by omega)
    fun v' w2 r2 u2 f2 => ?_
  · intro j u hj
    match j, hj with
    | 0, hj => cases hj; exact h1.cell rfl
  obtain ⟨p', n', c', rfl, _⟩ := r2.shape
  have u2 : Upd (InRow (.slice p ns.length c)) w1 w2 := u2
  refine ⟨_, _, _, rfl, ptrC_some (stC_mk (r1.blk.upd u2 h.out) (by simp) fun w3 h3 u3 s3 => ⟨rfl, _, ⟨h3, ?_, ?_⟩, ?_, ?_⟩)⟩
  · have e : ints (ns ++ [x]) = ints ns ++ [.int .i64 x] := by simp [ints]
    rw [e]
    refine r2.upd u3 fun k hk e => ?_
    subst e
    rcases f2 _ hk with e | e
    · exact h.out e
    · have := h.blk.lt; have := u1.size; omega
  · intro hk
    rcases f2 _ hk with e | e
    · exact h.out e
    · have := h.blk.lt; have := u1.size; omega
  · exact ((u1.no (S := RFoot b (.slice p ns.length c))).trans u2 fun k _ e => .inr e).trans u3 fun k _ e => .inl e
  · rintro k (rfl | hk)
    · exact .inl (.inl rfl)
    · rcases f2 _ hk with e | e
      · exact .inl (.inr e)
      · exact .inr (Nat.le_trans u1.size e)

theorem rtake_spec {w : World} {b : Nat} {v : Value} {ns : List Int} (h : RQ w b v ns) (hp : ∀ n ∈ ns, 0 ≤ n) :
    callC Try.prog 11 #[.pointer (some ⟨b, 0, none⟩)] w fun r w' => r = .int .i64 (hd ns) ∧ ∃ v', RQ w' b v' ns.tail ∧ Upd (RFoot b v) w w' ∧ ∀ k, RFoot b v' k → RFoot b v k := by
  refine rtake_vc _ _ _ (callC_of (rfirst_spec h) fun r w1 ⟨hr, e⟩ => ⟨_, hr, ?_⟩)
  subst e
  refine ⟨fun w' => ∃ v', RQ w' b v' ns.tail ∧ Upd (RFoot b v) w w' ∧ ∀ k, RFoot b v' k → RFoot b v k, fun w4 hx d => ⟨rfl, hx⟩, ?_⟩
  match ns, h, hp with
  | [], h, _ => exact brC_ff rfl ⟨v, h, Upd.refl _ _, fun _ => id⟩
  | n :: ns, h, hp =>
    have h0 : 0 ≤ n := hp n (by simp)
    refine brC_tt (by simp [hd, h0]) ?_
    obtain ⟨p, c, rfl, hc, hcell⟩ := h.open
    refine ptrC_some ⟨_, _, _, hcell, ⟨by omega, by simp; omega, by omega, ptrC_some (stC_mk h.blk (by simp) fun w3 h3 u3 s3 => ⟨_, ⟨h3, ?_, ?_⟩, ?_, ?_⟩)⟩⟩
    · have := h.row.cut (lo := 1) (hi := (n :: ns).length) (by simp) (Nat.le_refl _)
      have e : ((ints (n :: ns)).drop (1 * 1)).take (((n :: ns).length - 1) * 1) = ints ns := by
        simp only [Nat.mul_one, ints, List.map_cons, List.drop_succ_cons, List.drop_zero, List.length_cons, Nat.add_sub_cancel]
        rw [List.take_of_length_le (by simp)]
      rw [e] at this
      refine this.upd u3 fun k hk e => ?_
      subst e
      exact h.out (inRow_cut hk)
    · exact fun hk => h.out (inRow_cut hk)
    · exact u3.mono fun k _ e => .inl e
    · rintro k (rfl | hk)
      · exact .inl rfl
      · exact .inr (inRow_cut hk)
end Go.Proofs.Ytkfbocfmiecblaa
