/- Put: the contract. -/
import Derived.Test.YtkfbocfmiecblaaQ2
namespace Go.Proofs.Ytkfbocfmiecblaa
open Go.SX

theorem getD_snoc_lt {α : Type} (l : List α) (x d : α) (k : Nat) (h : k < l.length) : (l ++ [x]).getD k d = l.getD k d := by
  simp [List.getD_eq_getElem?_getD, List.getElem?_append_left h]
theorem getD_snoc_eq {α : Type} (l : List α) (x d : α) : (l ++ [x]).getD l.length d = x := by
  simp [List.getD_eq_getElem?_getD]

theorem BlkAt.keep {w : World} {bs : List Nat} {fr : Nat} {xs : List It} {j : Nat} {cs : Array Value} (h : BlkAt w bs fr xs j cs) (x : It) (hj : (fr + xs.length) / 16 ≠ j) : BlkAt w bs fr (xs ++ [x]) j cs := by
  refine ⟨h.blk, h.size, h.link, fun k hk he => ?_⟩
  by_cases hkl : k = xs.length
  · subst hkl; exact absurd he hj
  · have hk' : k < xs.length := by simp at hk; omega
    rw [getD_snoc_lt _ _ _ _ hk']
    exact h.items k hk' he
theorem BlkAt.push {w w' : World} {bs : List Nat} {fr : Nat} {xs : List It} {j : Nat} {cs : Array Value} (h : BlkAt w bs fr xs j cs) (x : It) (hj : (fr + xs.length) / 16 = j)
    (hb : Blk w' (bs.getD j 0) (setIt cs ((fr + xs.length) % 16 * 5) x) 50) : BlkAt w' bs fr (xs ++ [x]) j (setIt cs ((fr + xs.length) % 16 * 5) x) := by
  have hs := h.size
  have hm : (fr + xs.length) % 16 < 16 := Nat.mod_lt _ (by omega)
  refine ⟨hb, by rw [setIt_size]; exact hs, fun hl => ?_, fun k hk he => ?_⟩
  · rw [setIt_other _ _ _ _ (by omega)]; exact h.link hl
  · by_cases hkl : k = xs.length
    · subst hkl
      rw [getD_snoc_eq]
      exact setIt_at _ _ _ (by omega)
    · have hk' : k < xs.length := by simp at hk; omega
      rw [getD_snoc_lt _ _ _ _ hk']
      exact (h.items k hk' he).set (by omega)

/-- the state behind a block's making, where one was wanted. -/
structure Mid (q : Nat) (bs : List Nat) (fr : Nat) (xs : List It) (x : It) (k0 : Nat) (w0 w : World) (bs' : List Nat) : Prop where
  qi : QI w q bs' fr xs
  last : (fr + xs.length) / 16 = bs'.length - 1
  upd : Upd (Foot q bs) w0 w
  box : Blk w k0 #[.int .i64 x.conn, .string x.body, .int .u64 x.now, .string x.nonce, .bool x.drawn] 32
  foot : ∀ b, Foot q bs' b → Foot q bs b ∨ w0.heap.size ≤ b
  notbox : ¬ Foot q bs' k0

theorem It.at_box (x : It) : ItAt #[.int .i64 x.conn, .string x.body, .int .u64 x.now, .string x.nonce, .bool x.drawn] 0 x := ⟨rfl, rfl, rfl, rfl, rfl⟩

def PutPost (q : Nat) (bs : List Nat) (fr : Nat) (xs : List It) (x : It) (w : World) (v : Value) (w' : World) : Prop :=
  v = .tuple #[] ∧ ∃ bs', QAt w' q bs' fr (xs ++ [x]) ∧ Upd (Foot q bs) w w' ∧ ∀ b, Foot q bs' b → Foot q bs b ∨ w.heap.size ≤ b

theorem idx_eq (fr n : Nat) (h : fr + n < 9223372036854775807) : Int.tmod (IntKind.wrap IntKind.i64 ((fr : Int) + (n : Int))) 16 = (((fr + n) % 16 : Nat) : Int) := by
  rw [wrap_small (by omega) (by omega)]
  have := tmod_nat (fr + n) 16
  rw [← this]; rfl

set_option maxHeartbeats 1000000 in
theorem put_rest {q : Nat} {bs : List Nat} {fr : Nat} {xs : List It} {x : It} {k0 : Nat} {w0 w : World} {bs' : List Nat} (hn : fr + xs.length < 9223372036854775806) (m : Mid q bs fr xs x k0 w0 w bs') :
    drawC w fun (w10 : World) ↦ ptrC (some ⟨q, 0, none⟩) fun (a11 : Addr) ↦ ∃ (p12 : Option Addr), World.cell? w10 (Addr.add a11 1) = some (.pointer p12) ∧ ∃ (n13 : Int), World.cell? w10 (Addr.mk k0 0 none) = some (.int .i64 n13) ∧ ∃ (s14 : ByteArray), World.cell? w10 (Addr.mk k0 1 none) = some (.string s14) ∧ ∃ (n15 : Int), World.cell? w10 (Addr.mk k0 2 none) = some (.int .u64 n15) ∧ ∃ (s16 : ByteArray), World.cell? w10 (Addr.mk k0 3 none) = some (.string s16) ∧ ∃ (b17 : Bool), World.cell? w10 (Addr.mk k0 4 none) = some (.bool b17) ∧ ptrC p12 fun (a18 : Addr) ↦ idxC (Int.tmod (IntKind.wrap IntKind.i64 ((fr : Int) + (xs.length : Int))) 16) 16 (stC w10 (Addr.add a18 (Int.toNat (Int.tmod (IntKind.wrap IntKind.i64 ((fr : Int) + (xs.length : Int))) 16) * 5)) (.int .i64 n13) fun (w19 : World) ↦ stC w19 (Addr.add (Addr.add a18 (Int.toNat (Int.tmod (IntKind.wrap IntKind.i64 ((fr : Int) + (xs.length : Int))) 16) * 5)) 1) (.string s14) fun (w20 : World) ↦ stC w20 (Addr.add (Addr.add a18 (Int.toNat (Int.tmod (IntKind.wrap IntKind.i64 ((fr : Int) + (xs.length : Int))) 16) * 5)) 2) (.int .u64 n15) fun (w21 : World) ↦ stC w21 (Addr.add (Addr.add a18 (Int.toNat (Int.tmod (IntKind.wrap IntKind.i64 ((fr : Int) + (xs.length : Int))) 16) * 5)) 3) (.string s16) fun (w22 : World) ↦ stC w22 (Addr.add (Addr.add a18 (Int.toNat (Int.tmod (IntKind.wrap IntKind.i64 ((fr : Int) + (xs.length : Int))) 16) * 5)) 4) (.bool b17) fun (w23 : World) ↦ ptrC (some ⟨q, 0, none⟩) fun (a24 : Addr) ↦ ∃ (n25 : Int), World.cell? w23 (Addr.add a24 3) = some (.int .i64 n25) ∧ ptrC (some ⟨q, 0, none⟩) fun (a26 : Addr) ↦ stC w23 (Addr.add a26 3) (.int .i64 (IntKind.wrap IntKind.i64 (n25 + 1))) fun (w27 : World) ↦ PutPost q bs fr xs x w0 (.tuple #[]) w27) := by
  refine drawC_mk fun w1 u1 s1 => ?_
  have q1 := m.qi.upd u1 fun _ _ => id
  have hbox := m.box.upd u1 id
  have hp := m.qi.pos
  have hl : bs'.length - 1 < bs'.length := by omega
  obtain ⟨cs, hc⟩ := q1.blks _ hl
  have hm : (fr + xs.length) % 16 < 16 := Nat.mod_lt _ (by omega)
  refine ⟨some ⟨bs'.getD (bs'.length - 1) 0, 0, none⟩, q1.head.cell rfl, ?_⟩
  refine ld5 (o := 0) (K := fun n s m' s' d => _) hbox x.at_box ?_
  rw [idx_eq _ _ (by omega)]
  refine ⟨by omega, by omega, ?_⟩
  simp only [add_mk, Nat.zero_add, Int.toNat_natCast]
  refine st5 hc.blk (by rw [hc.size]; omega) fun w2 h2 u2 s2 => ?_
  have hne : q ≠ bs'.getD (bs'.length - 1) 0 := fun e => q1.notq _ hl e.symm
  have hq2 := q1.head.upd u2 hne
  refine ⟨(xs.length : Int), hq2.cell rfl, ?_⟩
  rw [wrap_small (by omega) (by omega)]
  refine stC_mk hq2 (by simp) fun w3 h3 u3 s3 => ⟨rfl, bs', ?_, ?_, m.foot⟩
  · refine ⟨⟨m.qi.small, hp, m.qi.nodup, m.qi.notq, by simp; have := m.last; omega, ?_, fun j hj => ?_⟩, fun _ => by simp; have := m.last; omega, fun h => by simp at h⟩
    · have e : (#[pB (bs'.getD 0 0), pB (bs'.getD (bs'.length - 1) 0), .int .i64 (fr : Int), .int .i64 (xs.length : Int)] : Array Value).setIfInBounds 3 (.int .i64 ((xs.length : Int) + 1)) =
          #[pB (bs'.getD 0 0), pB (bs'.getD (bs'.length - 1) 0), .int .i64 (fr : Int), .int .i64 ((xs ++ [x]).length : Int)] := by simp
      rw [← e]; exact h3
    · by_cases hjl : j = bs'.length - 1
      · subst hjl
        have hb3 : Blk w3 (bs'.getD (bs'.length - 1) 0) (setIt cs ((fr + xs.length) % 16 * 5) x) 50 := Blk.upd (S := (· = q)) h2 u3 (q1.notq _ hl)
        exact ⟨_, hc.push x m.last hb3⟩
      · obtain ⟨cj, hcj⟩ := q1.blks j hj
        refine ⟨cj, BlkAt.keep ?_ x (by rw [m.last]; exact fun e => hjl e.symm)⟩
        refine (hcj.upd u2 fun e => hjl (q1.nodup _ _ hj hl e)).upd u3 (q1.notq _ hj)
  · have f1 : Upd (Foot q bs) w0 w1 := m.upd.trans u1 fun _ _ => False.elim
    have hfin : ∀ b, b < w0.heap.size → (b = q ∨ b = bs'.getD (bs'.length - 1) 0) → Foot q bs b := fun b hb hx => by
      rcases hx with rfl | rfl
      · exact .inl rfl
      · exact (m.foot _ (.inr ⟨_, hl, rfl⟩)).resolve_right (by omega)
    exact (f1.trans u2 fun b hb e => hfin b hb (.inr e)).trans u3 fun b hb e => hfin b hb (.inl e)

/-- a new last block. -/
theorem QI.grow {q : Nat} {bs : List Nat} {fr : Nat} {xs : List It} {w w1 w2 w3 : World} (h : QI w q bs fr xs) (hfull : fr + xs.length = 16 * bs.length)
    (u1 : Upd No w w1) (h1 : Blk w1 w.heap.size zarr0 50)
    (u2 : Upd (· = bs.getD (bs.length - 1) 0) w1 w2) (h2 : ∀ cs, Blk w1 (bs.getD (bs.length - 1) 0) cs 50 → Blk w2 (bs.getD (bs.length - 1) 0) (cs.setIfInBounds 80 (pB w.heap.size)) 50)
    (u3 : Upd (· = q) w2 w3) (h3 : Blk w3 q #[pB (bs.getD 0 0), pB w.heap.size, .int .i64 fr, .int .i64 xs.length] 52) :
    QI w3 q (bs ++ [w.heap.size]) fr xs := by
  have hp := h.pos
  have hfresh : ∀ i, i < bs.length → bs.getD i 0 < w.heap.size := fun i hi => h.foot_lt (.inr ⟨i, hi, rfl⟩)
  have hq : q < w.heap.size := h.foot_lt (.inl rfl)
  have hg : ∀ i, i < bs.length + 1 → (bs ++ [w.heap.size]).getD i 0 = if i < bs.length then bs.getD i 0 else w.heap.size := fun i hi => by
    split
    · rename_i hlt; exact getD_snoc_lt _ _ _ _ hlt
    · obtain rfl : i = bs.length := by omega
      exact getD_snoc_eq _ _ _
  refine ⟨h.small, by simp, fun i j hi hj e => ?_, fun i hi => ?_, by simp; omega, ?_, fun j hj => ?_⟩
  · simp only [List.length_append, List.length_singleton] at hi hj
    rw [hg i hi, hg j hj] at e
    split at e <;> split at e
    · exact h.nodup i j (by assumption) (by assumption) e
    · have := hfresh i (by assumption); omega
    · have := hfresh j (by assumption); omega
    · omega
  · simp only [List.length_append, List.length_singleton] at hi
    rw [hg i hi]
    split
    · exact h.notq i (by assumption)
    · omega
  · rw [show (bs ++ [w.heap.size]).length - 1 = bs.length by simp, getD_snoc_eq, getD_snoc_lt _ _ _ _ hp]; exact h3
  · simp only [List.length_append, List.length_singleton] at hj
    by_cases hjl : j < bs.length
    · obtain ⟨cs, hc⟩ := h.blks j hjl
      have hb1 := hc.blk.upd u1 id
      have hb2 : ∃ cs', Blk w2 (bs.getD j 0) cs' 50 ∧ cs'.size = 81 ∧ (∀ i, i < 80 → cs'[i]? = cs[i]?) ∧ (j + 1 < bs.length → cs'[80]? = cs[80]?) ∧ (j + 1 = bs.length → cs'[80]? = some (pB w.heap.size)) := by
        by_cases hlast : j = bs.length - 1
        · have hb1' := hb1
          rw [hlast] at hb1'
          refine ⟨_, by rw [hlast]; exact h2 _ hb1', by simp [hc.size], fun i hi => by rw [Array.getElem?_setIfInBounds_ne (by omega)], fun hx => by omega, fun _ => by rw [Array.getElem?_setIfInBounds_self_of_lt (by rw [hc.size]; omega)]⟩
        · exact ⟨cs, hb1.upd u2 fun e => hlast (h.nodup _ _ hjl (by omega) e), hc.size, fun _ _ => rfl, fun _ => rfl, fun hx => by omega⟩
      obtain ⟨cs', hb2, hs', hi', hl1, hl2⟩ := hb2
      refine ⟨cs', ⟨?_, hs', fun hx => ?_, fun k hk he => ?_⟩⟩
      · rw [hg j hj, if_pos hjl]; exact hb2.upd u3 (h.notq _ hjl)
      · simp only [List.length_append, List.length_singleton] at hx
        rw [hg (j + 1) (by omega)]
        split
        · rw [hl1 (by assumption)]; exact hc.link (by assumption)
        · exact hl2 (by omega)
      · have hi := hc.items k hk he
        have hm : (fr + k) % 16 < 16 := Nat.mod_lt _ (by omega)
        exact ⟨by rw [hi' _ (by omega)]; exact hi.c0, by rw [hi' _ (by omega)]; exact hi.c1, by rw [hi' _ (by omega)]; exact hi.c2, by rw [hi' _ (by omega)]; exact hi.c3, by rw [hi' _ (by omega)]; exact hi.c4⟩
    · obtain rfl : j = bs.length := by omega
      refine ⟨zarr0, ⟨?_, rfl, fun hx => by simp at hx, fun k hk he => by omega⟩⟩
      rw [getD_snoc_eq]
      refine (h1.upd u2 fun e => ?_).upd u3 (by omega)
      have := hfresh (bs.length - 1) (by omega)
      omega

set_option maxHeartbeats 1000000 in
theorem put_spec {w : World} {q : Nat} {bs : List Nat} {fr : Nat} {xs : List It} (h : QAt w q bs fr xs) (x : It) (hn : fr + xs.length < 9223372036854775806) :
    callC Try.prog 7 #[.pointer (some ⟨q, 0, none⟩), x.agg] w (PutPost q bs fr xs x w) := by
  refine put_vc _ _ _ _ _ _ _ _ ?_
  refine newC_mk fun w1 hbox u1 s1 => ?_
  refine brC_ff rfl ?_
  refine drawC_mk fun w2 u2 s2 => ?_
  have u12 : Upd No w w2 := u1.trans u2 fun _ _ e => e
  have q2 := h.toQI.upd u12 fun _ _ => id
  have hbox2 := hbox.upd u2 id
  have hfl : ∀ b, Foot q bs b → b < w.heap.size := fun b => h.toQI.foot_lt
  refine ⟨(fr : Int), q2.head.cell rfl, (xs.length : Int), q2.head.cell rfl, fun w => ∃ bs', Mid q bs fr xs x _ _ w bs', fun w8 ⟨bs', m⟩ d => put_rest hn m, ?_⟩
  refine ⟨fun b w' => w2 = w' ∧ (b = true ↔ (fr + xs.length) % 16 = 0 ∧ 0 < xs.length), fun b w' ⟨e, hb⟩ d => ?_, ?_⟩
  · subst e
    have hp := h.toQI.pos
    have hr := h.toQI.room
    refine brC_intro (fun hbt => ?_) fun hbf => ?_
    · have hx : xs ≠ [] := fun e => by rw [e] at hb; simp [hbt] at hb
      have ht := h.tight hx
      have hc := hb.1 hbt
      refine ⟨some ⟨bs.getD (bs.length - 1) 0, 0, none⟩, q2.head.cell rfl, ?_⟩
      refine newC_mk fun w3 h3 u3 s3 => ?_
      obtain ⟨cs, hcs⟩ := q2.blks (bs.length - 1) (by omega)
      have hb3 := hcs.blk.upd u3 id
      refine ptrC_some ?_
      refine stC_mk (i := 80) hb3 (by rw [hcs.size]; omega) fun w4 h4 u4 s4 => ?_
      have u4 : Upd (· = bs.getD (bs.length - 1) 0) w3 w4 := u4
      have hq4 := (q2.head.upd u3 id).upd u4 fun e => q2.notq (bs.length - 1) (by omega) e.symm
      refine ⟨some ⟨bs.getD (bs.length - 1) 0, 0, none⟩, hq4.cell rfl, ?_⟩
      refine ⟨some ⟨w2.heap.size, 0, none⟩, h4.cell (i := 80) (by rw [Array.getElem?_setIfInBounds_self_of_lt (by rw [hcs.size]; omega)]), ?_⟩
      refine ptrC_some ?_
      refine stC_mk (i := 1) hq4 (by simp) fun w5 h5 u5 s5 => ?_
      have u5 : Upd (· = q) w4 w5 := u5
      have hqi : QI w5 q (bs ++ [w2.heap.size]) fr xs := q2.grow (by omega) u3 h3 u4 (fun cs' hcs' => by rw [(hcs'.inj hb3).1]; exact h4) u5 h5
      have hqs : q < w.heap.size := hfl _ (.inl rfl)
      have hbl : bs.getD (bs.length - 1) 0 < w.heap.size := hfl _ (.inr ⟨_, by omega, rfl⟩)
      refine ⟨bs ++ [w2.heap.size], hqi, by simp; omega, ?_, ?_, ?_, ?_⟩
      · refine ((u12.no.trans u3 fun _ _ e => e.elim).trans u4 fun b _ e => ?_).trans u5 fun b _ e => .inl e
        exact .inr ⟨_, by omega, e⟩
      · exact ((hbox2.upd u3 id).upd u4 (fun e => by omega)).upd u5 (fun e => by omega)
      · rintro b (rfl | ⟨i, hi, rfl⟩)
        · exact .inl (.inl rfl)
        · simp only [List.length_append, List.length_singleton] at hi
          by_cases hib : i < bs.length
          · left; right; exact ⟨i, hib, getD_snoc_lt _ _ _ _ hib⟩
          · right
            obtain rfl : i = bs.length := by omega
            rw [getD_snoc_eq]; omega
      · rintro (e | ⟨i, hi, e⟩)
        · omega
        · simp only [List.length_append, List.length_singleton] at hi
          by_cases hib : i < bs.length
          · rw [getD_snoc_lt _ _ _ _ hib] at e
            have := hfl _ (.inr ⟨i, hib, rfl⟩); omega
          · obtain rfl : i = bs.length := by omega
            rw [getD_snoc_eq] at e; omega
    · refine ⟨bs, q2, ?_, u12.no, hbox2, fun b hb => .inl hb, fun hf => ?_⟩
      · by_cases hx : xs = []
        · have := h.none hx; subst hx; simp at *; omega
        · have ht := h.tight hx
          have hlen : 0 < xs.length := List.length_pos_iff.2 hx
          have hnot : ¬ ((fr + xs.length) % 16 = 0 ∧ 0 < xs.length) := fun e => by rw [hb.2 e] at hbf; cases hbf
          omega
      · have := hfl _ hf; omega
  · rw [idx_eq _ _ (by omega)]
    refine brC_intro (fun hbt => ?_) fun hbf => ?_
    · have h0 : (fr + xs.length) % 16 = 0 := by simp at hbt; omega
      refine ⟨(xs.length : Int), q2.head.cell rfl, rfl, ?_⟩
      simp [h0]
    · refine ⟨rfl, ?_⟩
      have h0 : ¬ (fr + xs.length) % 16 = 0 := by
        intro e; rw [e] at hbf; simp at hbf
      simp [h0]
end Go.Proofs.Ytkfbocfmiecblaa
