/- The queue in memory: what it reads as; Put, First, Take, Len, New keep it (contracts of (*lodger/queue.Queue)). -/
import Derived.Test.YtkfbocfmiecblaaVc
import Derived.Test.YtkfbocfmiecblaaHp
namespace Go.Proofs.Ytkfbocfmiecblaa
open Go.SX

structure It where
  conn : Int
  body : ByteArray
  now : Int
  nonce : ByteArray
  drawn : Bool
def It.agg (x : It) : Value := .agg #[.int .i64 x.conn, .string x.body, .int .u64 x.now, .string x.nonce, .bool x.drawn]
def It.zero : It := ⟨0, ByteArray.mk #[], 0, ByteArray.mk #[], false⟩

/-- the cells from o on are an item's. -/
structure ItAt (cs : Array Value) (o : Nat) (x : It) : Prop where
  c0 : cs[o]? = some (.int .i64 x.conn)
  c1 : cs[o + 1]? = some (.string x.body)
  c2 : cs[o + 2]? = some (.int .u64 x.now)
  c3 : cs[o + 3]? = some (.string x.nonce)
  c4 : cs[o + 4]? = some (.bool x.drawn)

def setIt (cs : Array Value) (o : Nat) (x : It) : Array Value :=
  ((((cs.setIfInBounds o (.int .i64 x.conn)).setIfInBounds (o + 1) (.string x.body)).setIfInBounds (o + 2) (.int .u64 x.now)).setIfInBounds (o + 3) (.string x.nonce)).setIfInBounds (o + 4) (.bool x.drawn)

theorem setIt_size (cs : Array Value) (o : Nat) (x : It) : (setIt cs o x).size = cs.size := by simp [setIt]
theorem setIt_other (cs : Array Value) (o : Nat) (x : It) (i : Nat) (h : i < o ∨ o + 4 < i) : (setIt cs o x)[i]? = cs[i]? := by
  unfold setIt
  rw [Array.getElem?_setIfInBounds_ne (by omega), Array.getElem?_setIfInBounds_ne (by omega), Array.getElem?_setIfInBounds_ne (by omega), Array.getElem?_setIfInBounds_ne (by omega), Array.getElem?_setIfInBounds_ne (by omega)]
theorem setIt_at (cs : Array Value) (o : Nat) (x : It) (h : o + 4 < cs.size) : ItAt (setIt cs o x) o x := by
  constructor
  · unfold setIt
    rw [Array.getElem?_setIfInBounds_ne (by omega), Array.getElem?_setIfInBounds_ne (by omega), Array.getElem?_setIfInBounds_ne (by omega), Array.getElem?_setIfInBounds_ne (by omega), Array.getElem?_setIfInBounds_self_of_lt (by omega)]
  · unfold setIt
    rw [Array.getElem?_setIfInBounds_ne (by omega), Array.getElem?_setIfInBounds_ne (by omega), Array.getElem?_setIfInBounds_ne (by omega), Array.getElem?_setIfInBounds_self_of_lt (by simp; omega)]
  · unfold setIt
    rw [Array.getElem?_setIfInBounds_ne (by omega), Array.getElem?_setIfInBounds_ne (by omega), Array.getElem?_setIfInBounds_self_of_lt (by simp; omega)]
  · unfold setIt
    rw [Array.getElem?_setIfInBounds_ne (by omega), Array.getElem?_setIfInBounds_self_of_lt (by simp; omega)]
  · unfold setIt
    rw [Array.getElem?_setIfInBounds_self_of_lt (by simp; omega)]
theorem ItAt.set {cs : Array Value} {o o' : Nat} {x y : It} (h : ItAt cs o x) (hd : o + 4 < o' ∨ o' + 4 < o) : ItAt (setIt cs o' y) o x :=
  ⟨by rw [setIt_other _ _ _ _ (by omega)]; exact h.c0, by rw [setIt_other _ _ _ _ (by omega)]; exact h.c1, by rw [setIt_other _ _ _ _ (by omega)]; exact h.c2,
    by rw [setIt_other _ _ _ _ (by omega)]; exact h.c3, by rw [setIt_other _ _ _ _ (by omega)]; exact h.c4⟩

def pB (b : Nat) : Value := .pointer (some ⟨b, 0, none⟩)

/-- A queue's block number j: its items, its link. -/
structure BlkAt (w : World) (bs : List Nat) (fr : Nat) (xs : List It) (j : Nat) (cs : Array Value) : Prop where
  blk : Blk w (bs.getD j 0) cs 50
  size : cs.size = 81
  link : j + 1 < bs.length → cs[80]? = some (pB (bs.getD (j + 1) 0))
  items : ∀ k, k < xs.length → (fr + k) / 16 = j → ItAt cs ((fr + k) % 16 * 5) (xs.getD k It.zero)

/-- A queue of blocks bs, its first item at place fr. -/
structure QI (w : World) (q : Nat) (bs : List Nat) (fr : Nat) (xs : List It) : Prop where
  small : fr < 16
  pos : 0 < bs.length
  nodup : ∀ i j, i < bs.length → j < bs.length → bs.getD i 0 = bs.getD j 0 → i = j
  notq : ∀ i, i < bs.length → bs.getD i 0 ≠ q
  room : fr + xs.length ≤ 16 * bs.length
  head : Blk w q #[pB (bs.getD 0 0), pB (bs.getD (bs.length - 1) 0), .int .i64 fr, .int .i64 xs.length] 52
  blks : ∀ j, j < bs.length → ∃ cs, BlkAt w bs fr xs j cs

structure QAt (w : World) (q : Nat) (bs : List Nat) (fr : Nat) (xs : List It) : Prop where
  toQI : QI w q bs fr xs
  tight : xs ≠ [] → 16 * bs.length < fr + xs.length + 16
  none : xs = [] → fr = 0 ∧ bs.length = 1

def Foot (q : Nat) (bs : List Nat) : Nat → Prop := fun b => b = q ∨ ∃ i, i < bs.length ∧ b = bs.getD i 0

theorem BlkAt.upd {w w' : World} {bs : List Nat} {fr : Nat} {xs : List It} {j : Nat} {cs : Array Value} (h : BlkAt w bs fr xs j cs) {S : Nat → Prop} (u : Upd S w w') (hn : ¬ S (bs.getD j 0)) : BlkAt w' bs fr xs j cs :=
  ⟨h.blk.upd u hn, h.size, h.link, h.items⟩
theorem QI.upd {w w' : World} {q : Nat} {bs : List Nat} {fr : Nat} {xs : List It} (h : QI w q bs fr xs) {S : Nat → Prop} (u : Upd S w w') (hn : ∀ b, Foot q bs b → ¬ S b) : QI w' q bs fr xs :=
  ⟨h.small, h.pos, h.nodup, h.notq, h.room, h.head.upd u (hn _ (.inl rfl)), fun j hj => let ⟨cs, hc⟩ := h.blks j hj; ⟨cs, hc.upd u (hn _ (.inr ⟨j, hj, rfl⟩))⟩⟩
theorem QAt.upd {w w' : World} {q : Nat} {bs : List Nat} {fr : Nat} {xs : List It} (h : QAt w q bs fr xs) {S : Nat → Prop} (u : Upd S w w') (hn : ∀ b, Foot q bs b → ¬ S b) : QAt w' q bs fr xs :=
  ⟨h.toQI.upd u hn, h.tight, h.none⟩
theorem QI.foot_lt {w : World} {q : Nat} {bs : List Nat} {fr : Nat} {xs : List It} (h : QI w q bs fr xs) {b : Nat} (hb : Foot q bs b) : b < w.heap.size := by
  rcases hb with rfl | ⟨i, hi, rfl⟩
  · exact h.head.lt
  · obtain ⟨cs, hc⟩ := h.blks i hi; exact hc.blk.lt

theorem zarr_size : zarr0.size = 81 := rfl
set_option maxHeartbeats 400000 in
/-- New: an empty queue, in memory of its own. -/
theorem new_spec (w : World) : callC Try.prog 6 #[] w fun v w' => ∃ q b, v = .pointer (some ⟨q, 0, none⟩) ∧ QAt w' q [b] 0 [] ∧ Upd No w w' ∧ w.heap.size ≤ q ∧ w.heap.size ≤ b := by
  refine new_vc _ _ ?_
  refine newC_mk fun w1 h1 u1 s1 => ?_
  refine newC_mk fun w2 h2 u2 s2 => ?_
  refine ⟨_, w.heap.size, rfl, ⟨⟨by omega, by simp, fun i j hi hj _ => by simp at hi hj; omega, fun i hi => ?_, by simp, ?_, fun j hj => ?_⟩, fun h => absurd rfl h, fun _ => ⟨rfl, rfl⟩⟩, u1.trans u2 fun _ _ x => x, by omega, by omega⟩
  · simp at hi; subst hi; simp; omega
  · exact h2
  · simp at hj; subst hj
    exact ⟨_, h1.upd u2 id, rfl, fun h => by simp at h, fun k hk => by simp at hk⟩

/-- Len: how many. -/
theorem len_spec {w : World} {q : Nat} {bs : List Nat} {fr : Nat} {xs : List It} (h : QI w q bs fr xs) :
    callC Try.prog 14 #[.pointer (some ⟨q, 0, none⟩)] w fun v w' => v = .int .i64 xs.length ∧ w = w' := by
  refine len_vc _ _ _ ?_
  exact ⟨xs.length, h.head.cell rfl, rfl, rfl⟩
end Go.Proofs.Ytkfbocfmiecblaa
