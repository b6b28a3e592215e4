/- Take: the contract. -/
import Derived.Test.YtkfbocfmiecblaaQ3
namespace Go.Proofs.Ytkfbocfmiecblaa
open Go.SX

theorem runC_of {P : Program} {α : Type} {e : Sem α} {w : World} {K : α → World → Prop} (h : semVC P e K w) : runC P e w K := by
  have := semVC_sound P e K (fun _ _ => False) w h
  rw [Sem.wp_iff_run] at this
  cases hr : e.run P w with
  | ok a w' => rw [hr] at this; exact ⟨a, w', hr, this⟩
  | halt x w' => rw [hr] at this; exact this.elim

set_option maxRecDepth 100000 in
theorem clear1 (w : World) (b o c : Nat) (K : Value → World → Prop)
    (h : stC w ⟨b, o, none⟩ (.int .i64 0) fun w => stC w ⟨b, o + 1, none⟩ (.string (ByteArray.mk #[])) fun w => stC w ⟨b, o + 2, none⟩ (.int .u64 0) fun w => stC w ⟨b, o + 3, none⟩ (.string (ByteArray.mk #[])) fun w => stC w ⟨b, o + 4, none⟩ (.bool false) fun w => K (.tuple #[]) w) :
    runC Try.prog (Builtin.clear_ #[53] 0 #[.slice (some ⟨b, o, none⟩) 1 c]) w K := by
  have key : (true = true ∧ (stC w ⟨b, o, none⟩ (.int .i64 0) fun w => (true = true ∧ (stC w ⟨b, o + 1, none⟩ (.string (ByteArray.mk #[])) fun w => (true = true ∧ (stC w ⟨b, o + 2, none⟩ (.int .u64 0) fun w => (true = true ∧ (stC w ⟨b, o + 3, none⟩ (.string (ByteArray.mk #[])) fun w => (true = true ∧ (stC w ⟨b, o + 4, none⟩ (.bool false) fun w => (K (.tuple #[]) w))))))))))) = semVC Try.prog (Builtin.clear_ #[53] 0 #[.slice (some ⟨b, o, none⟩) 1 c]) K w := by kernel_rfl
  refine runC_of (of_eq ?_ key)
  exact ⟨rfl, h.1, h.2.1, rfl, h.2.2.1, h.2.2.2.1, rfl, h.2.2.2.2.1, h.2.2.2.2.2.1, rfl, h.2.2.2.2.2.2.1, h.2.2.2.2.2.2.2.1, rfl, h.2.2.2.2.2.2.2.2.1, h.2.2.2.2.2.2.2.2.2.1, h.2.2.2.2.2.2.2.2.2.2⟩

/-- behind the taking of the first one. -/
structure Taken (q : Nat) (bs : List Nat) (fr : Nat) (xs : List It) (w : World) : Prop where
  small : fr < 16
  pos : 0 < bs.length
  nodup : ∀ i j, i < bs.length → j < bs.length → bs.getD i 0 = bs.getD j 0 → i = j
  notq : ∀ i, i < bs.length → bs.getD i 0 ≠ q
  room : fr + 1 + xs.length ≤ 16 * bs.length
  tight : 16 * bs.length < fr + 1 + xs.length + 16
  head : Blk w q #[pB (bs.getD 0 0), pB (bs.getD (bs.length - 1) 0), .int .i64 ((fr : Int) + 1), .int .i64 xs.length] 52
  blks : ∀ j, j < bs.length → ∃ cs, BlkAt w bs (fr + 1) xs j cs

theorem Taken.upd {q : Nat} {bs : List Nat} {fr : Nat} {xs : List It} {w w' : World} (h : Taken q bs fr xs w) {S : Nat → Prop} (u : Upd S w w') (hn : ∀ b, Foot q bs b → ¬ S b) : Taken q bs fr xs w' :=
  ⟨h.small, h.pos, h.nodup, h.notq, h.room, h.tight, h.head.upd u (hn _ (.inl rfl)), fun j hj => let ⟨cs, hc⟩ := h.blks j hj; ⟨cs, hc.upd u (hn _ (.inr ⟨j, hj, rfl⟩))⟩⟩

def TakePost (q : Nat) (bs : List Nat) (x : It) (xs : List It) (w : World) (v : Value) (w' : World) : Prop :=
  v = .tuple #[x.agg, .bool true] ∧ ∃ bs' fr', QAt w' q bs' fr' xs ∧ Upd (Foot q bs) w w' ∧ ∀ b, Foot q bs' b → Foot q bs b

/-- the clearing, and the two stores. -/
theorem QAt.taken {w w1 w2 w3 : World} {q : Nat} {bs : List Nat} {fr : Nat} {x : It} {xs : List It} (h : QAt w q bs fr (x :: xs))
    (u1 : Upd (· = bs.getD 0 0) w w1) (h1 : ∀ cs, Blk w (bs.getD 0 0) cs 50 → Blk w1 (bs.getD 0 0) (setIt cs (fr * 5) It.zero) 50)
    (u2 : Upd (· = q) w1 w2) (u3 : Upd (· = q) w2 w3)
    (h3 : Blk w3 q #[pB (bs.getD 0 0), pB (bs.getD (bs.length - 1) 0), .int .i64 ((fr : Int) + 1), .int .i64 xs.length] 52) : Taken q bs fr xs w3 := by
  have hi := h.toQI
  have ht := h.tight (by simp)
  have hr := hi.room
  simp only [List.length_cons] at ht hr
  refine ⟨hi.small, hi.pos, hi.nodup, hi.notq, by omega, by omega, h3, fun j hj => ?_⟩
  obtain ⟨cs, hc⟩ := hi.blks j hj
  have hs := hi.small
  have hsz := hc.size
  have hgd : ∀ k, (x :: xs).getD (k + 1) It.zero = xs.getD k It.zero := fun k => by simp
  by_cases hj0 : j = 0
  · subst hj0
    refine ⟨setIt cs (fr * 5) It.zero, ((h1 _ hc.blk).upd u2 (hi.notq _ hj)).upd u3 (hi.notq _ hj), by rw [setIt_size]; exact hsz, fun hl => ?_, fun k hk he => ?_⟩
    · rw [setIt_other _ _ _ _ (by omega)]; exact hc.link hl
    · have := hc.items (k + 1) (by simp; omega) (by omega)
      rw [hgd, show fr + (k + 1) = fr + 1 + k by omega] at this
      exact this.set (by omega)
  · refine ⟨cs, ((hc.blk.upd u1 fun e => hj0 (hi.nodup _ _ hj hi.pos e)).upd u2 (hi.notq _ hj)).upd u3 (hi.notq _ hj), hsz, hc.link, fun k hk he => ?_⟩
    have := hc.items (k + 1) (by simp; omega) (by omega)
    rw [hgd, show fr + (k + 1) = fr + 1 + k by omega] at this
    exact this

theorem Taken.plain {q : Nat} {bs : List Nat} {fr : Nat} {xs : List It} {w : World} (h : Taken q bs fr xs w) (hx : xs ≠ []) (hf : fr + 1 < 16) : QAt w q bs (fr + 1) xs :=
  ⟨⟨hf, h.pos, h.nodup, h.notq, h.room, h.head, h.blks⟩, fun _ => h.tight, fun e => absurd e hx⟩

theorem Taken.turn {q : Nat} {bs : List Nat} {fr : Nat} {xs : List It} {w w1 w2 : World} (h : Taken q bs fr xs w) (hx : xs ≠ []) (hf : fr + 1 = 16)
    (u1 : Upd (· = q) w w1) (u2 : Upd (· = q) w1 w2) (h2 : Blk w2 q #[pB (bs.getD 1 0), pB (bs.getD (bs.length - 1) 0), .int .i64 0, .int .i64 xs.length] 52) : QAt w2 q bs.tail 0 xs := by
  have hl : 0 < xs.length := List.length_pos_iff.2 hx
  have hr := h.room
  have ht := h.tight
  have hlen : bs.tail.length + 1 = bs.length := by simp; omega
  have hg : ∀ i, bs.tail.getD i 0 = bs.getD (i + 1) 0 := fun i => by simp [List.getD_eq_getElem?_getD]
  refine ⟨⟨by omega, by omega, fun i j hi hj e => ?_, fun i hi => ?_, by omega, ?_, fun j hj => ?_⟩, fun _ => by omega, fun e => absurd e hx⟩
  · rw [hg, hg] at e
    have := h.nodup _ _ (by omega) (by omega) e
    omega
  · rw [hg]; exact h.notq _ (by omega)
  · rw [hg, hg, show bs.tail.length - 1 + 1 = bs.length - 1 by omega]; exact h2
  · obtain ⟨cs, hc⟩ := h.blks (j + 1) (by omega)
    refine ⟨cs, ?_, hc.size, fun hlk => ?_, fun k hk he => ?_⟩
    · rw [hg]; exact (hc.blk.upd u1 (h.notq _ (by omega))).upd u2 (h.notq _ (by omega))
    · rw [hg]; exact hc.link (by omega)
    · have := hc.items k hk (by omega)
      rw [show (fr + 1 + k) % 16 = (0 + k) % 16 by omega] at this
      exact this

theorem Taken.last {q : Nat} {bs : List Nat} {fr : Nat} {w w1 w2 w3 : World} (h : Taken q bs fr [] w)
    (u1 : Upd (· = q) w w1) (u2 : Upd (· = q) w1 w2) (h2 : Blk w2 q #[pB (bs.getD 0 0), pB (bs.getD 0 0), .int .i64 0, .int .i64 0] 52)
    (u3 : Upd (· = bs.getD 0 0) w2 w3) (h3 : ∀ cs, Blk w2 (bs.getD 0 0) cs 50 → cs.size = 81 → ∃ cs', Blk w3 (bs.getD 0 0) cs' 50 ∧ cs'.size = 81) : QAt w3 q bs 0 [] := by
  have hp := h.pos
  have ht := h.tight
  have hs := h.small
  simp only [List.length_nil] at ht
  have hlen : bs.length = 1 := by omega
  refine ⟨⟨by omega, hp, h.nodup, h.notq, by simp, ?_, fun j hj => ?_⟩, fun e => absurd rfl e, fun _ => ⟨rfl, hlen⟩⟩
  · rw [hlen]; exact h2.upd u3 fun e => h.notq 0 hp e.symm
  · obtain ⟨cs, hc⟩ := h.blks j hj
    obtain rfl : j = 0 := by omega
    obtain ⟨cs', h4, h5⟩ := h3 cs ((hc.blk.upd u1 (h.notq _ hp)).upd u2 (h.notq _ hp)) hc.size
    exact ⟨cs', h4, h5, fun hl => by omega, fun k hk => by simp at hk⟩
end Go.Proofs.Ytkfbocfmiecblaa
