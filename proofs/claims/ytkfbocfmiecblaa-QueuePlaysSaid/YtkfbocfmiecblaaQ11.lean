/- QueuePlays: the walk. -/
import Derived.Test.YtkfbocfmiecblaaQ10
import Derived.Test.YtkfbocfmiecblaaVe
namespace Go.Proofs.Ytkfbocfmiecblaa
open Go.SX

theorem lds_slice {w : World} {b : Nat} {p : Option Addr} {n c : Nat} (h : w.cell? ⟨b, 0, none⟩ = some (.slice p n c)) : Lds Try.prog 27 w ⟨b, 0, none⟩ (.slice p n c) := by
  have key : (∃ p' n' c', w.cell? ⟨b, 0, none⟩ = some (.slice p' n' c') ∧ .slice p' n' c' = Value.slice p n c) = ldVC Try.prog 27 w ⟨b, 0, none⟩ (fun v => v = .slice p n c) := by kernel_rfl
  obtain ⟨v, rfl, hr⟩ := semR_out (ldVC_sound (of_eq ⟨_, _, _, h, rfl⟩ key))
  exact hr w rfl
theorem lds_item {w : World} {b : Nat} {cs : Array Value} {t : TypeId} {x : It} (hb : Blk w b cs t) (hx : ItAt cs 0 x) : Lds Try.prog 32 w ⟨b, 0, none⟩ (.agg #[.int .i64 x.conn, .string x.body, .int .u64 x.now, .string x.nonce, .bool x.drawn]) := by
  have key : (∃ n0, w.cell? ⟨b, 0, none⟩ = some (.int .i64 n0) ∧ ∃ s1, w.cell? ⟨b, 1, none⟩ = some (.string s1) ∧ ∃ n2, w.cell? ⟨b, 2, none⟩ = some (.int .u64 n2) ∧ ∃ s3, w.cell? ⟨b, 3, none⟩ = some (.string s3) ∧ ∃ b4, w.cell? ⟨b, 4, none⟩ = some (.bool b4) ∧
      Value.agg #[.int .i64 n0, .string s1, .int .u64 n2, .string s3, .bool b4] = x.agg) = ldVC Try.prog 32 w ⟨b, 0, none⟩ (fun v => v = x.agg) := by kernel_rfl
  obtain ⟨v, rfl, hr⟩ := semR_out (ldVC_sound (of_eq ⟨_, hb.cell hx.c0, _, hb.cell hx.c1, _, hb.cell hx.c2, _, hb.cell hx.c3, _, hb.cell hx.c4, rfl⟩ key))
  exact hr w rfl
theorem neq_same (x : It) (ox oy : Operand) (ow : Option World) {K : Value → Prop} (h : K (.bool false)) : runR Try.prog (eqSem .neq 32 ox oy x.agg x.agg) ow K :=
  ⟨_, h, fun w' _ => by have := (eqSem_run u32 s32 g32 (f32 x x) ox oy w').2; rw [itEq_self] at this; exact this⟩

/-- what the law reads of its first argument: f i, item i. -/
def MadeAt (W : World) (x0 : Option Addr) (l : Nat) (f : Nat → It) : Prop :=
  ∀ i, i < l → ∃ a : Addr, x0 = some a ∧ W.cell? (Addr.add a (i * 5)) = some (.int .i64 (f i).conn) ∧ W.cell? (Addr.add (Addr.add a (i * 5)) 1) = some (.string (f i).body) ∧
    W.cell? (Addr.add (Addr.add a (i * 5)) 2) = some (.string (f i).nonce) ∧ W.cell? (Addr.add (Addr.add a (i * 5)) 3) = some (.int .u64 (f i).now) ∧ W.cell? (Addr.add (Addr.add a (i * 5)) 4) = some (.bool (f i).drawn)
def ActsAt (W : World) (x1 : Option Addr) (l : Nat) : Prop := ∀ i, i < l → ∃ (a : Addr) (n : Int), x1 = some a ∧ W.cell? (Addr.add a (i * 1)) = some (.int .u8 n)

theorem subP_zero (x : Option Addr) (c s : Nat) : subP x c 0 s = x := by
  unfold subP
  split
  · rfl
  · cases x with
    | none => rfl
    | some a => rw [Option.map_some, Nat.zero_mul]; rfl

/-- 'item(l[n%len(l)])'. -/
theorem fetch {W w : World} {x0 : Option Addr} {x0l x0c L : Nat} {f : Nat → It} (hm : MadeAt W x0 x0l f) (u : Upd No W w) (n : Nat) (h0 : 0 < L) (hl : L ≤ x0l) {K : Int → ByteArray → Int → ByteArray → Bool → World → Prop}
    (hk : ∀ w', Upd No w w' → K (f (n % L)).conn (f (n % L)).body (f (n % L)).now (f (n % L)).nonce (f (n % L)).drawn w') :
    brC ((L : Int) != 0) (idxC (Int.tmod n L) L (ptrC (subP x0 x0c 0 5) fun a => ∃ n1, w.cell? (Addr.add a (Int.toNat (Int.tmod n L) * 5)) = some (.int .i64 n1) ∧ ∃ s2, w.cell? (Addr.add (Addr.add a (Int.toNat (Int.tmod n L) * 5)) 1) = some (.string s2) ∧
      ∃ s3, w.cell? (Addr.add (Addr.add a (Int.toNat (Int.tmod n L) * 5)) 2) = some (.string s3) ∧ ∃ n4, w.cell? (Addr.add (Addr.add a (Int.toNat (Int.tmod n L) * 5)) 3) = some (.int .u64 n4) ∧ ∃ b5, w.cell? (Addr.add (Addr.add a (Int.toNat (Int.tmod n L) * 5)) 4) = some (.bool b5) ∧
      callC Try.prog 8 #[.agg #[.int .i64 n1, .string s2, .string s3, .int .u64 n4, .bool b5]] w fun v w' => ∃ n6 s7 n8 s9 b10, v = .agg #[.int .i64 n6, .string s7, .int .u64 n8, .string s9, .bool b10] ∧ K n6 s7 n8 s9 b10 w')) False := by
  have e : Int.tmod (n : Int) (L : Int) = ((n % L : Nat) : Int) := by rw [← Int.ofNat_tmod]
  have hlt : n % L < L := Nat.mod_lt _ h0
  rw [e, Int.toNat_natCast, subP_zero]
  obtain ⟨a, rfl, c0, c1, c2, c3, c4⟩ := hm (n % L) (by omega)
  refine brC_tt (by simp; omega) ⟨by omega, by omega, ptrC_some ⟨_, cell_upd c0 u, _, cell_upd c1 u, _, cell_upd c2 u, _, cell_upd c3 u, _, cell_upd c4 u, ?_⟩⟩
  exact callC_of (item_spec (f (n % L)) w) fun v w' ⟨hv, hu⟩ => ⟨_, _, _, _, _, hv, hk w' hu⟩

def F (f : Nat → It) (L : Nat) (n : Nat) : It := f (n % L)
def nat (ms : List Nat) : List Int := ms.map fun n : Nat => (n : Int)
theorem nat_pos (ms : List Nat) : ∀ n ∈ nat ms, 0 ≤ n := by
  intro n hn
  obtain ⟨m, _, rfl⟩ := List.mem_map.1 hn
  omega

structure PI (W : World) (f : Nat → It) (L q k : Nat) (N : Nat) (ms : List Nat) (bs : List Nat) (v : Value) (w : World) : Prop where
  few : ms.length ≤ N
  none : L = 0 → ms = []
  st : St W w q bs (ms.map (F f L)) k v (nat ms)

end Go.Proofs.Ytkfbocfmiecblaa
