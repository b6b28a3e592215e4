/- Blocks of memory: facts on worlds for texts of the engine. Nothing of a program stands here. -/
import Derived.Test.YtpddhbdjcgkjcaaGreatDoorSz
import Derived.IntWalk
import Derived.Laws.StructEq
namespace Go.SX

theorem add_mk (b o n : Nat) : Addr.add ⟨b, o, none⟩ n = ⟨b, o + n, none⟩ := by
  unfold Addr.add
  split
  · rename_i h; subst h; rfl
  · rfl

/-- block b is a row of cells that no string shares. -/
def Blk (w : World) (b : Nat) (cs : Array Value) (t : TypeId) : Prop := w.heap[b]? = some (.cells cs t (0, 0))

theorem Blk.lt {w : World} {b : Nat} {cs : Array Value} {t : TypeId} (h : Blk w b cs t) : b < w.heap.size := by
  unfold Blk at h
  rcases Nat.lt_or_ge b w.heap.size with h' | h'
  · exact h'
  · rw [Array.getElem?_eq_none h'] at h; cases h
theorem Blk.cell {w : World} {b : Nat} {cs : Array Value} {t : TypeId} (h : Blk w b cs t) {i : Nat} {v : Value} (hi : cs[i]? = some v) : w.cell? ⟨b, i, none⟩ = some v := by
  unfold Blk at h
  simp [World.cell?, h, hi]
theorem Blk.frozen {w : World} {b : Nat} {cs : Array Value} {t : TypeId} (h : Blk w b cs t) (i : Nat) : w.frozen? ⟨b, i, none⟩ = false := by
  unfold Blk at h
  simp [World.frozen?, h]
theorem Blk.inj {w : World} {b : Nat} {cs cs' : Array Value} {t t' : TypeId} (h : Blk w b cs t) (h' : Blk w b cs' t') : cs = cs' ∧ t = t' := by
  unfold Blk at h h'
  rw [h] at h'
  simp at h'
  exact h'

/-- From w to w' nothing that was there has turned but the blocks of S. -/
structure Upd (S : Nat → Prop) (w w' : World) : Prop where
  os : w'.os = w.os
  tape : w'.tape = w.tape
  output : w'.output = w.output
  size : w.heap.size ≤ w'.heap.size
  block : ∀ b, b < w.heap.size → ¬ S b → w'.heap[b]? = w.heap[b]?

def No : Nat → Prop := fun _ => False
theorem Upd.refl (S : Nat → Prop) (w : World) : Upd S w w := ⟨rfl, rfl, rfl, Nat.le_refl _, fun _ _ _ => rfl⟩
theorem Upd.trans {S T : Nat → Prop} {a b c : World} (h : Upd S a b) (k : Upd T b c) (hs : ∀ x, x < a.heap.size → T x → S x) : Upd S a c :=
  ⟨k.os.trans h.os, k.tape.trans h.tape, k.output.trans h.output, Nat.le_trans h.size k.size,
    fun i hi hn => (k.block i (Nat.lt_of_lt_of_le hi h.size) (fun ht => hn (hs i hi ht))).trans (h.block i hi hn)⟩
theorem Upd.mono {S T : Nat → Prop} {a b : World} (h : Upd S a b) (hs : ∀ x, x < a.heap.size → S x → T x) : Upd T a b :=
  ⟨h.os, h.tape, h.output, h.size, fun i hi hn => h.block i hi fun x => hn (hs i hi x)⟩
theorem Upd.no {S : Nat → Prop} {a b : World} (h : Upd No a b) : Upd S a b := h.mono fun _ _ x => x.elim
theorem Blk.upd {S : Nat → Prop} {w w' : World} {b : Nat} {cs : Array Value} {t : TypeId} (h : Blk w b cs t) (u : Upd S w w') (hn : ¬ S b) : Blk w' b cs t := by
  unfold Blk; rw [u.block b h.lt hn]; exact h

theorem heap_setCell_ne (w : World) (a : Addr) (v : Value) (b : Nat) (h : b ≠ a.block) : (w.setCell a v).heap[b]? = w.heap[b]? := by
  simp only [World.setCell, Array.getElem?_modify]
  rw [if_neg (fun e => h e.symm)]
theorem Blk.set {w : World} {b : Nat} {cs : Array Value} {t : TypeId} (h : Blk w b cs t) (i : Nat) (v : Value) : Blk (w.setCell ⟨b, i, none⟩ v) b (cs.setIfInBounds i v) t := by
  unfold Blk at *
  simp [World.setCell, Array.getElem?_modify, h]
theorem upd_setCell (w : World) (b i : Nat) (v : Value) : Upd (· = b) w (w.setCell ⟨b, i, none⟩ v) :=
  ⟨rfl, rfl, rfl, by simp [World.setCell], fun x _ hx => heap_setCell_ne w _ v x hx⟩
theorem upd_alloc (w : World) (o : Obj) : Upd No w (w.alloc o) :=
  ⟨rfl, rfl, rfl, by simp, fun x hx _ => by
    show (w.heap.push o)[x]? = _
    rw [Array.getElem?_push, if_neg (by omega)]⟩
theorem blk_alloc (w : World) (cs : Array Value) (t : TypeId) : Blk (w.alloc (.cells cs t)) w.heap.size cs t := by
  show (w.heap.push _)[w.heap.size]? = _
  simp

/-! ### the words -/
theorem brC_tt {b : Bool} {t e : Prop} (hb : b = true) (h : t) : brC b t e := by subst hb; exact h
theorem brC_ff {b : Bool} {t e : Prop} (hb : b = false) (h : e) : brC b t e := by subst hb; exact h

theorem newC_mk {w : World} {cs : Array Value} {t : TypeId} {K : Nat → World → Prop}
    (h : ∀ w', Blk w' w.heap.size cs t → Upd No w w' → w'.heap.size = w.heap.size + 1 → K w.heap.size w') : newC w (.cells cs t) K :=
  h _ (blk_alloc w cs t) (upd_alloc w _) (by simp)
theorem drawC_mk {w : World} {K : World → Prop} (h : ∀ w', Upd No w w' → w'.heap.size = w.heap.size → K w') : drawC w K :=
  h _ ⟨rfl, rfl, rfl, Nat.le_refl _, fun _ _ _ => rfl⟩ rfl
theorem stC_mk {w : World} {b i : Nat} {cs : Array Value} {t : TypeId} {v : Value} {K : World → Prop} (hb : Blk w b cs t) (hi : i < cs.size)
    (h : ∀ w', Blk w' b (cs.setIfInBounds i v) t → Upd (· = b) w w' → w'.heap.size = w.heap.size → K w') : stC w ⟨b, i, none⟩ v K :=
  ⟨⟨cs[i], hb.cell (by simp [hi])⟩, hb.frozen i, h _ (hb.set i v) (upd_setCell w b i v) (by simp [World.setCell])⟩
theorem callC_of {P : Program} {f : FuncId} {args : Array Value} {w : World} {K R : Value → World → Prop} (h : callC P f args w R) (hk : ∀ v w', R v w' → K v w') : callC P f args w K :=
  callC_mono h hk
/-- five stores, one behind the other, in one block. -/
theorem st5 {w : World} {b i : Nat} {cs : Array Value} {t : TypeId} {v0 v1 v2 v3 v4 : Value} {K : World → Prop} (hb : Blk w b cs t) (hi : i + 4 < cs.size)
    (h : ∀ w', Blk w' b (((((cs.setIfInBounds i v0).setIfInBounds (i + 1) v1).setIfInBounds (i + 2) v2).setIfInBounds (i + 3) v3).setIfInBounds (i + 4) v4) t → Upd (· = b) w w' → w'.heap.size = w.heap.size → K w') :
    stC w ⟨b, i, none⟩ v0 fun w => stC w ⟨b, i + 1, none⟩ v1 fun w => stC w ⟨b, i + 2, none⟩ v2 fun w => stC w ⟨b, i + 3, none⟩ v3 fun w => stC w ⟨b, i + 4, none⟩ v4 K := by
  refine stC_mk hb (by omega) fun w1 h1 u1 s1 => ?_
  refine stC_mk h1 (by simp; omega) fun w2 h2 u2 s2 => ?_
  refine stC_mk h2 (by simp; omega) fun w3 h3 u3 s3 => ?_
  refine stC_mk h3 (by simp; omega) fun w4 h4 u4 s4 => ?_
  refine stC_mk h4 (by simp; omega) fun w5 h5 u5 s5 => ?_
  exact h w5 h5 ((((u1.trans u2 fun _ _ x => x).trans u3 fun _ _ x => x).trans u4 fun _ _ x => x).trans u5 fun _ _ x => x) (by omega)

/-! ### equality of structs of integers, bools, strings -/
def eqFlat (P : Program) (xs ys : Array Value) : List Field → Option Bool
  | [] => some true
  | f :: fs =>
    match f.name == "_" with
    | true => eqFlat P xs ys fs
    | false =>
      match P.underlying f.type, xs[f.offset]?, ys[f.offset]? with
      | some (.int _), some (.int k a), some (.int k' b) => (match beqK k k' with
        | true => (match eqFlat P xs ys fs with | some r => some (a == b && r) | none => none)
        | false => none)
      | some .bool, some (.bool a), some (.bool b) => (match eqFlat P xs ys fs with | some r => some (a == b && r) | none => none)
      | some .string, some (.string a), some (.string b) => (match eqFlat P xs ys fs with | some r => some (a.toList == b.toList && r) | none => none)
      | _, _, _ => none

theorem run_part_one {P : Program} {t : TypeId} {d : TypeDesc} {cs : Array Value} {off : Nat} {v : Value} (hd : P.underlying t = some d) (hn : isAggT P t = false) (hv : cs[off]? = some v) (w : World) : (part t cs off).run P w = .ok v w := by
  have h : semR P (part t cs off) (fun x => x = v) none := by
    unfold part
    rw [semR_bind, semR_isAgg hd, hn]
    simp only [Bool.false_eq_true, if_false, hv, semR_pure]
  obtain ⟨a, rfl, hr⟩ := semR_out h
  exact hr w trivial

theorem eqFlat_run {P : Program} {xs ys : Array Value} (d : Nat) (w : World) : ∀ (fs : List Field) (r : Bool), eqFlat P xs ys fs = some r → (Op.eqFields (d + 1) xs ys fs).run P w = .ok r w
  | [], r, h => by cases h; rfl
  | f :: fs, r, h => by
    unfold eqFlat at h
    unfold Op.eqFields
    split at h
    · rename_i hn
      rw [if_neg (by simpa using hn)]
      exact eqFlat_run d w fs r h
    · rename_i hn
      rw [if_pos (by simpa using hn)]
      split at h
      · rename_i k0 k a k' b hu hx hy
        have hag : isAggT P f.type = false := by unfold isAggT; rw [hu]
        split at h
        · rename_i hk
          have := beqK_eq hk
          subst this
          cases hr : eqFlat P xs ys fs with
          | none => rw [hr] at h; cases h
          | some r' =>
            rw [hr] at h
            have ih := eqFlat_run d w fs r' hr
            cases h
            rw [Sem.run_bind, run_part_one hu hag hx w, Result.andThen_ok, Sem.run_bind, run_part_one hu hag hy w, Result.andThen_ok, Sem.run_bind, run_equalIn_int w d f.type k k0 a b hu, Result.andThen_ok]
            cases hab : a == b
            · rfl
            · exact ih
        · cases h
      · rename_i a b hu hx hy
        have hag : isAggT P f.type = false := by unfold isAggT; rw [hu]
        cases hr : eqFlat P xs ys fs with
        | none => rw [hr] at h; cases h
        | some r' =>
          rw [hr] at h
          have ih := eqFlat_run d w fs r' hr
          cases h
          rw [Sem.run_bind, run_part_one hu hag hx w, Result.andThen_ok, Sem.run_bind, run_part_one hu hag hy w, Result.andThen_ok, Sem.run_bind, run_equalIn_bool' w d f.type a b hu, Result.andThen_ok]
          cases hab : a == b
          · rfl
          · exact ih
      · rename_i a b hu hx hy
        have hag : isAggT P f.type = false := by unfold isAggT; rw [hu]
        cases hr : eqFlat P xs ys fs with
        | none => rw [hr] at h; cases h
        | some r' =>
          rw [hr] at h
          have ih := eqFlat_run d w fs r' hr
          cases h
          rw [Sem.run_bind, run_part_one hu hag hx w, Result.andThen_ok, Sem.run_bind, run_part_one hu hag hy w, Result.andThen_ok, Sem.run_bind, run_equalIn_string w d f.type a b hu, Result.andThen_ok]
          cases hab : a.toList == b.toList
          · rfl
          · exact ih
      · cases h

theorem eqSem_run {P : Program} {t : TypeId} {fs : Array Field} (hu : P.underlying t = some (.struct fs)) (hs : P.stoodInHeld t = false) (hg : P.eqGuardType P.depth t = false) {xs ys : Array Value} {r : Bool}
    (he : eqFlat P xs ys fs.toList = some r) (ox oy : Operand) (w : World) :
    (eqSem .eql t ox oy (.agg xs) (.agg ys)).run P w = .ok (.bool r) w ∧ (eqSem .neq t ox oy (.agg xs) (.agg ys)).run P w = .ok (.bool !r) w := by
  have hf : P.fieldsOf t = fs := by unfold Program.fieldsOf; rw [hu]
  have h1 : (Op.equalIn 10000 t (.agg xs) (.agg ys)).run P w = .ok r w := by
    rw [run_equalIn_struct w 9999 t xs ys (by rw [hf]; exact hu) hs, hf]
    exact eqFlat_run 9998 w _ _ he
  constructor
  · unfold eqSem
    rw [Sem.run_bind, run_eqGuard_agg w _ t ox oy xs ys hg, Result.andThen_ok, run_eql_struct w t xs ys, h1, Result.andThen_ok]
  · unfold eqSem
    rw [Sem.run_bind, run_eqGuard_agg w _ t ox oy xs ys hg, Result.andThen_ok, run_neq_struct w t xs ys, h1, Result.andThen_ok]

/-! ### whole numbers -/
theorem wrap_small {x : Int} (h0 : -9223372036854775808 ≤ x) (h1 : x ≤ 9223372036854775807) : IntKind.wrap .i64 x = x := IntWalk.i64_in x ⟨h0, h1⟩
theorem tmod_nat (a b : Nat) : Int.tmod (a : Int) (b : Int) = ((a % b : Nat) : Int) := by
  rw [Int.tmod_eq_emod_of_nonneg (by omega)]; rfl

end Go.SX
