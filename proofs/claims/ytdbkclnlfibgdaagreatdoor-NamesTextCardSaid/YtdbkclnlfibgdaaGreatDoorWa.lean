/- Joined by program of: Hp, Row, Map, Ty, Tz, Tu, Tm, Tw, TyAt. -/
import Derived.Test.YtdbkclnlfibgdaaGreatDoorEa
import Derived.IntWalk
import Derived.Laws.StructEq
import Derived.Laws.AppendOwn
import Derived.Maps.RangeRun
import Derived.Maps.OwnSet
set_option maxRecDepth 100000
set_option maxHeartbeats 4000000
namespace Go.SX
theorem add_mk (b o n : Nat) : Addr.add ⟨b, o, none⟩ n = ⟨b, o + n, none⟩ := by
  unfold Addr.add; split
  . rename_i h; subst h; rfl
  . rfl
def Blk (w : World) (b : Nat) (cs : Array Value) (t : TypeId) : Prop := w.heap[b]? = some (.cells cs t (0, 0))
theorem Blk.lt {w : World} {b : Nat} {cs : Array Value} {t : TypeId} (h : Blk w b cs t) : b < w.heap.size := by
  unfold Blk at h; rcases Nat.lt_or_ge b w.heap.size with h' | h'
  . exact h'
  . rw [Array.getElem?_eq_none h'] at h; cases h
theorem Blk.cell {w : World} {b : Nat} {cs : Array Value} {t : TypeId} (h : Blk w b cs t) {i : Nat} {v : Value} (hi : cs[i]? = some v) : w.cell? ⟨b, i, none⟩ = some v := by
  unfold Blk at h; simp [World.cell?, h, hi]
theorem Blk.frozen {w : World} {b : Nat} {cs : Array Value} {t : TypeId} (h : Blk w b cs t) (i : Nat) : w.frozen? ⟨b, i, none⟩ = false := by
  unfold Blk at h; simp [World.frozen?, h]
theorem Blk.inj {w : World} {b : Nat} {cs cs' : Array Value} {t t' : TypeId} (h : Blk w b cs t) (h' : Blk w b cs' t') : cs = cs' /\ t = t' := by
  unfold Blk at h h'; rw [h] at h'; simp at h'; exact h'
structure Upd (S : Nat -> Prop) (w w' : World) : Prop where
  os : w'.os = w.os
  tape : w'.tape = w.tape
  output : w'.output = w.output
  size : w.heap.size <= w'.heap.size
  block : ∀ b, b < w.heap.size -> ¬ S b -> w'.heap[b]? = w.heap[b]?
def No : Nat -> Prop := fun _ => False
theorem Upd.refl (S : Nat -> Prop) (w : World) : Upd S w w := ⟨rfl, rfl, rfl, Nat.le_refl _, fun _ _ _ => rfl⟩
theorem Upd.trans {S T : Nat -> Prop} {a b c : World} (h : Upd S a b) (k : Upd T b c) (hs : ∀ x, x < a.heap.size -> T x -> S x) : Upd S a c :=
  ⟨k.os.trans h.os, k.tape.trans h.tape, k.output.trans h.output, Nat.le_trans h.size k.size,
    fun i hi hn => (k.block i (Nat.lt_of_lt_of_le hi h.size) (fun ht => hn (hs i hi ht))).trans (h.block i hi hn)⟩
theorem Upd.mono {S T : Nat -> Prop} {a b : World} (h : Upd S a b) (hs : ∀ x, x < a.heap.size -> S x -> T x) : Upd T a b :=
  ⟨h.os, h.tape, h.output, h.size, fun i hi hn => h.block i hi fun x => hn (hs i hi x)⟩
theorem Upd.no {S : Nat -> Prop} {a b : World} (h : Upd No a b) : Upd S a b := h.mono fun _ _ x => x.elim
theorem Blk.upd {S : Nat -> Prop} {w w' : World} {b : Nat} {cs : Array Value} {t : TypeId} (h : Blk w b cs t) (u : Upd S w w') (hn : ¬ S b) : Blk w' b cs t := by
  unfold Blk; rw [u.block b h.lt hn]; exact h
theorem heap_setCell_ne (w : World) (a : Addr) (v : Value) (b : Nat) (h : b ≠ a.block) : (w.setCell a v).heap[b]? = w.heap[b]? := by
  simp only [World.setCell, Array.getElem?_modify]; rw [if_neg (fun e => h e.symm)]
theorem Blk.set {w : World} {b : Nat} {cs : Array Value} {t : TypeId} (h : Blk w b cs t) (i : Nat) (v : Value) : Blk (w.setCell ⟨b, i, none⟩ v) b (cs.setIfInBounds i v) t := by
  unfold Blk at *; simp [World.setCell, Array.getElem?_modify, h]
theorem upd_setCell (w : World) (b i : Nat) (v : Value) : Upd (· = b) w (w.setCell ⟨b, i, none⟩ v) :=
  ⟨rfl, rfl, rfl, by simp [World.setCell], fun x _ hx => heap_setCell_ne w _ v x hx⟩
theorem upd_alloc (w : World) (o : Obj) : Upd No w (w.alloc o) :=
  ⟨rfl, rfl, rfl, by simp, fun x hx _ => by
    show (w.heap.push o)[x]? = _; rw [Array.getElem?_push, if_neg (by omega)]⟩
theorem blk_alloc (w : World) (cs : Array Value) (t : TypeId) : Blk (w.alloc (.cells cs t)) w.heap.size cs t := by
  show (w.heap.push _)[w.heap.size]? = _; simp
theorem brC_tt {b : Bool} {t e : Prop} (hb : b = true) (h : t) : brC b t e := by subst hb; exact h
theorem brC_ff {b : Bool} {t e : Prop} (hb : b = false) (h : e) : brC b t e := by subst hb; exact h
theorem newC_mk {w : World} {cs : Array Value} {t : TypeId} {K : Nat -> WP}
    (h : ∀ w', Blk w' w.heap.size cs t -> Upd No w w' -> w'.heap.size = w.heap.size + 1 -> K w.heap.size w') : newC w (.cells cs t) K :=
  h _ (blk_alloc w cs t) (upd_alloc w _) (by simp)
theorem drawC_mk {w : World} {K : WP} (h : ∀ w', Upd No w w' -> w'.heap.size = w.heap.size -> K w') : drawC w K :=
  h _ ⟨rfl, rfl, rfl, Nat.le_refl _, fun _ _ _ => rfl⟩ rfl
theorem stC_mk {w : World} {b i : Nat} {cs : Array Value} {t : TypeId} {v : Value} {K : WP} (hb : Blk w b cs t) (hi : i < cs.size)
    (h : ∀ w', Blk w' b (cs.setIfInBounds i v) t -> Upd (· = b) w w' -> w'.heap.size = w.heap.size -> K w') : stC w ⟨b, i, none⟩ v K :=
  ⟨⟨cs[i], hb.cell (by simp [hi])⟩, hb.frozen i, h _ (hb.set i v) (upd_setCell w b i v) (by simp [World.setCell])⟩
theorem callC_of {P : Program} {f : FuncId} {args : Array Value} {w : World} {K R : KV} (h : callC P f args w R) (hk : ∀ v w', R v w' -> K v w') : callC P f args w K :=
  callC_mono h hk
def eqFlat (P : Program) (xs ys : Array Value) : List Field -> Option Bool
  | [] => some true
  | f :: fs =>
    match f.name == "_" with
    | true => eqFlat P xs ys fs
    | false =>
      match P.underlying f.type, xs[f.offset]?, ys[f.offset]? with
      | some (.int _), some (.int k a), some (.int k' b) => (match beqK k k' with
        | true => (match eqFlat P xs ys fs with | some r => some (a == b && r) | none => none)
        | false => none)
      | some .bool, some (.bool a), some (.bool b) => (match eqFlat P xs ys fs with | some r => some (a == b && r) | none => none)
      | some .string, some (.string a), some (.string b) => (match eqFlat P xs ys fs with | some r => some (a.toList == b.toList && r) | none => none)
      | _, _, _ => none
theorem run_part_one {P : Program} {t : TypeId} {d : TypeDesc} {cs : Array Value} {off : Nat} {v : Value} (hd : P.underlying t = some d) (hn : isAggT P t = false) (hv : cs[off]? = some v) (w : World) : (part t cs off).run P w = .ok v w := by
  have h : semR P (part t cs off) (fun x => x = v) none := by
    unfold part; rw [semR_bind, semR_isAgg hd, hn]; simp only [Bool.false_eq_true, if_false, hv, semR_pure]
  obtain ⟨a, rfl, hr⟩ := semR_out h; exact hr w trivial
theorem eqFlat_run {P : Program} {xs ys : Array Value} (d : Nat) (w : World) : ∀ (fs : List Field) (r : Bool), eqFlat P xs ys fs = some r -> (Op.eqFields (d + 1) xs ys fs).run P w = .ok r w
  | [], r, h => by cases h; rfl
  | f :: fs, r, h => by
    unfold eqFlat at h; unfold Op.eqFields; split at h
    . rename_i hn; rw [if_neg (by simpa using hn)]; exact eqFlat_run d w fs r h
    . rename_i hn; rw [if_pos (by simpa using hn)]; split at h
      . rename_i k0 k a k' b hu hx hy; have hag : isAggT P f.type = false := by unfold isAggT; rw [hu]
        split at h
        . rename_i hk; have := beqK_eq hk; subst this
          cases hr : eqFlat P xs ys fs with
          | none => rw [hr] at h; cases h
          | some r' =>
            rw [hr] at h; have ih := eqFlat_run d w fs r' hr; cases h; rw [Sem.run_bind, run_part_one hu hag hx w, Result.andThen_ok, Sem.run_bind, run_part_one hu hag hy w, Result.andThen_ok, Sem.run_bind, run_equalIn_int w d f.type k k0 a b hu, Result.andThen_ok]; cases hab : a == b
            . rfl
            . exact ih
        . cases h
      . rename_i a b hu hx hy; have hag : isAggT P f.type = false := by unfold isAggT; rw [hu]
        cases hr : eqFlat P xs ys fs with
        | none => rw [hr] at h; cases h
        | some r' =>
          rw [hr] at h; have ih := eqFlat_run d w fs r' hr; cases h; rw [Sem.run_bind, run_part_one hu hag hx w, Result.andThen_ok, Sem.run_bind, run_part_one hu hag hy w, Result.andThen_ok, Sem.run_bind, run_equalIn_bool' w d f.type a b hu, Result.andThen_ok]; cases hab : a == b
          . rfl
          . exact ih
      . rename_i a b hu hx hy; have hag : isAggT P f.type = false := by unfold isAggT; rw [hu]
        cases hr : eqFlat P xs ys fs with
        | none => rw [hr] at h; cases h
        | some r' =>
          rw [hr] at h; have ih := eqFlat_run d w fs r' hr; cases h; rw [Sem.run_bind, run_part_one hu hag hx w, Result.andThen_ok, Sem.run_bind, run_part_one hu hag hy w, Result.andThen_ok, Sem.run_bind, run_equalIn_string w d f.type a b hu, Result.andThen_ok]; cases hab : a.toList == b.toList
          . rfl
          . exact ih
      . cases h
theorem eqSem_run {P : Program} {t : TypeId} {fs : Array Field} (hu : P.underlying t = some (.struct fs)) (hs : P.stoodInHeld t = false) (hg : P.eqGuardType P.depth t = false) {xs ys : Array Value} {r : Bool}
    (he : eqFlat P xs ys fs.toList = some r) (ox oy : Operand) (w : World) :
    (eqSem .eql t ox oy (.agg xs) (.agg ys)).run P w = .ok (.bool r) w /\ (eqSem .neq t ox oy (.agg xs) (.agg ys)).run P w = .ok (.bool !r) w := by
  have hf : P.fieldsOf t = fs := by unfold Program.fieldsOf; rw [hu]
  have h1 : (Op.equalIn 10000 t (.agg xs) (.agg ys)).run P w = .ok r w := by
    rw [run_equalIn_struct w 9999 t xs ys (by rw [hf]; exact hu) hs, hf]; exact eqFlat_run 9998 w _ _ he
  constructor
  . unfold eqSem; rw [Sem.run_bind, run_eqGuard_agg w _ t ox oy xs ys hg, Result.andThen_ok, run_eql_struct w t xs ys, h1, Result.andThen_ok]
  . unfold eqSem; rw [Sem.run_bind, run_eqGuard_agg w _ t ox oy xs ys hg, Result.andThen_ok, run_neq_struct w t xs ys, h1, Result.andThen_ok]
theorem wrap_small {x : Int} (h0 : -9223372036854775808 <= x) (h1 : x <= 9223372036854775807) : IntKind.wrap .i64 x = x := IntWalk.i64_in x ⟨h0, h1⟩
end Go.SX
namespace Go.SX
def RowAt (w : World) (e : TypeId) (size : Nat) (v : Value) (xs : List Value) : Prop :=
  ∃ n, xs.length = n * size /\ ((v = .slice none 0 0 /\ n = 0) \/
    ∃ g o cap cur, v = .slice (some ⟨g, o, none⟩) n cap /\ Blk w g cur e /\ n <= cap /\ cap <= maxLen /\ o + cap * size <= cur.size /\ (cur.toList.drop o).take (n * size) = xs)
theorem RowAt.nil (w : World) (e : TypeId) (size : Nat) : RowAt w e size (.slice none 0 0) [] := ⟨0, by simp, .inl ⟨rfl, rfl⟩⟩
def InRow (v : Value) : Nat -> Prop := fun b => v.ownBlock = some b
theorem RowAt.lt {w : World} {e : TypeId} {size : Nat} {v : Value} {xs : List Value} (h : RowAt w e size v xs) {b : Nat} (hb : InRow v b) : b < w.heap.size := by
  obtain ⟨n, _, ⟨rfl, _⟩ | ⟨g, o, cap, cur, rfl, hg, _⟩⟩ := h
  . cases hb
  . have : g = b := by simpa [InRow, Value.ownBlock] using hb
    subst this; exact hg.lt
theorem RowAt.upd {w w' : World} {e : TypeId} {size : Nat} {v : Value} {xs : List Value} (h : RowAt w e size v xs) {S : Nat -> Prop} (u : Upd S w w') (hn : ∀ b, InRow v b -> ¬ S b) : RowAt w' e size v xs := by
  obtain ⟨n, hl, h | ⟨g, o, cap, cur, rfl, hg, hr⟩⟩ := h
  . exact ⟨n, hl, .inl h⟩
  . exact ⟨n, hl, .inr ⟨g, o, cap, cur, rfl, hg.upd u (hn g rfl), hr⟩⟩
theorem RowAt.shape {w : World} {e : TypeId} {size : Nat} {v : Value} {xs : List Value} (h : RowAt w e size v xs) : ∃ p n c, v = .slice p n c /\ xs.length = n * size /\ n <= c /\ c <= maxLen := by
  obtain ⟨n, hl, ⟨rfl, rfl⟩ | ⟨g, o, cap, cur, rfl, hg, h1, h2, _⟩⟩ := h
  . exact ⟨_, _, _, rfl, hl, Nat.le_refl _, Nat.zero_le _⟩
  . exact ⟨_, _, _, rfl, hl, h1, h2⟩
theorem RowAt.get {w : World} {e : TypeId} {size : Nat} {p : Option Addr} {n c : Nat} {xs : List Value} (h : RowAt w e size (.slice p n c) xs) {j : Nat} (hj : j < xs.length) :
    ∃ g o, p = some ⟨g, o, none⟩ /\ w.cell? ⟨g, o + j, none⟩ = xs[j]? := by
  obtain ⟨m, hl, ⟨e0, rfl⟩ | ⟨g, o, cap, cur, e0, hg, h1, h2, h3, h4⟩⟩ := h
  . rw [Nat.zero_mul] at hl; omega
  . cases e0; refine ⟨g, o, rfl, ?_⟩
    have hx : xs[j]? = cur[o + j]? := by
      rw [<- h4, List.getElem?_take, if_pos (by omega), List.getElem?_drop]; simp
    have hlt : o + j < cur.size := by
      have : n * size <= c * size := Nat.mul_le_mul_right _ h1; omega
    rw [hx, Array.getElem?_eq_getElem hlt]; exact hg.cell (Array.getElem?_eq_getElem hlt)
theorem RowAt.cut {w : World} {e : TypeId} {size : Nat} {p : Option Addr} {n c : Nat} {xs : List Value} (h : RowAt w e size (.slice p n c) xs) {lo hi : Nat} (h1 : lo <= hi) (h2 : hi <= n) :
    RowAt w e size (.slice (subP p c lo size) (hi - lo) (c - lo)) ((xs.drop (lo * size)).take ((hi - lo) * size)) := by
  obtain ⟨m, hl, ⟨e0, rfl⟩ | ⟨g, o, cap, cur, e0, hg, hnc, hcm, hfit, htk⟩⟩ := h
  . cases e0; have : hi = 0 := by omega
    subst this; have : lo = 0 := by omega
    subst this; have : xs = [] := List.eq_nil_of_length_eq_zero (by simpa using hl); subst this; exact ⟨0, by simp, .inl ⟨by simp [subP], rfl⟩⟩
  . cases e0
    have hlen : ((xs.drop (lo * size)).take ((hi - lo) * size)).length = (hi - lo) * size := by
      rw [List.length_take, List.length_drop, hl]; have : (hi - lo) * size + lo * size <= n * size := by rw [<- Nat.add_mul]; exact Nat.mul_le_mul_right _ (by omega)
      omega
    refine ⟨hi - lo, hlen, .inr ?_⟩; unfold subP; split
    . rename_i hc; subst hc; have : hi = c := by omega
      subst this; refine ⟨g, o, hi - hi, cur, rfl, hg, by omega, by omega, ?_, by simp⟩; have : (hi - hi) * size = 0 := by simp
      omega
    . refine ⟨g, o + lo * size, c - lo, cur, ?_, hg, by omega, by omega, ?_, ?_⟩
      . rw [Option.map_some, add_mk]
      . have : lo * size + (c - lo) * size = c * size := by rw [<- Nat.add_mul]; congr 1; omega
        omega
      . rw [<- htk, List.drop_take, List.drop_drop, List.take_take]
        congr 1
        have : (hi - lo) * size + lo * size <= n * size := by rw [<- Nat.add_mul]; exact Nat.mul_le_mul_right _ (by omega)
        omega
theorem add_block (a : Addr) (n : Nat) : (a.add n).block = a.block := by unfold Addr.add; split <;> rfl
theorem inRow_cut {p : Option Addr} {n c n' c' c'' l size b : Nat} (h : InRow (.slice (subP p c'' l size) n' c') b) : InRow (.slice p n c) b := by
  unfold InRow subP at *
  cases p with
  | none => split at h <;> cases h
  | some a =>
    split at h
    . exact h
    . simp only [Option.map_some, Value.ownBlock, add_block] at h ⊢; exact h
theorem append_row {P : Program} {w : World} {t ty e : TypeId} {i : TypeInfo} {z : Value} {size bytes : Nat} (ht : P.underlying t = some (.slice e)) (hi : P.info? e = some i) (hz : i.zero = some z)
    (hsize : i.size = size) (hby : i.bytes = bytes) (hzs : z.cells.size = size) {v : Value} {xs : List Value} {n : Nat} (h : RowAt w e size v xs) (hn : xs.length = n * size)
    (a : Addr) (m c : Nat) (news : List Value) (hm : 0 < m) (hsz : 0 < size) (hl : news.length = m * size) (hnews : ∀ j u, news[j]? = some u -> w.cell? (a.add j) = some u) (h1 : ∀ u ∈ news, u.oneCell' = true)
    (h63 : n + m <= maxLen) (hbytes : (n + m) * bytes <= 140737488355328) {K : KV}
    (hk : ∀ v' w', RowAt w' e size v' (xs ++ news) -> Upd (InRow v) w w' -> (∀ b, InRow v' b -> InRow v b \/ w.heap.size <= b) -> K v' w') :
    runC P (Builtin.append_ #[t, t] ty #[v, .slice (some a) m c]) w K := by
  subst hsize; subst hby; have hsmall : n + m <= 9223372036854775807 := by simp only [maxLen] at h63; omega
  have hlen : (xs ++ news).length = (n + m) * i.size := by rw [List.length_append, hn, hl, Nat.add_mul]
  have grown : ∀ (old : Nat), old < n + m ->
      RowAt (w.drew.alloc (.cells (xs.toArray ++ news.toArray ++ Builtin.zeroCells z.cells (grownCap w (n + m) old e - (n + m))) e)) e i.size
        (.slice (some ⟨w.heap.size, 0, none⟩) (n + m) (grownCap w (n + m) old e)) (xs ++ news) := by
    intro old ho; have hge := grownCap_ge w (n + m) old e; have hcm : grownCap w (n + m) old e <= maxLen := grownCap_le_maxLen w (n + m) old e h63; refine ⟨n + m, hlen, .inr ⟨w.heap.size, 0, _, _, rfl, heap_alloc_new w.drew _, hge, hcm, ?_, ?_⟩⟩
    . simp only [Array.size_append, List.size_toArray, size_zeroCells, hzs, hn, hl, <- Nat.add_mul]; have : n + m + (grownCap w (n + m) old e - (n + m)) = grownCap w (n + m) old e := by omega
      rw [this]; omega
    . simp only [Array.toList_append, List.append_assoc, List.drop_zero]; rw [<- List.append_assoc, <- hlen]; exact List.take_left
  have gupd : ∀ (o : Obj), Upd (InRow v) w (w.drew.alloc o) := fun o => ⟨rfl, rfl, rfl, by simp, fun k hk _ => heap_alloc_old w.drew _ k hk⟩; obtain ⟨n', hl', ⟨rfl, rfl⟩ | ⟨g, o, cap, cur, rfl, hg, hnc, hcm, hfit, htk⟩⟩ := h
  . have hx : xs = [] := List.eq_nil_of_length_eq_zero (by simpa using hl'); subst hx
    have hn0 : n = 0 := by
      rcases Nat.eq_zero_or_pos n with e | e
      . exact e
      . have := Nat.mul_pos e hsz; simp at hn; omega
    subst hn0; have hr := run_append_nil (P := P) w t ty e i z ht hi hz a m c news hl hnews (by omega) (by omega) (by have hb := hbytes; simp only [Nat.zero_add] at hb; omega); have hgr := grown 0 (by omega); simp only [Nat.zero_add, List.nil_append, Array.empty_append] at hgr hk ⊢; exact ⟨_, _, hr, hk _ _ hgr (gupd _) fun b hb => .inr (by simp [InRow, Value.ownBlock] at hb; omega)⟩
  . have hnn : n' = n := Nat.eq_of_mul_eq_mul_right hsz (by omega); subst hnn
    have holds : ∀ j u, xs[j]? = some u -> w.cell? ((⟨g, o, none⟩ : Addr).add j) = some u := by
      intro j u hu
      have hj : j < xs.length := by
        rcases Nat.lt_or_ge j xs.length with h | h
        . exact h
        . rw [List.getElem?_eq_none h] at hu; cases hu
      obtain ⟨g', o', e', hc⟩ := RowAt.get (c := cap) (p := some ⟨g, o, none⟩) (n := n') ⟨n', hl', .inr ⟨g, o, cap, cur, rfl, hg, hnc, hcm, hfit, htk⟩⟩ hj; cases e'; rw [add_mk, hc, hu]
    by_cases hroom : n' + m <= cap
    . have hfit2 : o + n' * i.size + news.length <= cur.size := by
        rw [hl]; have : n' * i.size + m * i.size <= cap * i.size := by rw [<- Nat.add_mul]; exact Nat.mul_le_mul_right _ hroom
        omega
      have hf := run_firstCells_some (P := P) w i.size m a m c news hl hnews; have hst := run_storeCells_at P g (o + n' * i.size) e news 0 cur w hg (by simpa using hfit2) h1; simp only [Nat.add_zero] at hst
      have hr : (Builtin.append_ #[t, t] ty #[.slice (some ⟨g, o, none⟩) n' cap, .slice (some a) m c]).run P w =
          .ok (.slice (some ⟨g, o, none⟩) (n' + m) cap) (w.setRow g (cur.toList.take (o + n' * i.size) ++ news ++ cur.toList.drop (o + n' * i.size + news.length)).toArray) := by
        simp [Builtin.append_, run_underlying ht, sizeOf, typeInfo, hi, Builtin.lenOf, hroom, hf, add_mk, hst]
      refine ⟨_, _, hr, hk _ _ ⟨n' + m, hlen, .inr ⟨g, o, cap, _, rfl, setRow_heap w g cur _ e _ hg, hroom, hcm, ?_, ?_⟩⟩ ⟨rfl, rfl, rfl, by simp, fun k _ hk => setRow_other w g k _ (fun e => hk (by simp [InRow, Value.ownBlock, e]))⟩ fun b hb => .inl hb⟩
      . simp only [List.size_toArray, List.length_append, List.length_take, List.length_drop, Array.length_toList]; omega
      . have e1 : cur.toList.take (o + n' * i.size) = cur.toList.take o ++ xs := by
          rw [List.take_add, htk]
        have e2 : (cur.toList.take o).length = o := by rw [List.length_take, Array.length_toList]; omega
        rw [List.toList_toArray, e1, List.append_assoc, List.append_assoc, List.drop_append_of_le_length (by omega), List.drop_of_length_le (by omega), List.nil_append, <- List.append_assoc, <- hlen]; exact List.take_left
    . have hr := run_append_grow (P := P) w t ty e i z ht hi hz ⟨g, o, none⟩ n' cap xs hn holds a m c news hl hnews (by omega) (by omega) (growslice_fits (by omega) hbytes); exact ⟨_, _, hr, hk _ _ (grown cap (by omega)) (gupd _) fun b hb => .inr (by simp [InRow, Value.ownBlock] at hb; omega)⟩
theorem append_zero {P : Program} {w : World} {t ty e : TypeId} {i : TypeInfo} (ht : P.underlying t = some (.slice e)) (hi : P.info? e = some i) {size : Nat} {v : Value} {xs : List Value} (h : RowAt w e size v xs) (p : Option Addr) (c : Nat)
    {K : KV} (hk : K v w) : runC P (Builtin.append_ #[t, t] ty #[v, .slice p 0 c]) w K := by
  obtain ⟨q, n, cap, rfl, _, hnc, _⟩ := h.shape; refine ⟨_, _, ?_, hk⟩
  have hf : (Builtin.firstCells i.size 0 (.slice p 0 c)).run P w = .ok #[] w := by
    cases p with
    | none => simp [Builtin.firstCells]
    | some a => simpa using run_firstCells_some (P := P) w i.size 0 a 0 c [] (by simp) (by simp)
  cases q with
  | none => simp [Builtin.append_, run_underlying ht, sizeOf, typeInfo, hi, Builtin.lenOf, hnc, hf]
  | some a => simp [Builtin.append_, run_underlying ht, sizeOf, typeInfo, hi, Builtin.lenOf, hnc, hf, storeCells]
theorem append_slice {P : Program} {w : World} {t ty e : TypeId} {i : TypeInfo} {z : Value} {size bytes : Nat} (ht : P.underlying t = some (.slice e)) (hi : P.info? e = some i) (hz : i.zero = some z)
    (hsize : i.size = size) (hby : i.bytes = bytes) (hzs : z.cells.size = size) {v : Value} {xs : List Value} {n : Nat} (h : RowAt w e size v xs) (hn : xs.length = n * size)
    (p : Option Addr) (m c : Nat) (news : List Value) (hsz : 0 < size) (hl : news.length = m * size) (hnews : ∀ j u, news[j]? = some u -> ∃ a : Addr, p = some a /\ w.cell? (a.add j) = some u) (h1 : ∀ u ∈ news, u.oneCell' = true)
    (h63 : n + m <= maxLen) (hbytes : (n + m) * bytes <= 140737488355328) {K : KV}
    (hk : ∀ v' w', RowAt w' e size v' (xs ++ news) -> Upd (InRow v) w w' -> (∀ b, InRow v' b -> InRow v b \/ w.heap.size <= b) -> K v' w') :
    runC P (Builtin.append_ #[t, t] ty #[v, .slice p m c]) w K := by
  rcases Nat.eq_zero_or_pos m with rfl | hm
  . have : news = [] := List.eq_nil_of_length_eq_zero (by simpa using hl); subst this; exact append_zero ht hi h p c (hk v w (by simpa using h) (Upd.refl _ _) fun b hb => .inl hb)
  . have h0 : 0 < news.length := by rw [hl]; exact Nat.mul_pos hm hsz
    obtain ⟨a, rfl, _⟩ := hnews 0 news[0] (by simp); refine append_row ht hi hz hsize hby hzs h hn a m c news hm hsz hl (fun j u hj => ?_) h1 h63 hbytes hk; obtain ⟨a', e, hc⟩ := hnews j u hj; cases e; exact hc
end Go.SX
namespace Go.SX
open Go.MapKept
theorem info_get {P : Program} {e : TypeId} {s b : Nat} {z : Value} (h : (P.info? e).map (fun i => (i.size, i.bytes, i.zero)) = some (s, b, some z)) : ∃ i, P.info? e = some i /\ i.zero = some z /\ i.size = s /\ i.bytes = b := by
  cases hi : P.info? e with
  | none => rw [hi] at h; cases h
  | some i =>
    rw [hi] at h; simp only [Option.map_some, Option.some.injEq, Prod.mk.injEq] at h; exact ⟨i, rfl, h.2.2, h.1, h.2.1⟩
theorem run_zero {P : Program} {e : TypeId} {s b : Nat} {z : Value} (h : (P.info? e).map (fun i => (i.size, i.bytes, i.zero)) = some (s, b, some z)) (w : World) : (zeroValue e).run P w = .ok z w := by
  obtain ⟨i, hi, hz, _, _⟩ := info_get h; simp [zeroValue, typeInfo, hi, hz]
def MapF (d : TypeDesc) (w : World) (b : Nat) (ks : List Value) (f : Value -> Value) : Prop :=
  ∃ es clock, w.heap[b]? = some (.map es clock) /\ es.toList.map (·.key) = ks /\ (∀ e ∈ es.toList, e.val = f e.key) /\ Stamped es clock /\ ∀ k ∈ ks, IsKey d k
theorem MapF.lt {d : TypeDesc} {w : World} {b : Nat} {ks : List Value} {f : Value -> Value} (h : MapF d w b ks f) : b < w.heap.size := by
  obtain ⟨es, clock, hb, _⟩ := h; exact (Array.getElem?_eq_some_iff.1 hb).1
theorem MapF.upd {d : TypeDesc} {w w' : World} {b : Nat} {ks : List Value} {f : Value -> Value} (h : MapF d w b ks f) {S : Nat -> Prop} (u : Upd S w w') (hn : ¬ S b) : MapF d w' b ks f := by
  have hlt := h.lt; obtain ⟨es, clock, hb, hr⟩ := h; exact ⟨es, clock, by rw [u.block b hlt hn]; exact hb, hr⟩
theorem MapF.nodup {d : TypeDesc} {w : World} {b : Nat} {ks : List Value} {f : Value -> Value} (h : MapF d w b ks f) : ks.Nodup := by
  obtain ⟨es, clock, hb, rfl, _, hs, _⟩ := h; exact hs.2.2
theorem MapF.keys {d : TypeDesc} {w : World} {b : Nat} {ks : List Value} {f : Value -> Value} (h : MapF d w b ks f) : ∀ k ∈ ks, IsKey d k := by
  obtain ⟨es, clock, hb, _, _, hs, hk⟩ := h; exact hk
theorem MapF.congr {d : TypeDesc} {w : World} {b : Nat} {ks : List Value} {f g : Value -> Value} (h : MapF d w b ks f) (he : ∀ k ∈ ks, f k = g k) : MapF d w b ks g := by
  obtain ⟨es, clock, hb, rfl, hv, hs, hk⟩ := h; exact ⟨es, clock, hb, rfl, fun e x => (hv e x).trans (he _ (List.mem_map_of_mem x)), hs, hk⟩
theorem newM_mk {d : TypeDesc} {f : Value -> Value} {w : World} {K : Nat -> WP} (h : ∀ w', MapF d w' w.heap.size [] f -> Upd No w w' -> w'.heap.size = w.heap.size + 1 -> K w.heap.size w') : newC w (.map #[] 0) K := by
  refine h _ ⟨#[], 0, ?_, rfl, by simp, ⟨by simp, by simp, by simp⟩, by simp⟩ (upd_alloc w _) (by simp); show (w.heap.push _)[w.heap.size]? = _; simp
section
variable {P : Program} {d : TypeDesc} {t kt et : TypeId} {w : World} {b : Nat} {ks : List Value} {f : Value -> Value} {k : Value}
theorem find_in {es : Array MapEntry} (hk : IsKey d k) (hks : ∀ x ∈ es.toList, IsKey d x.key) (hin : k ∈ es.toList.map (·.key)) :
    ∃ j e, Instr.findNow d k es.toList 0 = some (some (j, e.val)) /\ es.toList[j]? = some e /\ e.key = k := by
  rcases findNow_spec hk es.toList 0 hks with ⟨_, hno⟩ | ⟨j, e, h1, h2, h3⟩
  . obtain ⟨e, he, hek⟩ := List.mem_map.1 hin; exact (hno e he hek).elim
  . exact ⟨j, e, by rw [h1, Nat.zero_add], h2, h3⟩
theorem find_out {es : Array MapEntry} (hk : IsKey d k) (hks : ∀ x ∈ es.toList, IsKey d x.key) (hout : k ∉ es.toList.map (·.key)) : Instr.findNow d k es.toList 0 = some none := by
  rcases findNow_spec hk es.toList 0 hks with ⟨h, _⟩ | ⟨j, e, h1, h2, h3⟩
  . exact h
  . exact (hout (List.mem_map.2 ⟨e, List.mem_of_getElem? h2, h3⟩)).elim
theorem run_lookup_in (ht : P.underlying t = some (.map kt et)) (hd : P.underlying kt = some d) (hk : IsKey d k) (h : MapF d w b ks f) (hin : k ∈ ks) (c : Bool) :
    (Instr.lookup t (.map (some b)) k c).run P w = .ok (if c then .tuple #[f k, .bool true] else f k) w := by
  obtain ⟨es, clock, hb, rfl, hv, hs, hks⟩ := h; obtain ⟨j, e, h1, h2, h3⟩ := find_in hk (fun x hx => hks _ (List.mem_map_of_mem hx)) hin; have hv := hv e (List.mem_of_getElem? h2); rw [h3] at hv; have hc : (Instr.checkKey es.isEmpty 10000 kt k).run P w = .ok () w := MapKept.run_checkKey hd hk _ 9999; simp only [Instr.lookup, Sem.run_bind, run_underlying ht, Result.andThen, MapKept.run_getObj_map hb, Sem.run_pure, hc, MapKept.run_findKey hd h1]; cases c <;> simp [hv]
theorem run_lookup_out (ht : P.underlying t = some (.map kt et)) (hd : P.underlying kt = some d) (hk : IsKey d k) (h : MapF d w b ks f) (hout : k ∉ ks) {z : Value} (hz : (zeroValue et).run P w = .ok z w) (c : Bool) :
    (Instr.lookup t (.map (some b)) k c).run P w = .ok (if c then .tuple #[z, .bool false] else z) w := by
  obtain ⟨es, clock, hb, rfl, hv, hs, hks⟩ := h; have h1 := find_out hk (fun x hx => hks _ (List.mem_map_of_mem hx)) hout; have hc : (Instr.checkKey es.isEmpty 10000 kt k).run P w = .ok () w := MapKept.run_checkKey hd hk _ 9999; simp only [Instr.lookup, Sem.run_bind, run_underlying ht, Result.andThen, MapKept.run_getObj_map hb, Sem.run_pure, hc, MapKept.run_findKey hd h1, hz]
theorem run_len (ht : P.underlying t = some (.map kt et)) (h : MapF d w b ks f) (ty : TypeId) : (Builtin.len_ #[t] ty #[.map (some b)]).run P w = .ok (.int .i64 ks.length) w := by
  obtain ⟨es, clock, hb, rfl, hv, hs, hks⟩ := h; simp [Builtin.len_, run_underlying ht, MapKept.run_getObj_map hb, Result.andThen, goInt]
theorem upd_set (w : World) (b : Nat) (o : Obj) : Upd (· = b) w { w with heap := w.heap.setIfInBounds b o } :=
  ⟨rfl, rfl, rfl, by simp, fun x _ hx => by simp [Array.getElem?_setIfInBounds, Ne.symm hx]⟩
theorem keyThatStays_same (hk : IsKey d k) (w : World) : (Instr.keyThatStays k k).run P w = .ok k w := by
  have : Instr.sameBits 10000 k k = true := by
    cases d <;> cases k <;> simp_all [IsKey, Instr.sameBits, bytes_beq]
  simp [Instr.keyThatStays, this]
theorem update_in (ht : P.underlying t = some (.map kt et)) (hd : P.underlying kt = some d) (hk : IsKey d k) (h : MapF d w b ks f) (hin : k ∈ ks) (v : Value) {f' : Value -> Value} (hv : f' k = v) (ho : ∀ x ∈ ks, x ≠ k -> f' x = f x)
    {K : PUnit -> WP} (hK : ∀ w', MapF d w' b ks f' -> Upd (· = b) w w' -> w'.heap.size = w.heap.size -> K () w') : runC P (Instr.mapUpdate t (.map (some b)) k v) w K := by
  obtain ⟨es, clock, hb, rfl, hvs, hs, hks⟩ := h; obtain ⟨j, e, h1, h2, h3⟩ := find_in hk (fun x hx => hks _ (List.mem_map_of_mem hx)) hin; have hc : (Instr.checkKey false 10000 kt k).run P w = .ok () w := MapKept.run_checkKey hd hk _ 9999; have h2' : es[j]? = some e := by rw [<- Array.getElem?_toList]; exact h2
  have hkey : ((es[j]?).map (·.key)).getD k = k := by rw [h2']; exact h3
  refine ⟨(), _, ?_, hK { w with heap := w.heap.setIfInBounds b (.map (es.modify j fun e => { e with key := k, val := v }) clock) } ?_ (upd_set w b _) (by simp)⟩
  . simp only [Instr.mapUpdate, Sem.run_bind, run_underlying ht, Result.andThen, MapKept.run_getObj_map hb, hc, MapKept.run_findKey hd h1, hkey, keyThatStays_same hk, MapKept.run_setObj_map _ hb]
  . have hlj : j < es.toList.length := (List.getElem?_eq_some_iff.1 h2).1
    have hat : ∀ i, (es.modify j fun e => { e with key := k, val := v }).toList[i]? = if j = i then (es.toList[i]?).map (fun e => { e with key := k, val := v }) else es.toList[i]? := by
      intro i; rw [Array.toList_modify, List.getElem?_modify]; split
      . rfl
      . cases es.toList[i]? <;> rfl
    have hmem : ∀ x ∈ (es.modify j fun e => { e with key := k, val := v }).toList, (x = { e with key := k, val := v }) \/ (x ∈ es.toList /\ x.key ≠ k) := by
      intro x hx; obtain ⟨i, hi⟩ := List.mem_iff_getElem?.1 hx; rw [hat i] at hi; split at hi
      . rename_i hji; subst hji; rw [h2] at hi; exact .inl (by simpa using hi.symm)
      . rename_i hji; refine .inr ⟨List.mem_of_getElem? hi, fun hxk => hji ?_⟩; have n1 := hs.2.2; have e1 : (es.toList.map (·.key))[j]? = some k := by rw [List.getElem?_map, h2]; simp [h3]
        have e2 : (es.toList.map (·.key))[i]? = some k := by rw [List.getElem?_map, hi]; simp [hxk]
        exact (List.getElem?_inj (by simpa using hlj) n1).1 (e1.trans e2.symm)
    have hmk : ∀ g : MapEntry -> Value, (g { e with key := k, val := v } = g e) -> (es.modify j fun e => { e with key := k, val := v }).toList.map g = es.toList.map g := by
      intro g hg; refine List.ext_getElem? fun i => ?_; rw [List.getElem?_map, List.getElem?_map, hat i]; split
      . rename_i hji; subst hji; rw [h2]; simp [hg]
      . rfl
    have hmb : (es.modify j fun e => { e with key := k, val := v }).toList.map (·.born) = es.toList.map (·.born) := by
      refine List.ext_getElem? fun i => ?_; rw [List.getElem?_map, List.getElem?_map, hat i]; split
      . rename_i hji; subst hji; rw [h2]; rfl
      . rfl
    have hmkey := hmk (·.key) (by simp [h3]); refine ⟨_, clock, (MapKept.heap_set hb).1, hmkey, ?_, ⟨?_, by rw [hmb]; exact hs.2.1, by rw [hmkey]; exact hs.2.2⟩, hks⟩
    . intro x hx; rcases hmem x hx with rfl | ⟨hx, hxk⟩
      . exact hv.symm
      . rw [ho _ (List.mem_map_of_mem hx) hxk]; exact hvs x hx
    . intro x hx; rcases hmem x hx with rfl | ⟨hx, hxk⟩
      . exact hs.1 e (List.mem_of_getElem? h2)
      . exact hs.1 x hx
theorem update_out (ht : P.underlying t = some (.map kt et)) (hd : P.underlying kt = some d) (hk : IsKey d k) (h : MapF d w b ks f) (hout : k ∉ ks) (v : Value) {f' : Value -> Value} (hv : f' k = v) (ho : ∀ x ∈ ks, x ≠ k -> f' x = f x)
    {K : PUnit -> WP} (hK : ∀ w', MapF d w' b (ks ++ [k]) f' -> Upd (· = b) w w' -> w'.heap.size = w.heap.size -> K () w') : runC P (Instr.mapUpdate t (.map (some b)) k v) w K := by
  obtain ⟨es, clock, hb, rfl, hvs, hs, hks⟩ := h; have h1 := find_out hk (fun x hx => hks _ (List.mem_map_of_mem hx)) hout; have hc : (Instr.checkKey false 10000 kt k).run P w = .ok () w := MapKept.run_checkKey hd hk _ 9999; refine ⟨(), _, ?_, hK { w with heap := w.heap.setIfInBounds b (.map (es.push { key := k, val := v, born := clock }) (clock + 1)) } ?_ (upd_set w b _) (by simp)⟩
  . simp only [Instr.mapUpdate, Sem.run_bind, run_underlying ht, Result.andThen, MapKept.run_getObj_map hb, hc, MapKept.run_findKey hd h1, MapKept.run_setObj_map _ hb]
  . refine ⟨_, clock + 1, (MapKept.heap_set hb).1, by simp, ?_, ⟨?_, ?_, ?_⟩, ?_⟩
    . intro x hx; simp only [Array.toList_push, List.mem_append, List.mem_singleton] at hx; rcases hx with hx | rfl
      . have hm := List.mem_map_of_mem (f := (·.key)) hx; rw [ho _ hm fun e => hout (e ▸ hm)]; exact hvs x hx
      . exact hv.symm
    . intro x hx; simp only [Array.toList_push, List.mem_append, List.mem_singleton] at hx; rcases hx with hx | rfl
      . have := hs.1 x hx; omega
      . exact Nat.lt_succ_self _
    . simp only [Array.toList_push, List.map_append, List.map_cons, List.map_nil]; refine List.nodup_append.2 ⟨hs.2.1, by simp, ?_⟩; intro x hx y hy e; simp only [List.mem_singleton] at hy; obtain ⟨z, hz, rfl⟩ := List.mem_map.1 hx; have := hs.1 z hz; omega
    . simp only [Array.toList_push, List.map_append, List.map_cons, List.map_nil]; refine List.nodup_append.2 ⟨hs.2.2, by simp, ?_⟩; intro x hx y hy e; simp only [List.mem_singleton] at hy; subst hy; subst e; exact hout hx
    . intro x hx; rcases List.mem_append.1 hx with hx | hx
      . exact hks x hx
      . simp only [List.mem_singleton] at hx; subst hx; exact hk
end
def RangeF (d : TypeDesc) (w : World) (b : Nat) (ks : List Value) (f : Value -> Value) (r : Nat) (vis : List Value) : Prop :=
  ∃ es clock, w.heap[b]? = some (.map es clock) /\ es.toList.map (·.key) = ks /\ (∀ e ∈ es.toList, e.val = f e.key) /\ Stamped es clock /\ (∀ k ∈ ks, IsKey d k) /\
    ∃ ve : List MapEntry, (∀ e ∈ ve, e ∈ es.toList) /\ ve.map (·.key) = vis /\ w.heap[r]? = some (.mapIter (some b) clock (ve.reverse.map (·.born)).toArray clock)
theorem RangeF.map {d : TypeDesc} {w : World} {b : Nat} {ks : List Value} {f : Value -> Value} {r : Nat} {vis : List Value} (h : RangeF d w b ks f r vis) : MapF d w b ks f := by
  obtain ⟨es, clock, h1, h2, h3, h4, h5, _⟩ := h; exact ⟨es, clock, h1, h2, h3, h4, h5⟩
theorem RangeF.lt {d : TypeDesc} {w : World} {b : Nat} {ks : List Value} {f : Value -> Value} {r : Nat} {vis : List Value} (h : RangeF d w b ks f r vis) : r < w.heap.size := by
  obtain ⟨es, clock, h1, h2, h3, h4, h5, ve, _, _, hr⟩ := h; exact (Array.getElem?_eq_some_iff.1 hr).1
theorem RangeF.upd {d : TypeDesc} {w w' : World} {b : Nat} {ks : List Value} {f : Value -> Value} {r : Nat} {vis : List Value} (h : RangeF d w b ks f r vis) {S : Nat -> Prop} (u : Upd S w w') (hb : ¬ S b) (hr : ¬ S r) : RangeF d w' b ks f r vis := by
  have l1 := h.map.lt; have l2 := h.lt; obtain ⟨es, clock, h1, h2, h3, h4, h5, ve, h6, h7, h8⟩ := h; exact ⟨es, clock, by rw [u.block b l1 hb]; exact h1, h2, h3, h4, h5, ve, h6, h7, by rw [u.block r l2 hr]; exact h8⟩
def seenOf (w : World) (r : Nat) : Nat := match w.heap[r]? with | some (.mapIter _ _ seen _) => seen.size | _ => 0
theorem RangeF.seen {d : TypeDesc} {w : World} {b : Nat} {ks : List Value} {f : Value -> Value} {r : Nat} {vis : List Value} (h : RangeF d w b ks f r vis) : seenOf w r = vis.length := by
  obtain ⟨es, clock, h1, h2, h3, h4, h5, ve, h6, rfl, h8⟩ := h; unfold seenOf; rw [h8]; simp
theorem RangeF.vis_sub {d : TypeDesc} {w : World} {b : Nat} {ks : List Value} {f : Value -> Value} {r : Nat} {vis : List Value} (h : RangeF d w b ks f r vis) : ∀ k ∈ vis, k ∈ ks := by
  obtain ⟨es, clock, h1, rfl, h3, h4, h5, ve, h6, rfl, h8⟩ := h; intro k hk; obtain ⟨e, he, rfl⟩ := List.mem_map.1 hk; exact List.mem_map_of_mem (h6 e he)
section
variable {P : Program} {d : TypeDesc} {t kt et : TypeId} {w : World} {b : Nat} {ks : List Value} {f : Value -> Value} {r : Nat} {vis : List Value}
theorem range_mk (ht : P.underlying t = some (.map kt et)) (h : MapF d w b ks f) {K : KV}
    (hK : ∀ w', RangeF d w' b ks f w.heap.size [] -> Upd No w w' -> w'.heap.size = w.heap.size + 1 -> K (.pointer (some ⟨w.heap.size, 0, none⟩)) w') : runC P (Instr.range t (.map (some b))) w K := by
  obtain ⟨es, clock, hb, rfl, hvs, hs, hks⟩ := h; refine ⟨_, _, run_range_map w t kt et b es clock ht hb, hK _ ⟨es, clock, ?_, rfl, hvs, hs, hks, [], by simp, rfl, ?_⟩ (upd_alloc w _) (by simp)⟩
  . rw [(upd_alloc w _).block b (Array.getElem?_eq_some_iff.1 hb).1 id]; exact hb
  . show (w.heap.push _)[w.heap.size]? = _; simp
theorem next_mk (h : RangeF d w b ks f r vis) (ty : TypeId) {K : KV}
    (h0 : (∀ k ∈ ks, k ∈ vis) -> K (.tuple #[.bool false]) w)
    (h1 : ∀ w' k, k ∈ ks -> k ∉ vis -> RangeF d w' b ks f r (k :: vis) -> Upd (· = r) w w' -> w'.heap.size = w.heap.size -> K (.tuple #[.bool true, k, f k]) w') :
    runC P (Instr.next (.pointer (some ⟨r, 0, none⟩)) false ty) w K := by
  obtain ⟨es, clock, hb, rfl, hvs, hs, hks, ve, hve, rfl, hr⟩ := h
  have hseen : ∀ e ∈ es.toList, (ve.reverse.map (·.born)).toArray.contains e.born = true ↔ e ∈ ve := by
    intro e he; rw [List.contains_toArray, List.contains_iff_mem, List.mem_map]; constructor
    . rintro ⟨x, hx, hxe⟩; rw [List.mem_reverse] at hx; have hx' := hve x hx; obtain ⟨i, hi⟩ := List.mem_iff_getElem?.1 he; obtain ⟨j, hj⟩ := List.mem_iff_getElem?.1 hx'; have e1 : (es.toList.map (·.born))[i]? = some e.born := by rw [List.getElem?_map, hi]; rfl
      have e2 : (es.toList.map (·.born))[j]? = some e.born := by rw [List.getElem?_map, hj]; simp [hxe]
      have hlt : i < (es.toList.map (·.born)).length := by simpa using (List.getElem?_eq_some_iff.1 hi).1
      have := (List.getElem?_inj hlt hs.2.1).1 (e1.trans e2.symm); subst this; rw [hi] at hj; cases hj; exact hx
    . exact fun hx => ⟨e, List.mem_reverse.2 hx, rfl⟩
  rcases run_next_at (P := P) w ty r b clock clock _ es clock hr hb (fun x hx => hs.1 x hx) (Nat.le_refl _) with ⟨hz, hrun⟩ | ⟨e, he, w1, hw1, hrun⟩
  . refine ⟨_, _, hrun, h0 fun k hk => ?_⟩; obtain ⟨e, he, rfl⟩ := List.mem_map.1 hk; have hl : leftOf es (ve.reverse.map (·.born)).toArray = #[] := Array.eq_empty_of_size_eq_zero hz
    by_cases hm : e ∈ ve
    . exact List.mem_map_of_mem hm
    . have : e ∈ leftOf es (ve.reverse.map (·.born)).toArray := by
        unfold leftOf; rw [Array.mem_filter]; refine ⟨by simpa using he, ?_⟩; have := mt (hseen e he).1 hm; simpa using this
      rw [hl] at this; simp at this
  . have he2 : e ∈ es.toList /\ e ∉ ve := by
      unfold leftOf at he; rw [Array.mem_toList_iff, Array.mem_filter] at he; refine ⟨by simpa using he.1, fun hx => ?_⟩; have h2 := he.2; rw [(hseen e (by simpa using he.1)).2 hx] at h2; cases h2
    have hu : Upd (· = r) w (ChangeMaps.setBlock w1 r (.mapIter (some b) clock ((ve.reverse.map (·.born)).toArray.push e.born) clock)) := by
      rcases hw1 with rfl | rfl
      . exact upd_set _ r _
      . exact ⟨rfl, rfl, rfl, by simp [ChangeMaps.setBlock], fun x _ hx => by simp [ChangeMaps.setBlock, Array.getElem?_setIfInBounds, Ne.symm hx]; rfl⟩
    have hrb : b ≠ r := by
      rintro rfl; rw [hb] at hr; cases hr
    have hrl : r < w.heap.size := (Array.getElem?_eq_some_iff.1 hr).1; have hw1s : w1.heap = w.heap := by rcases hw1 with rfl | rfl <;> rfl
    refine ⟨_, _, hrun, ?_⟩; rw [hvs e he2.1]; refine h1 _ e.key (List.mem_map_of_mem he2.1) ?_ ⟨es, clock, ?_, rfl, hvs, hs, hks, e :: ve, ?_, rfl, ?_⟩ hu (by simp [ChangeMaps.setBlock, hw1s])
    . intro hk; obtain ⟨x, hx, hxk⟩ := List.mem_map.1 hk; obtain ⟨i, hi⟩ := List.mem_iff_getElem?.1 he2.1; obtain ⟨j, hj⟩ := List.mem_iff_getElem?.1 (hve x hx); have e1 : (es.toList.map (·.key))[i]? = some e.key := by rw [List.getElem?_map, hi]; rfl
      have e2 : (es.toList.map (·.key))[j]? = some e.key := by rw [List.getElem?_map, hj]; simp [hxk]
      have hlt : i < (es.toList.map (·.key)).length := by simpa using (List.getElem?_eq_some_iff.1 hi).1
      have := (List.getElem?_inj hlt hs.2.2).1 (e1.trans e2.symm); subst this; rw [hi] at hj; cases hj; exact he2.2 hx
    . rw [hu.block b (Array.getElem?_eq_some_iff.1 hb).1 hrb]; exact hb
    . intro x hx; rcases List.mem_cons.1 hx with rfl | hx
      . exact he2.1
      . exact hve x hx
    . simp [ChangeMaps.setBlock, hw1s, hrl]
theorem entry_mk {k : Value} (h : RangeF d w b ks f r (k :: vis)) {K : KV} (hK : K (.tuple #[k, f k]) w) : runC P (Instr.entry (.pointer (some ⟨r, 0, none⟩))) w K := by
  obtain ⟨es, clock, hb, rfl, hvs, hs, hks, ve, hve, hk, hr⟩ := h
  match ve, hve, hk, hr with
  | e :: ve, hve, hk, hr =>
    have hk1 : e.key = k := (List.cons.inj hk).1
    have hr' : w.heap[r]? = some (.mapIter (some b) clock ((ve.reverse.map (·.born)).toArray.push e.born) clock) := by
      rw [hr]; simp
    have he := hve e (by simp); have hv := hvs e he; rw [hk1] at hv; refine ⟨_, _, run_entry_at w r b clock _ es clock e hr' hb he hs.2.1, ?_⟩; rw [hk1, hv]; exact hK
end
end Go.SX
namespace Go.Ty
inductive T where
  | nil : T
  | mk (k : Int) (name : ByteArray) (names : List ByteArray) (args : List T) (ret : T) : T
def T.kind : T -> Int | .nil => 0 | .mk k _ _ _ _ => k
def T.name : T -> ByteArray | .nil => .empty | .mk _ n _ _ _ => n
def T.names : T -> List ByteArray | .nil => [] | .mk _ _ n _ _ => n
def T.args : T -> List T | .nil => [] | .mk _ _ _ a _ => a
def T.ret : T -> T | .nil => .nil | .mk _ _ _ _ r => r
def T.isNil : T -> Bool | .nil => true | .mk .. => false
mutual
def size : T -> Nat | .nil => 0 | .mk _ _ _ as r => 1 + sizes as + size r
def sizes : List T -> Nat | [] => 0 | t :: l => size t + sizes l
end
theorem ind {p : T -> Prop} (h0 : p .nil) (h1 : ∀ k nm ns as r, (∀ a ∈ as, p a) -> p r -> p (.mk k nm ns as r)) : ∀ t, p t := fun t =>
  T.rec (motive_1 := p) (motive_2 := fun l => ∀ a ∈ l, p a) h0 (fun k nm ns as r ha hr => h1 k nm ns as r ha hr) (fun a h => by cases h)
    (fun t l ht hl a h => by
      rcases List.mem_cons.1 h with rfl | h
      . exact ht
      . exact hl a h) t
theorem sizes_mem {a : T} {l : List T} (h : a ∈ l) : size a <= sizes l := by
  induction l with
  | nil => cases h
  | cons t l ih =>
    unfold sizes; rcases List.mem_cons.1 h with rfl | h
    . omega
    . have := ih h; omega
theorem size_arg {a : T} {k : Int} {nm : ByteArray} {ns : List ByteArray} {as : List T} {r : T} (h : a ∈ as) : size a < size (.mk k nm ns as r) := by
  have := sizes_mem h; simp only [size]; omega
theorem size_ret {k : Int} {nm : ByteArray} {ns : List ByteArray} {as : List T} {r : T} : size r < size (.mk k nm ns as r) := by
  simp only [size]; omega
theorem size_pos {t : T} (h : t.isNil = false) : 0 < size t := by
  cases t with
  | nil => cases h
  | mk => simp only [size]; omega
theorem sizes_append (l m : List T) : sizes (l ++ m) = sizes l + sizes m := by
  induction l with
  | nil => simp [sizes]
  | cons t l ih => simp only [List.cons_append, sizes, ih]; omega
theorem length_le_sizes {l : List T} (h : ∀ a ∈ l, a.isNil = false) : l.length <= sizes l := by
  induction l with
  | nil => simp
  | cons t l ih =>
    have h1 := size_pos (h t (by simp)); have h2 := ih fun a ha => h a (by simp [ha]); simp only [List.length_cons, sizes]; omega
def letter (c : UInt8) : Bool := (97 <= c.toNat && c.toNat <= 122) || (65 <= c.toNat && c.toNat <= 90) || c.toNat == 95
def digit (c : UInt8) : Bool := 48 <= c.toNat && c.toNat <= 57
def fieldL (s : List UInt8) : Bool := s.length <= 24 && (match s with | [] => false | c :: _ => letter c) && s.all fun c => letter c || digit c
def namedL (s : List UInt8) : Bool := 1 <= s.length && s.length <= 161 && s.all fun c => letter c || digit c || c.toNat == 45 || c.toNat == 47 || c.toNat == 46
def txt (s : ByteArray) : List UInt8 := s.data.toList
def bs (l : List UInt8) : ByteArray := ⟨l.toArray⟩
theorem txt_bs (l : List UInt8) : txt (bs l) = l := by simp [txt, bs]
theorem bs_txt (s : ByteArray) : bs (txt s) = s := by cases s; simp [txt, bs]
theorem txt_inj {a b : ByteArray} (h : txt a = txt b) : a = b := by rw [<- bs_txt a, h, bs_txt]
def rising : List (List UInt8) -> Bool
  | a :: b :: l => decide (a < b) && rising (b :: l)
  | _ => true
def join (sep : List UInt8) : List (List UInt8) -> List UInt8
  | [] => []
  | [x] => x
  | x :: y :: l => x ++ sep ++ join sep (y :: l)
def word (k : Int) : List UInt8 :=
  if k = 1 then [97, 110, 121] else if k = 2 then [105, 110, 116] else if k = 3 then [98, 111, 111, 108] else if k = 4 then [115, 116, 114] else if k = 5 then [110, 105, 108] else []
def inPar (k : Int) (s : List UInt8) : List UInt8 := if k = 8 then 40 :: s ++ [41] else s
mutual
def write : T -> List UInt8
  | .nil => []
  | .mk k nm ns as r =>
    if k = 6 then txt nm
    else if k = 7 then 123 :: join [44, 32] (List.zipWith (fun n t => txt n ++ [58, 32] ++ t) ns (writes as)) ++ [125]
    else if k = 8 then [102, 110, 40] ++ join [44, 32] (writes as) ++ [41, 32, 45, 62, 32] ++ write r
    else if k = 9 then join [32, 124, 32] (List.zipWith (fun a t => inPar a.kind t) as (writes as))
    else word k
def writes : List T -> List (List UInt8)
  | [] => []
  | t :: l => write t :: writes l
end
theorem writes_map (l : List T) : writes l = l.map write := by
  induction l with
  | nil => rfl
  | cons t l ih => simp [writes, ih]
mutual
def may : T -> Bool
  | .nil => false
  | .mk k nm ns as r =>
    decide (1 <= k) && decide (k <= 9) && (decide (nm = .empty) || k == 6) && (ns.isEmpty || k == 7) && (as.isEmpty || decide (7 <= k)) && ((!r.isNil) == (k == 8)) && mays as &&
      (if k = 6 then namedL (txt nm)
       else if k = 7 then ns.length == as.length && (ns.all fun n => fieldL (txt n)) && rising (ns.map txt)
       else if k = 8 then may r
       else if k = 9 then decide (2 <= as.length) && (as.all fun a => !(a.kind == 9) && !(a.kind == 1)) && rising (writes as)
       else true)
def mays : List T -> Bool
  | [] => true
  | t :: l => may t && mays l
end
theorem mays_all (l : List T) : mays l = l.all may := by
  induction l with
  | nil => rfl
  | cons t l ih => simp [mays, ih]
def check (t : T) : Int := if t.isNil then 1 else if 60 < size t then 3 else if may t then 0 else 2
def text (t : T) : List UInt8 := if check t = 0 then write t else []
mutual
def alike : T -> T -> Bool
  | .nil, .nil => true
  | .mk k nm ns as r, .mk k' nm' ns' as' r' => k == k' && decide (nm = nm') && decide (ns = ns') && alikes as as' && alike r r'
  | _, _ => false
def alikes : List T -> List T -> Bool
  | [], [] => true
  | t :: l, t' :: l' => alike t t' && alikes l l'
  | _, _ => false
end
theorem alike_iff : ∀ a b : T, alike a b = true ↔ a = b := by
  have key : ∀ l : List T, (∀ a ∈ l, ∀ b, alike a b = true ↔ a = b) -> ∀ m, alikes l m = true ↔ l = m := by
    intro l
    induction l with
    | nil => intro _ m; cases m <;> simp [alikes]
    | cons t l ih =>
      intro h m
      cases m with
      | nil => simp [alikes]
      | cons t' m => simp only [alikes, Bool.and_eq_true, h t (by simp), ih (fun a ha => h a (by simp [ha])), List.cons.injEq]
  refine ind (fun b => by cases b <;> simp [alike]) fun k nm ns as r ha hr b => ?_
  cases b with
  | nil => simp [alike]
  | mk k' nm' ns' as' r' => simp only [alike, Bool.and_eq_true, beq_iff_eq, decide_eq_true_eq, key as ha, hr, T.mk.injEq, and_assoc]
instance : DecidableEq T := fun a b => decidable_of_iff (alike a b = true) (alike_iff a b)
def same (a b : T) : Bool := decide (size a <= 60) && decide (size b <= 60) && alike a b
def fits (t : T) : T × Int := if 60 < size t then (.nil, 3) else (t, 0)
def allOk (l : List T) : Bool := l.all fun t => check t == 0
def insP (n : ByteArray) (a : T) : List (ByteArray × T) -> List (ByteArray × T)
  | [] => [(n, a)]
  | (m, b) :: l => if txt m < txt n then (m, b) :: insP n a l else (n, a) :: (m, b) :: l
def sortP (l : List (ByteArray × T)) : List (ByteArray × T) := l.foldl (fun m x => insP x.1 x.2 m) []
def recF (ns : List ByteArray) (as : List T) : T × Int :=
  if ns.length = as.length /\ allOk as = true /\ (ns.all fun n => fieldL (txt n)) = true /\ ns.Nodup then
    fits (.mk 7 .empty ((sortP (ns.zip as)).map (·.1)) ((sortP (ns.zip as)).map (·.2)) .nil)
  else (.nil, 2)
def funF (as : List T) (r : T) : T × Int := if allOk as && check r == 0 then fits (.mk 8 .empty [] as r) else (.nil, 2)
def insT (t : T) : List T -> List T
  | [] => [t]
  | u :: l => if write u < write t then u :: insT t l else if write u = write t then u :: l else t :: u :: l
def flatT (l : List T) : List T := l.flatMap fun t => if t.kind = 9 then t.args else [t]
def outT (l : List T) : List T := (flatT l).foldl (fun m t => insT t m) []
def unionF (l : List T) : T × Int :=
  if l.isEmpty || !allOk l then (.nil, 2)
  else if l.any (·.kind == 1) then (.mk 1 .empty [] [] .nil, 0)
  else match outT l with
    | [t] => (t, 0)
    | out => fits (.mk 9 .empty [] out .nil)
def lookAll (f : T -> Bool × Nat) : List T -> Nat -> Bool × Nat
  | [], k => (true, k)
  | x :: l, k => if (f x).1 then lookAll f l (k + (f x).2) else (false, k + (f x).2)
def lookAny (f : T -> Bool × Nat) : List T -> Nat -> Bool × Nat
  | [], k => (false, k)
  | x :: l, k => if (f x).1 then (true, k + (f x).2) else lookAny f l (k + (f x).2)
def lookEach (f : T -> T -> Bool × Nat) : List (T × T) -> Nat -> Bool × Nat
  | [], k => (true, k)
  | x :: l, k => if (f x.1 x.2).1 then lookEach f l (k + (f x.1 x.2).2) else (false, k + (f x.1 x.2).2)
def lookRec (f : T -> T -> Bool × Nat) (as : List (ByteArray × T)) : List (ByteArray × T) -> Nat -> Bool × Nat
  | [], k => (true, k)
  | x :: l, k =>
    match as.find? fun y => decide (y.1 = x.1) with
    | none => (false, k)
    | some y => if (f y.2 x.2).1 then lookRec f as l (k + (f y.2 x.2).2) else (false, k + (f y.2 x.2).2)
def look : Nat -> T -> T -> Bool × Nat
  | 0, _, _ => (false, 0)
  | n + 1, a, b =>
    if a.kind = 1 \/ b.kind = 1 then (true, 1)
    else if a.kind = 9 then lookAll (fun x => look n x b) a.args 1
    else if b.kind = 9 then lookAny (fun x => look n a x) b.args 1
    else if a.kind ≠ b.kind then (false, 1)
    else if a.kind = 6 then (decide (a.name = b.name), 1)
    else if a.kind = 7 then lookRec (look n) (a.names.zip a.args) (b.names.zip b.args) 1
    else if a.kind = 8 then (if a.args.length ≠ b.args.length then (false, 1) else lookEach (look n) (b.args.zip a.args ++ [(a.ret, b.ret)]) 1)
    else (true, 1)
end Go.Ty
namespace Go.Ty
def nameC (c : UInt8) : Bool := letter c || digit c || c.toNat == 45 || c.toNat == 47 || c.toNat == 46
def hd (h : UInt8 -> Bool) (r : List UInt8) : Prop := ∀ c, r.head? = some c -> h c = true
theorem hd_cons {h : UInt8 -> Bool} {c : UInt8} {r : List UInt8} (hc : h c = true) : hd h (c :: r) := fun x e => by cases e; exact hc
theorem run_inj {p : UInt8 -> Bool} : ∀ {x y r s : List UInt8}, x.all p = true -> y.all p = true -> hd (fun c => !p c) r -> hd (fun c => !p c) s -> x ++ r = y ++ s -> x = y /\ r = s
  | [], [], r, s, _, _, _, _, h => ⟨rfl, h⟩
  | [], b :: y, r, s, _, hy, hr, _, h => by
    simp only [List.nil_append, List.cons_append] at h; subst h; have : (!p b) = true := hr b rfl; simp only [List.all_cons, Bool.and_eq_true] at hy; rw [hy.1] at this; cases this
  | a :: x, [], r, s, hx, _, _, hs, h => by
    simp only [List.nil_append, List.cons_append] at h; subst h; have : (!p a) = true := hs a rfl; simp only [List.all_cons, Bool.and_eq_true] at hx; rw [hx.1] at this; cases this
  | a :: x, b :: y, r, s, hx, hy, hr, hs, h => by
    simp only [List.cons_append, List.cons.injEq] at h; simp only [List.all_cons, Bool.and_eq_true] at hx hy; obtain ⟨rfl, h⟩ := h; obtain ⟨h1, h2⟩ := run_inj hx.2 hy.2 hr hs h; exact ⟨by rw [h1], h2⟩
theorem join_cons (sep x : List UInt8) (l : List (List UInt8)) : join sep (x :: l) = x ++ (l.map (sep ++ ·)).flatten := by
  induction l generalizing x with
  | nil => simp [join]
  | cons y l ih => rw [join, ih]; simp
theorem join_snoc (sep x : List UInt8) (l : List (List UInt8)) : join sep (l ++ [x]) = if l = [] then x else join sep l ++ sep ++ x := by
  cases l with
  | nil => simp [join]
  | cons y l => rw [List.cons_append, join_cons, join_cons]; simp
theorem rows_inj {α : Type} (E : α -> List UInt8) (h : UInt8 -> Bool) (s0 : UInt8) (sep : List UInt8) (h0 : h s0 = true) (good : α -> Prop) :
    ∀ (l m : List α) (e f : List UInt8), (∀ a ∈ l, good a) -> (∀ a ∈ m, good a) -> (∀ a ∈ l, ∀ b, good b -> ∀ r s, hd h r -> hd h s -> E a ++ r = E b ++ s -> a = b /\ r = s) ->
      hd h e -> hd h f -> hd (fun c => c != s0) e -> hd (fun c => c != s0) f ->
      (l.map (fun a => (s0 :: sep) ++ E a)).flatten ++ e = (m.map (fun a => (s0 :: sep) ++ E a)).flatten ++ f -> l = m /\ e = f
  | [], [], e, f, _, _, _, _, _, _, _, q => ⟨rfl, by simpa using q⟩
  | [], b :: m, e, f, _, _, _, _, _, he, _, q => by
    simp only [List.map_nil, List.flatten_nil, List.nil_append, List.map_cons, List.flatten_cons, List.cons_append] at q; have := he s0 (by rw [q]; rfl); simp at this
  | a :: l, [], e, f, _, _, _, _, _, _, hf, q => by
    simp only [List.map_nil, List.flatten_nil, List.nil_append, List.map_cons, List.flatten_cons, List.cons_append] at q; have := hf s0 (by rw [<- q]; rfl); simp at this
  | a :: l, b :: m, e, f, gl, gm, hi, he, hf, ne, nf, q => by
    simp only [List.map_cons, List.flatten_cons, List.append_assoc, List.append_cancel_left_eq, List.cons_append, List.cons.injEq, true_and] at q
    have tl : ∀ (l : List α) (e : List UInt8), hd h e -> hd h ((l.map (fun a => s0 :: (sep ++ E a))).flatten ++ e) := by
      intro l e he
      cases l with
      | nil => simpa using he
      | cons x l => exact hd_cons h0
    obtain ⟨h1, h2⟩ := hi a (by simp) b (gm b (by simp)) _ _ (tl l e he) (tl m f hf) q; obtain ⟨h3, h4⟩ := rows_inj E h s0 sep h0 good l m e f (fun a ha => gl a (by simp [ha])) (fun a ha => gm a (by simp [ha])) (fun a ha => hi a (by simp [ha])) he hf ne nf h2; exact ⟨by rw [h1, h3], h4⟩
theorem joins_inj {α : Type} (E : α -> List UInt8) (h : UInt8 -> Bool) (s0 : UInt8) (sep : List UInt8) (h0 : h s0 = true) (good : α -> Prop) (l m : List α) (e f : List UInt8)
    (gl : ∀ a ∈ l, good a) (gm : ∀ a ∈ m, good a) (hi : ∀ a ∈ l, ∀ b, good b -> ∀ r s, hd h r -> hd h s -> E a ++ r = E b ++ s -> a = b /\ r = s)
    (he : hd h e) (hf : hd h f) (ne : hd (fun c => c != s0) e) (nf : hd (fun c => c != s0) f)
    (no : ∀ a, good a -> ∀ r s, hd h r -> E a ++ s ≠ r)
    (q : join (s0 :: sep) (l.map E) ++ e = join (s0 :: sep) (m.map E) ++ f) : l = m /\ e = f := by
  cases l with
  | nil =>
    cases m with
    | nil => exact ⟨rfl, by simpa [join] using q⟩
    | cons b m =>
      simp only [List.map_nil, join, List.nil_append, List.map_cons, join_cons, List.append_assoc] at q; exact (no b (gm b (by simp)) _ _ he q.symm).elim
  | cons a l =>
    cases m with
    | nil =>
      simp only [List.map_nil, join, List.nil_append, List.map_cons, join_cons, List.append_assoc] at q; exact (no a (gl a (by simp)) _ _ hf q).elim
    | cons b m =>
      simp only [List.map_cons, join_cons, List.append_assoc, List.map_map] at q
      have tl : ∀ (l : List α) (e : List UInt8), hd h e -> hd h ((l.map ((fun x => s0 :: sep ++ x) ∘ E)).flatten ++ e) := by
        intro l e he
        cases l with
        | nil => simpa using he
        | cons x l => exact hd_cons h0
      obtain ⟨h1, h2⟩ := hi a (by simp) b (gm b (by simp)) _ _ (tl l e he) (tl m f hf) q; obtain ⟨h3, h4⟩ := rows_inj E h s0 sep h0 good l m e f (fun a ha => gl a (by simp [ha])) (fun a ha => gm a (by simp [ha])) (fun a ha => hi a (by simp [ha])) he hf ne nf h2; exact ⟨by rw [h1, h3], h4⟩
mutual
def dotted : T -> Bool
  | .nil => true
  | .mk k nm _ as r => (k != 6 || (txt nm).contains 46) && dotteds as && dotted r
def dotteds : List T -> Bool
  | [] => true
  | t :: l => dotted t && dotteds l
end
theorem dotteds_all (l : List T) : dotteds l = l.all dotted := by
  induction l with
  | nil => rfl
  | cons t l ih => simp [dotteds, ih]
def good (t : T) : Prop := may t = true /\ dotted t = true
inductive Shape : T -> Prop
  | basic (k : Int) (h1 : 1 <= k) (h5 : k <= 5) : Shape (.mk k .empty [] [] .nil)
  | name (nm : ByteArray) (h : namedL (txt nm) = true) : Shape (.mk 6 nm [] [] .nil)
  | record (ns : List ByteArray) (as : List T) (hl : ns.length = as.length) (hf : (ns.all fun n => fieldL (txt n)) = true) (hr : rising (ns.map txt) = true) (ha : ∀ a ∈ as, may a = true) : Shape (.mk 7 .empty ns as .nil)
  | fn (as : List T) (r : T) (ha : ∀ a ∈ as, may a = true) (hr : may r = true) : Shape (.mk 8 .empty [] as r)
  | union (as : List T) (hl : 2 <= as.length) (hk : ∀ a ∈ as, a.kind ≠ 9 /\ a.kind ≠ 1) (hr : rising (as.map write) = true) (ha : ∀ a ∈ as, may a = true) : Shape (.mk 9 .empty [] as .nil)
theorem shape {t : T} (h : may t = true) : Shape t := by
  cases t with
  | nil => cases h
  | mk k nm ns as r =>
    unfold may at h; simp only [Bool.and_eq_true, decide_eq_true_eq, Bool.or_eq_true, beq_iff_eq, List.isEmpty_iff, mays_all, List.all_eq_true] at h; obtain ⟨⟨⟨⟨⟨⟨⟨h1, h9⟩, hn⟩, hns⟩, has⟩, hr⟩, hall⟩, hx⟩ := h; have hk : k = 1 \/ k = 2 \/ k = 3 \/ k = 4 \/ k = 5 \/ k = 6 \/ k = 7 \/ k = 8 \/ k = 9 := by omega
    have nr : ∀ {k : Int}, k ≠ 8 -> (!r.isNil) = (k == 8) -> r = .nil := by
      intro k hk e
      cases r with
      | nil => rfl
      | mk => simp [T.isNil] at e; exact (hk e).elim
    have small : ∀ j : Int, 1 <= j -> j <= 5 -> k = j -> Shape (.mk k nm ns as r) := by
      rintro j hj1 hj5 rfl; obtain rfl : nm = .empty := hn.resolve_right (by omega); obtain rfl : ns = [] := hns.resolve_right (by omega); obtain rfl : as = [] := has.resolve_right (by omega); obtain rfl := nr (by omega) hr; exact .basic k hj1 hj5
    rcases hk with e | e | e | e | e | rfl | rfl | rfl | rfl
    . exact small 1 (by omega) (by omega) e
    . exact small 2 (by omega) (by omega) e
    . exact small 3 (by omega) (by omega) e
    . exact small 4 (by omega) (by omega) e
    . exact small 5 (by omega) (by omega) e
    . obtain rfl : ns = [] := hns.resolve_right (by omega); obtain rfl : as = [] := has.resolve_right (by omega); obtain rfl := nr (by omega) hr; exact .name nm (by simpa using hx)
    . obtain rfl : nm = .empty := hn.resolve_right (by omega); obtain rfl := nr (by omega) hr; rw [if_neg (by omega), if_pos rfl] at hx; simp only [Bool.and_eq_true, beq_iff_eq] at hx; exact .record ns as hx.1.1 hx.1.2 hx.2 hall
    . obtain rfl : nm = .empty := hn.resolve_right (by omega); obtain rfl : ns = [] := hns.resolve_right (by omega); rw [if_neg (by omega), if_neg (by omega), if_pos rfl] at hx; exact .fn as r hall hx
    . obtain rfl : nm = .empty := hn.resolve_right (by omega); obtain rfl : ns = [] := hns.resolve_right (by omega); obtain rfl := nr (by omega) hr; rw [if_neg (by omega), if_neg (by omega), if_neg (by omega), if_pos rfl] at hx; simp only [Bool.and_eq_true, decide_eq_true_eq, List.all_eq_true, Bool.not_eq_true', beq_eq_false_iff_ne, writes_map] at hx; exact .union as hx.1.1 hx.1.2 hx.2 hall
def hF (c : UInt8) : Bool := c.toNat == 44 || c.toNat == 125 || c.toNat == 41
def hA (c : UInt8) : Bool := hF c || c.toNat == 32
theorem nameC_bool (c : UInt8) (h : hA c = true) : nameC c = false := by
  simp only [hA, hF, Bool.or_eq_true, beq_iff_eq] at h; rcases h with ((h | h) | h) | h <;> simp [nameC, letter, digit, h]
theorem hA_of_hF {r : List UInt8} (h : hd hF r) : hd hA r := fun c e => by rw [hA, h c e]; rfl
theorem hn_of_hA {r : List UInt8} (h : hd hA r) : hd (fun c => !nameC c) r := fun c e => by
  show (!nameC c) = true; rw [nameC_bool c (h c e)]; rfl
theorem write_basic {k : Int} (h1 : 1 <= k) (h5 : k <= 5) : write (.mk k .empty [] [] .nil) = word k := by
  rw [write, if_neg (by omega), if_neg (by omega), if_neg (by omega), if_neg (by omega)]
theorem write_name (nm : ByteArray) : write (.mk 6 nm [] [] .nil) = txt nm := by rw [write, if_pos rfl]
theorem write_rec (ns : List ByteArray) (as : List T) : write (.mk 7 .empty ns as .nil) = 123 :: (join [44, 32] ((ns.zip as).map fun x => txt x.1 ++ [58, 32] ++ write x.2) ++ [125]) := by
  rw [write, if_neg (by omega), if_pos rfl, writes_map, List.zipWith_map_right]; rw [List.zip, List.map_zipWith]; rfl
theorem write_fun (as : List T) (r : T) : write (.mk 8 .empty [] as r) = [102, 110, 40] ++ join [44, 32] (as.map write) ++ [41, 32, 45, 62, 32] ++ write r := by
  rw [write, if_neg (by omega), if_neg (by omega), if_pos rfl, writes_map]
theorem write_union (as : List T) : write (.mk 9 .empty [] as .nil) = join [32, 124, 32] (as.map fun a => inPar a.kind (write a)) := by
  rw [write, if_neg (by omega), if_neg (by omega), if_neg (by omega), if_pos rfl, writes_map, List.zipWith_map_right]
  congr 1
  induction as with
  | nil => rfl
  | cons a l ih => simp [ih]
theorem word_all {k : Int} (h1 : 1 <= k) (h5 : k <= 5) : (word k).all nameC = true /\ word k ≠ [] /\ word k ≠ [102, 110] /\ (word k).contains 46 = false := by
  have hk : k = 1 \/ k = 2 \/ k = 3 \/ k = 4 \/ k = 5 := by omega
  rcases hk with rfl | rfl | rfl | rfl | rfl <;> decide
theorem word_inj {k j : Int} (h1 : 1 <= k) (h5 : k <= 5) (j1 : 1 <= j) (j5 : j <= 5) (h : word k = word j) : k = j := by
  have hk : k = 1 \/ k = 2 \/ k = 3 \/ k = 4 \/ k = 5 := by omega
  have hj : j = 1 \/ j = 2 \/ j = 3 \/ j = 4 \/ j = 5 := by omega
  rcases hk with rfl | rfl | rfl | rfl | rfl <;> rcases hj with rfl | rfl | rfl | rfl | rfl <;> first | rfl | (exact absurd h (by decide))
theorem named_all {s : List UInt8} (h : namedL s = true) : s.all nameC = true /\ s ≠ [] := by
  simp only [namedL, Bool.and_eq_true, decide_eq_true_eq] at h; refine ⟨h.2, ?_⟩; rintro rfl; simp at h
theorem good_parts {k : Int} {nm : ByteArray} {ns : List ByteArray} {as : List T} {r : T} (h : good (.mk k nm ns as r)) : (∀ a ∈ as, good a) /\ (r ≠ .nil -> k = 8 -> good r) := by
  obtain ⟨h1, h2⟩ := h; have h3 := h2; unfold dotted at h3; simp only [Bool.and_eq_true, dotteds_all, List.all_eq_true] at h3; have hs := shape h1; unfold may at h1; simp only [Bool.and_eq_true, mays_all, List.all_eq_true] at h1; refine ⟨fun a ha => ⟨h1.1.2 a ha, h3.1.2 a ha⟩, fun _ e => ?_⟩; subst e; have := h1.2; rw [if_neg (by omega), if_neg (by omega), if_pos rfl] at this; exact ⟨this, h3.2⟩
theorem atom_head {t : T} (h : good t) (h8 : t.kind ≠ 8) (h9 : t.kind ≠ 9) : ((write t).all nameC = true /\ write t ≠ [] /\ write t ≠ [102, 110] /\ t.kind ≠ 7) \/ (∃ ns as, t = .mk 7 .empty ns as .nil) := by
  have hs := shape h.1; have hd := h.2
  cases hs with
  | basic k h1 h5 =>
    obtain ⟨a, b, c, _⟩ := word_all h1 h5; rw [write_basic h1 h5]; exact .inl ⟨a, b, c, by show k ≠ 7; omega⟩
  | name nm hn =>
    rw [write_name]; obtain ⟨a, b⟩ := named_all hn; refine .inl ⟨a, b, fun e => ?_, by show (6 : Int) ≠ 7; omega⟩; unfold dotted at hd; simp [e] at hd
  | record ns as => exact .inr ⟨ns, as, rfl⟩
  | fn => exact (h8 rfl).elim
  | union => exact (h9 rfl).elim
theorem head_of : ∀ t, good t -> ∃ c l, write t = c :: l /\ hA c = false := by
  refine ind (fun h => by cases h.1) fun k nm ns as r ha _ h => ?_; have hs := shape h.1; have hp := (good_parts h).1
  have notA : ∀ c, nameC c = true -> hA c = false := fun c hc => by
    cases hx : hA c with
    | false => rfl
    | true => rw [nameC_bool c hx] at hc; cases hc
  by_cases hk : k = 8 \/ k = 9
  . cases hs with
    | basic _ h1 h5 => omega
    | name => omega
    | record => omega
    | fn => rw [write_fun]; exact ⟨102, _, rfl, by decide⟩
    | union _ hl =>
      rw [write_union]
      cases as with
      | nil => simp at hl
      | cons a as =>
        rw [List.map_cons, join_cons]; unfold inPar; split
        . exact ⟨40, _, rfl, by decide⟩
        . obtain ⟨c, l, e, hc⟩ := ha a (by simp) (hp a (by simp)); rw [e]; exact ⟨c, _, rfl, hc⟩
  . rcases atom_head h (fun e => hk (.inl e)) (fun e => hk (.inr e)) with ⟨h1, h2, _⟩ | ⟨ns', as', e⟩
    . cases hw : write (.mk k nm ns as r) with
      | nil => exact (h2 hw).elim
      | cons c l =>
        rw [hw] at h1; simp only [List.all_cons, Bool.and_eq_true] at h1; exact ⟨c, l, rfl, notA c h1.1⟩
    . rw [e, write_rec]; exact ⟨123, _, rfl, by decide⟩
def tellB (t : T) : Prop := ∀ u, good u -> ∀ r s, hd hF r -> hd hF s -> write t ++ r = write u ++ s -> t = u /\ r = s
def tellA (t : T) : Prop := t.kind ≠ 8 -> t.kind ≠ 9 -> ∀ u, good u -> u.kind ≠ 8 -> u.kind ≠ 9 -> ∀ r s, hd hA r -> hd hA s -> write t ++ r = write u ++ s -> t = u /\ r = s
theorem zip_inj {α β : Type} : ∀ {a a' : List α} {b b' : List β}, a.length = b.length -> a'.length = b'.length -> a.zip b = a'.zip b' -> a = a' /\ b = b'
  | [], [], [], [], _, _, _ => ⟨rfl, rfl⟩
  | x :: a, x' :: a', y :: b, y' :: b', h, h', e => by
    simp only [List.zip_cons_cons, List.cons.injEq, Prod.mk.injEq] at e; obtain ⟨h1, h2⟩ := zip_inj (by simpa using h) (by simpa using h') e.2; exact ⟨by rw [e.1.1, h1], by rw [e.1.2, h2]⟩
  | [], x' :: a', [], y' :: b', _, _, e => by simp at e
  | x :: a, [], y :: b, [], _, _, e => by simp at e
theorem field_all {s : List UInt8} (h : fieldL s = true) : (s.all fun c => letter c || digit c) = true /\ s ≠ [] := by
  simp only [fieldL, Bool.and_eq_true] at h; refine ⟨h.2, ?_⟩; rintro rfl; simp at h
theorem tellA_of {t : T} (g : good t) (ih : ∀ a ∈ t.args, tellB a) : tellA t := by
  intro h8 h9 u gu u8 u9 r s hr hs q; have ht := atom_head g h8 h9; have hu := atom_head gu u8 u9; rcases ht with ⟨t1, t2, t3, t7⟩ | ⟨ns, as, rfl⟩ <;> rcases hu with ⟨u1, u2, u3, u7⟩ | ⟨ms, bs, rfl⟩
  . obtain ⟨e, e'⟩ := run_inj t1 u1 (hn_of_hA hr) (hn_of_hA hs) q; refine ⟨?_, e'⟩; have st := shape g.1; have su := shape gu.1; have dt := g.2; have du := gu.2
    cases st with
    | basic k h1 h5 =>
      rw [write_basic h1 h5] at e
      cases su with
      | basic j j1 j5 => rw [write_basic j1 j5] at e; rw [word_inj h1 h5 j1 j5 e]
      | name nm hn =>
        rw [write_name] at e; have := (word_all h1 h5).2.2.2; unfold dotted at du; rw [<- e, this] at du; simp at du
      | record => exact (u7 rfl).elim
      | fn => exact (u8 rfl).elim
      | union => exact (u9 rfl).elim
    | name nm hn =>
      rw [write_name] at e
      cases su with
      | basic j j1 j5 =>
        rw [write_basic j1 j5] at e; have := (word_all j1 j5).2.2.2; unfold dotted at dt; rw [e, this] at dt; simp at dt
      | name nm' hn' => rw [write_name] at e; rw [txt_inj e]
      | record => exact (u7 rfl).elim
      | fn => exact (u8 rfl).elim
      | union => exact (u9 rfl).elim
    | record => exact (t7 rfl).elim
    | fn => exact (h8 rfl).elim
    | union => exact (h9 rfl).elim
  . rw [write_rec] at q
    cases hw : write t with
    | nil => exact (t2 hw).elim
    | cons c l =>
      rw [hw] at q t1; simp only [List.cons_append, List.cons.injEq] at q; rw [q.1] at t1; simp [nameC, letter, digit] at t1
  . rw [write_rec] at q
    cases hw : write u with
    | nil => exact (u2 hw).elim
    | cons c l =>
      rw [hw] at q u1; simp only [List.cons_append, List.cons.injEq] at q; rw [<- q.1] at u1; simp [nameC, letter, digit] at u1
  . rw [write_rec, write_rec] at q
    replace q := (List.cons.inj q).2
    simp only [List.append_eq] at q; rw [List.append_assoc, List.append_assoc] at q; have sg := shape g.1; have su := shape gu.1; have pg := (good_parts g).1; have pu := (good_parts gu).1
    cases sg with
    | basic => omega
    | record _ _ hl hf hrs ha =>
      cases su with
      | basic => omega
      | record _ _ hl' hf' hrs' ha' =>
        have hF1 : ∀ r, hd hF ([125] ++ r) := fun r => hd_cons (by decide); have hN1 : ∀ r, hd (fun c => c != 44) ([125] ++ r) := fun r => hd_cons (by decide); simp only [List.all_eq_true] at hf hf'
        obtain ⟨e, e'⟩ := joins_inj (fun x : ByteArray × T => txt x.1 ++ [58, 32] ++ write x.2) hF 44 [32] (by decide) (fun x => fieldL (txt x.1) = true /\ good x.2) (ns.zip as) (ms.zip bs) ([125] ++ r) ([125] ++ s)
          (fun x hx => ⟨hf _ (List.of_mem_zip hx).1, pg _ (List.of_mem_zip hx).2⟩) (fun x hx => ⟨hf' _ (List.of_mem_zip hx).1, pu _ (List.of_mem_zip hx).2⟩)
          (fun x hx y hy r s hr hs q => by
            simp only [List.append_assoc] at q; have hcol : ∀ z, hd (fun c => !(letter c || digit c)) ([58, 32] ++ z) := fun z => hd_cons (by decide); obtain ⟨e1, e2⟩ := run_inj (field_all (hf _ (List.of_mem_zip hx).1)).1 (field_all hy.1).1 (hcol _) (hcol _) q; obtain ⟨e3, e4⟩ := ih _ (List.of_mem_zip hx).2 _ hy.2 r s hr hs (List.append_cancel_left e2); exact ⟨Prod.ext (txt_inj e1) e3, e4⟩)
          (hF1 r) (hF1 s) (hN1 r) (hN1 s)
          (fun x hx r s hr e => by
            obtain ⟨h1, h2⟩ := field_all hx.1
            cases hw : txt x.1 with
            | nil => exact h2 hw
            | cons c l =>
              rw [hw] at h1; simp only [List.all_cons, Bool.and_eq_true] at h1; have := hr c (by rw [<- e, hw]; rfl); have hc : nameC c = false := nameC_bool c (by rw [hA, this]; rfl); simp [nameC, h1.1] at hc)
          q
        obtain ⟨rfl, rfl⟩ := zip_inj hl hl' e; exact ⟨rfl, by simpa using e'⟩
theorem atom_open {y : T} {s z : List UInt8} (gy : good y) (h8 : y.kind ≠ 8) (h9 : y.kind ≠ 9) : 40 :: z ≠ write y ++ s := by
  intro q; rcases atom_head gy h8 h9 with ⟨h1, h2, _⟩ | ⟨ns, as, rfl⟩
  . cases hw : write y with
    | nil => exact h2 hw
    | cons c l =>
      rw [hw] at q h1; simp only [List.cons_append, List.cons.injEq] at q; rw [<- q.1] at h1; simp [nameC, letter, digit] at h1
  . rw [write_rec] at q; simp at q
theorem atom_fn {y : T} {s z : List UInt8} (gy : good y) (h8 : y.kind ≠ 8) (h9 : y.kind ≠ 9) (hs : hd hA s) : 102 :: 110 :: 40 :: z ≠ write y ++ s := by
  intro q; rcases atom_head gy h8 h9 with ⟨h1, h2, h3, _⟩ | ⟨ns, as, rfl⟩
  . obtain ⟨e, _⟩ := run_inj (p := nameC) (x := [102, 110]) (r := 40 :: z) (by decide) h1 (hd_cons (by decide)) (hn_of_hA hs) q; exact h3 e.symm
  . rw [write_rec] at q; simp at q
theorem tellP {a : T} (ga : good a) (a9 : a.kind ≠ 9) (h : tellA a /\ tellB a) {b : T} (gb : good b) (b9 : b.kind ≠ 9) {r s : List UInt8} (hr : hd hA r) (hs : hd hA s) (q : inPar a.kind (write a) ++ r = inPar b.kind (write b) ++ s) : a = b /\ r = s := by
  unfold inPar at q
  by_cases a8 : a.kind = 8 <;> by_cases b8 : b.kind = 8
  . rw [if_pos a8, if_pos b8] at q; simp only [List.cons_append, List.cons.injEq, true_and, List.append_assoc] at q; obtain ⟨e, e'⟩ := h.2 b gb _ _ (hd_cons (by decide)) (hd_cons (by decide)) q; exact ⟨e, by simpa using e'⟩
  . rw [if_pos a8, if_neg b8] at q; exact (atom_open gb b8 b9 q).elim
  . rw [if_neg a8, if_pos b8] at q; exact (atom_open ga a8 a9 q.symm).elim
  . rw [if_neg a8, if_neg b8] at q; exact h.1 a8 a9 b gb b8 b9 r s hr hs q
theorem union_head {as : List T} {r : List UInt8} (hl : 2 <= as.length) : ∃ a z, a ∈ as /\ write (.mk 9 .empty [] as .nil) ++ r = inPar a.kind (write a) ++ 32 :: z := by
  match as, hl with
  | a :: b :: l, _ => exact ⟨a, _, by simp, by rw [write_union, List.map_cons, join_cons, List.append_assoc]; rfl⟩
theorem tell : ∀ t, good t -> tellA t /\ tellB t := by
  refine ind (fun h => by cases h.1) fun k nm ns as ret ihA ihR g => ?_; have gp := good_parts g; have hA1 := tellA_of g fun a ha => (ihA a ha (gp.1 a ha)).2; refine ⟨hA1, fun u gu r s hr hs q => ?_⟩; have sg := shape g.1; have su := shape gu.1; have gq := gu
  by_cases hat : k ≠ 8 /\ k ≠ 9
  . by_cases hau : u.kind ≠ 8 /\ u.kind ≠ 9
    . exact hA1 hat.1 hat.2 u gu hau.1 hau.2 r s (hA_of_hF hr) (hA_of_hF hs) q
    . cases su with
      | basic j => exact (hau ⟨by show j ≠ 8; omega, by show j ≠ 9; omega⟩).elim
      | name => exact (hau ⟨by show (6 : Int) ≠ 8; omega, by show (6 : Int) ≠ 9; omega⟩).elim
      | record => exact (hau ⟨by show (7 : Int) ≠ 8; omega, by show (7 : Int) ≠ 9; omega⟩).elim
      | fn =>
        rw [write_fun] at q; exact (atom_fn g hat.1 hat.2 (hA_of_hF hr) q.symm).elim
      | union bs hl hk =>
        obtain ⟨b, z, hb, e⟩ := union_head (r := s) hl; rw [e] at q; have gb := (good_parts gu).1 b hb
        by_cases b8 : b.kind = 8
        . unfold inPar at q; rw [if_pos b8] at q; exact (atom_open g hat.1 hat.2 q.symm).elim
        . unfold inPar at q; rw [if_neg b8] at q; obtain ⟨_, e'⟩ := hA1 hat.1 hat.2 b gb b8 (hk b hb).1 r _ (hA_of_hF hr) (hd_cons (by decide)) q; have := hr 32 (by rw [e']; rfl); exact absurd this (by decide)
  . cases sg with
    | basic => omega
    | name => omega
    | record => omega
    | fn _ _ ha hrm =>
      cases su with
      | basic j h1 h5 => rw [write_fun] at q; exact (atom_fn gu (by show j ≠ 8; omega) (by show j ≠ 9; omega) (hA_of_hF hs) q).elim
      | name => rw [write_fun] at q; exact (atom_fn gu (by show (6 : Int) ≠ 8; omega) (by show (6 : Int) ≠ 9; omega) (hA_of_hF hs) q).elim
      | record => rw [write_fun] at q; exact (atom_fn gu (by show (7 : Int) ≠ 8; omega) (by show (7 : Int) ≠ 9; omega) (hA_of_hF hs) q).elim
      | fn bs ret' hb hrm' =>
        rw [write_fun, write_fun] at q; simp only [List.append_assoc, List.append_cancel_left_eq] at q; have gpu := good_parts gu
        obtain ⟨e, e'⟩ := joins_inj write hF 44 [32] (by decide) good as bs _ _ gp.1 gpu.1 (fun a ha b hb r s hr hs q => (ihA a ha (gp.1 a ha)).2 b hb r s hr hs q)
          (hd_cons (by decide)) (hd_cons (by decide)) (hd_cons (by decide)) (hd_cons (by decide))
          (fun a ha r s hr e => by
            obtain ⟨c, l, h1, h2⟩ := head_of a ha; have := hr c (by rw [<- e, h1]; rfl); rw [hA, this] at h2; cases h2) q
        have e' : write ret ++ r = write ret' ++ s := by simpa using e'
        have hn : ∀ {x : T}, may x = true -> x ≠ .nil := by rintro x hx rfl; cases hx
        obtain ⟨e1, e2⟩ := (ihR (gp.2 (hn hrm) rfl)).2 ret' (gpu.2 (hn hrm') rfl) r s hr hs e'; exact ⟨by rw [e, e1], e2⟩
      | union bs hl hk =>
        obtain ⟨b, z, hb, e⟩ := union_head (r := s) hl; rw [e, write_fun] at q; have gb := (good_parts gu).1 b hb; unfold inPar at q
        by_cases b8 : b.kind = 8
        . rw [if_pos b8] at q; simp at q
        . rw [if_neg b8] at q; exact (atom_fn gb b8 (hk b hb).1 (hd_cons (by decide)) q).elim
    | union _ hl hk =>
      by_cases hau : u.kind = 9
      . cases su with
        | basic => simp only [T.kind] at hau; omega
        | name => simp [T.kind] at hau
        | record => simp [T.kind] at hau
        | fn => simp [T.kind] at hau
        | union bs hl' hk' =>
          rw [write_union, write_union] at q; have gpu := good_parts gu
          have nA : ∀ {r}, hd hF r -> hd (fun c => c != 32) r := fun hr c e => by
            have := hr c e
            cases hc : (c != 32) with
            | true => exact hc
            | false => rw [bne_eq_false_iff_eq] at hc; subst hc; exact absurd this (by decide)
          obtain ⟨e, e'⟩ := joins_inj (fun a => inPar a.kind (write a)) hA 32 [124, 32] (by decide) (fun a => good a /\ a.kind ≠ 9) as bs r s (fun a ha => ⟨gp.1 a ha, (hk a ha).1⟩) (fun a ha => ⟨gpu.1 a ha, (hk' a ha).1⟩)
            (fun a ha b hb r s hr hs q => tellP (gp.1 a ha) (hk a ha).1 (ihA a ha (gp.1 a ha)) hb.1 hb.2 hr hs q)
            (hA_of_hF hr) (hA_of_hF hs) (nA hr) (nA hs)
            (fun a ha r s hr e => by
              unfold inPar at e; split at e
              . have := hr 40 (by rw [<- e]; rfl); exact absurd this (by decide)
              . obtain ⟨c, l, h1, h2⟩ := head_of a ha.1; have := hr c (by rw [<- e, h1]; rfl); rw [this] at h2; cases h2) q
          exact ⟨by rw [e], e'⟩
      . obtain ⟨a, z, ha, e⟩ := union_head (r := r) hl; rw [e] at q; have ga := gp.1 a ha; unfold inPar at q
        by_cases u8 : u.kind = 8
        . cases su with
          | basic => simp only [T.kind] at u8; omega
          | name => simp [T.kind] at u8
          | record => simp [T.kind] at u8
          | union => simp [T.kind] at u8
          | fn bs ret' =>
            rw [write_fun] at q
            by_cases a8 : a.kind = 8
            . rw [if_pos a8] at q; simp at q
            . rw [if_neg a8] at q; exact (atom_fn ga a8 (hk a ha).1 (hd_cons (by decide)) q.symm).elim
        . by_cases a8 : a.kind = 8
          . rw [if_pos a8] at q; exact (atom_open gu u8 hau q).elim
          . rw [if_neg a8] at q; obtain ⟨_, e'⟩ := (ihA a ha ga).1 a8 (hk a ha).1 u gu u8 hau _ s (hd_cons (by decide)) (hA_of_hF hs) q; have := hs 32 (by rw [<- e']; rfl); exact absurd this (by decide)
theorem write_inj {t u : T} (ht : good t) (hu : good u) (h : write t = write u) : t = u := by
  have hnil : hd hF [] := fun c e => by cases e
  exact ((tell t ht).2 u hu [] [] hnil hnil (by rw [h])).1
theorem join_len (sep : List UInt8) (c : Nat) {α : Type} (E : α -> List UInt8) (m : α -> Nat) : ∀ l : List α, (∀ a ∈ l, (E a).length + sep.length + c <= m a) -> (join sep (l.map E)).length + c * l.length <= (l.map m).sum
  | [], _ => by simp [join]
  | [a], h => by
    have := h a (by simp); simp [join]; omega
  | a :: b :: l, h => by
    have ih := join_len sep c E m (b :: l) fun x hx => h x (by simp [hx]); have := h a (by simp); simp only [List.map_cons, join, List.length_append, List.length_cons, List.sum_cons] at ih ⊢; have : c * (l.length + 1 + 1) = c * (l.length + 1) + c := by rw [Nat.mul_add c (l.length + 1) 1, Nat.mul_one]
    omega
theorem sizes_sum (l : List T) : (l.map fun a => 200 * size a).sum = 200 * sizes l := by
  induction l with
  | nil => rfl
  | cons t l ih => simp only [List.map_cons, List.sum_cons, ih, sizes]; omega
theorem zip_sum : ∀ (ns : List ByteArray) (as : List T), ns.length = as.length -> ((ns.zip as).map fun x => 200 * size x.2).sum = 200 * sizes as
  | [], [], _ => rfl
  | n :: ns, a :: as, h => by
    have := zip_sum ns as (by simpa using h); simp only [List.zip_cons_cons, List.map_cons, List.sum_cons, this, sizes]; omega
theorem write_len : ∀ t, may t = true -> (write t).length + 30 <= 200 * size t := by
  refine ind (fun h => by cases h) fun k nm ns as r ihA ihR h => ?_; have hs := shape h
  have h1 : ∀ a ∈ as, may a = true := by
    unfold may at h; simp only [Bool.and_eq_true, mays_all, List.all_eq_true] at h; exact h.1.2
  have ih : ∀ a ∈ as, (write a).length + 30 <= 200 * size a := fun a ha => ihA a ha (h1 a ha); have hsz : size (.mk k nm ns as r) = 1 + sizes as + size r := by rw [size]
  rw [hsz]
  cases hs with
  | basic _ g1 g5 =>
    rw [write_basic g1 g5]
    have : (word k).length <= 4 := by
      have hk : k = 1 \/ k = 2 \/ k = 3 \/ k = 4 \/ k = 5 := by omega
      rcases hk with rfl | rfl | rfl | rfl | rfl <;> decide
    omega
  | name _ hn =>
    rw [write_name]; simp only [namedL, Bool.and_eq_true, decide_eq_true_eq] at hn; omega
  | record _ _ hl hf hr ha =>
    rw [write_rec]; simp only [List.all_eq_true] at hf
    have := join_len [44, 32] 0 (fun x : ByteArray × T => txt x.1 ++ [58, 32] ++ write x.2) (fun x => 200 * size x.2) (ns.zip as) (fun x hx => by
      have := ih _ (List.of_mem_zip hx).2; have hx1 := hf _ (List.of_mem_zip hx).1; simp only [fieldL, Bool.and_eq_true, decide_eq_true_eq] at hx1; simp only [List.length_append, List.length_cons, List.length_nil]; omega)
    rw [zip_sum ns as hl] at this; simp only [List.length_cons, List.length_append, List.length_nil]; omega
  | fn _ _ ha hr =>
    rw [write_fun]
    have := join_len [44, 32] 0 write (fun x => 200 * size x) as fun x hx => by
      have := ih x hx; simp only [List.length_cons, List.length_nil]; omega
    rw [sizes_sum] at this; have := ihR hr; simp only [List.length_cons, List.length_append, List.length_nil]; omega
  | union _ hl hk hr ha =>
    rw [write_union]
    have := join_len [32, 124, 32] 0 (fun a => inPar a.kind (write a)) (fun x => 200 * size x) as fun x hx => by
      have := ih x hx; have : (inPar x.kind (write x)).length <= (write x).length + 2 := by unfold inPar; split <;> simp
      simp only [List.length_cons, List.length_nil]; omega
    rw [sizes_sum] at this; have : 0 < size (.nil : T) + 1 := by omega
    omega
end Go.Ty
namespace Go.Ty
theorem size_args {a x : T} (h : x ∈ a.args) : size x < size a := by
  cases a with
  | nil => cases h
  | mk => exact size_arg h
theorem may_args {a : T} (h : may a = true) : (∀ x ∈ a.args, may x = true) /\ (a.kind = 8 -> may a.ret = true) /\ size a = 1 + sizes a.args + size a.ret := by
  cases a with
  | nil => cases h
  | mk k nm ns as r =>
    have hs := shape h; unfold may at h; simp only [Bool.and_eq_true, mays_all, List.all_eq_true] at h; refine ⟨h.1.2, fun e => ?_, by rw [size]; rfl⟩; have e : k = 8 := e; have := h.2; rw [if_neg (by omega), if_neg (by omega), if_pos e] at this; exact this
theorem lt_trans' {a b c : List UInt8} (h : a < b) (k : b < c) : a < c := List.lt_trans h k
theorem lt_irr {a : List UInt8} : ¬ a < a := List.lt_irrefl a
theorem lt_of_ne {a b : List UInt8} (h : ¬ a < b) (hn : a ≠ b) : b < a := by
  refine Classical.byContradiction fun k => hn ?_; exact List.le_antisymm (List.not_lt.1 k) (List.not_lt.1 h)
theorem rising_iff : ∀ {l : List (List UInt8)}, rising l = true ↔ l.Pairwise (· < ·)
  | [] => by simp [rising]
  | [a] => by simp [rising]
  | a :: b :: l => by
    rw [rising, Bool.and_eq_true, decide_eq_true_eq, rising_iff]; constructor
    . rintro ⟨h1, h2⟩; refine List.pairwise_cons.2 ⟨fun x hx => ?_, h2⟩; rcases List.mem_cons.1 hx with rfl | hx
      . exact h1
      . exact lt_trans' h1 ((List.pairwise_cons.1 h2).1 x hx)
    . intro h; obtain ⟨h1, h2⟩ := List.pairwise_cons.1 h; exact ⟨h1 b (by simp), h2⟩
abbrev SortedP (l : List (ByteArray × T)) : Prop := l.Pairwise fun x y => txt x.1 < txt y.1
theorem insP_perm (n : ByteArray) (a : T) : ∀ l, (insP n a l).Perm ((n, a) :: l)
  | [] => List.Perm.refl _
  | (m, b) :: l => by
    unfold insP; split
    . exact ((insP_perm n a l).cons _).trans (List.Perm.swap _ _ _)
    . exact List.Perm.refl _
theorem insP_sorted {n : ByteArray} {a : T} : ∀ {l}, SortedP l -> (∀ x ∈ l, x.1 ≠ n) -> SortedP (insP n a l)
  | [], _, _ => by simp [insP]
  | (m, b) :: l, h, hn => by
    obtain ⟨h1, h2⟩ := List.pairwise_cons.1 h; unfold insP; split
    . rename_i hlt; refine List.pairwise_cons.2 ⟨fun x hx => ?_, insP_sorted h2 fun x hx => hn x (by simp [hx])⟩; rcases List.mem_cons.1 ((insP_perm n a l).mem_iff.1 hx) with rfl | hx
      . exact hlt
      . exact h1 x hx
    . rename_i hlt; have hnm : txt n < txt m := lt_of_ne hlt fun e => hn (m, b) (by simp) (txt_inj e); refine List.pairwise_cons.2 ⟨fun x hx => ?_, h⟩; rcases List.mem_cons.1 hx with rfl | hx
      . exact hnm
      . exact lt_trans' hnm (h1 x hx)
theorem foldP : ∀ (l m : List (ByteArray × T)), SortedP m -> ((m ++ l).map (·.1)).Nodup -> SortedP (l.foldl (fun m x => insP x.1 x.2 m) m) /\ (l.foldl (fun m x => insP x.1 x.2 m) m).Perm (m ++ l)
  | [], m, h, _ => ⟨h, by simp⟩
  | x :: l, m, h, hn => by
    have hp : (insP x.1 x.2 m ++ l).Perm (m ++ x :: l) := ((insP_perm x.1 x.2 m).append_right l).trans (by simpa using List.perm_middle.symm)
    have hx : ∀ y ∈ m, y.1 ≠ x.1 := by
      intro y hy e; rw [List.map_append, List.nodup_append] at hn; exact hn.2.2 y.1 (List.mem_map_of_mem hy) x.1 (List.mem_map_of_mem (by simp)) e
    obtain ⟨h1, h2⟩ := foldP l (insP x.1 x.2 m) (insP_sorted h hx) ((hp.map _).nodup_iff.2 hn); exact ⟨h1, h2.trans hp⟩
theorem sortP_spec {l : List (ByteArray × T)} (hn : (l.map (·.1)).Nodup) : SortedP (sortP l) /\ (sortP l).Perm l := by
  have := foldP l [] List.Pairwise.nil (by simpa using hn); exact ⟨this.1, this.2.trans (by simp)⟩
theorem sortP_eq {l m : List (ByteArray × T)} (hp : m.Perm l) (hs : SortedP m) (hn : (l.map (·.1)).Nodup) : sortP l = m := by
  obtain ⟨h1, h2⟩ := sortP_spec hn; refine List.Perm.eq_of_pairwise (le := fun x y => txt x.1 < txt y.1) (fun a b _ _ k k' => (lt_irr (lt_trans' k k')).elim) h1 hs (h2.trans hp.symm)
theorem fst_zip {α β : Type} : ∀ {a : List α} {b : List β}, a.length = b.length -> (a.zip b).map (·.1) = a /\ (a.zip b).map (·.2) = b
  | [], [], _ => ⟨rfl, rfl⟩
  | x :: a, y :: b, h => by
    obtain ⟨h1, h2⟩ := fst_zip (a := a) (b := b) (by simpa using h); exact ⟨by simp [h1], by simp [h2]⟩
theorem check_iff {t : T} : check t = 0 ↔ may t = true /\ size t <= 60 := by
  unfold check
  cases t with
  | nil => simp [T.isNil, may]
  | mk k nm ns as r =>
    simp only [T.isNil, Bool.false_eq_true, if_false]; split
    . rename_i h; constructor
      . intro e; cases e
      . intro e; omega
    . rename_i h; cases hm : may (.mk k nm ns as r) <;> simp <;> omega
theorem fits_ok {t : T} (h : may t = true) : (fits t).2 = 0 -> (fits t).1 = t /\ check t = 0 := by
  unfold fits; split
  . intro e; cases e
  . intro _; exact ⟨rfl, check_iff.2 ⟨h, by omega⟩⟩
theorem allOk_iff {l : List T} : allOk l = true ↔ ∀ a ∈ l, check a = 0 := by simp [allOk]
theorem rec_may {ns : List ByteArray} {as : List T} (hl : ns.length = as.length) (ha : ∀ a ∈ as, may a = true) (hf : (ns.all fun n => fieldL (txt n)) = true) (hr : (ns.map txt).Pairwise (· < ·)) : may (.mk 7 .empty ns as .nil) = true := by
  rw [may, mays_all, if_neg (by omega), if_pos rfl]; simp only [Bool.and_eq_true, List.all_eq_true]; simp only [List.all_eq_true] at hf; refine ⟨⟨⟨⟨⟨⟨⟨by decide, by decide⟩, by simp⟩, by simp⟩, by simp⟩, by simp [T.isNil]⟩, ha⟩, ⟨by simp [hl], hf⟩, rising_iff.2 hr⟩
theorem fun_may {as : List T} {r : T} (ha : ∀ a ∈ as, may a = true) (hr : may r = true) : may (.mk 8 .empty [] as r) = true := by
  have hn : r.isNil = false := by
    cases r with
    | nil => cases hr
    | mk => rfl
  rw [may, mays_all, if_neg (by omega), if_neg (by omega), if_pos rfl]; simp only [Bool.and_eq_true, List.all_eq_true]; exact ⟨⟨⟨⟨⟨⟨⟨by decide, by decide⟩, by simp⟩, by simp⟩, by simp⟩, by simp [hn]⟩, ha⟩, hr⟩
theorem union_may {as : List T} (hl : 2 <= as.length) (ha : ∀ a ∈ as, may a = true) (hk : ∀ a ∈ as, a.kind ≠ 9 /\ a.kind ≠ 1) (hr : (as.map write).Pairwise (· < ·)) : may (.mk 9 .empty [] as .nil) = true := by
  rw [may, mays_all, writes_map, if_neg (by omega), if_neg (by omega), if_neg (by omega), if_pos rfl]; simp only [Bool.and_eq_true, List.all_eq_true, decide_eq_true_eq, Bool.not_eq_true', beq_eq_false_iff_ne]; exact ⟨⟨⟨⟨⟨⟨⟨by decide, by decide⟩, by simp⟩, by simp⟩, by simp⟩, by simp [T.isNil]⟩, ha⟩, ⟨hl, hk⟩, rising_iff.2 hr⟩
theorem names_sorted {ns : List ByteArray} {as : List T} (hl : ns.length = as.length) (hn : ns.Nodup) : (((sortP (ns.zip as)).map (·.1)).map txt).Pairwise (· < ·) /\ (sortP (ns.zip as)).Perm (ns.zip as) := by
  obtain ⟨h1, h2⟩ := sortP_spec (l := ns.zip as) (by rw [(fst_zip hl).1]; exact hn); refine ⟨?_, h2⟩; rw [List.map_map, List.pairwise_map]; exact h1
theorem recF_ok {ns : List ByteArray} {as : List T} (h : (recF ns as).2 = 0) : check (recF ns as).1 = 0 /\ ns.length = as.length /\ (∀ a ∈ as, check a = 0) /\ ns.Nodup /\ (∀ n ∈ ns, fieldL (txt n) = true) /\ (recF ns as).1 = .mk 7 .empty ((sortP (ns.zip as)).map (·.1)) ((sortP (ns.zip as)).map (·.2)) .nil := by
  unfold recF at h ⊢; split at h
  . rename_i hc; rw [if_pos hc]; obtain ⟨hl, ha, hf, hn⟩ := hc; obtain ⟨h1, h2⟩ := names_sorted hl hn; rw [allOk_iff] at ha
    have hm : may (.mk 7 .empty ((sortP (ns.zip as)).map (·.1)) ((sortP (ns.zip as)).map (·.2)) .nil) = true := by
      refine rec_may (by simp) (fun a hx => ?_) ?_ h1
      . obtain ⟨x, hy, rfl⟩ := List.mem_map.1 hx; exact (check_iff.1 (ha _ (List.of_mem_zip (h2.mem_iff.1 hy)).2)).1
      . simp only [List.all_eq_true] at hf ⊢; intro n hx; obtain ⟨x, hy, rfl⟩ := List.mem_map.1 hx; exact hf _ (List.of_mem_zip (h2.mem_iff.1 hy)).1
    obtain ⟨e1, e2⟩ := fits_ok hm h; exact ⟨by rw [e1]; exact e2, hl, ha, hn, by simpa using hf, e1⟩
  . cases h
theorem funF_ok {as : List T} {r : T} (h : (funF as r).2 = 0) : check (funF as r).1 = 0 /\ (∀ a ∈ as, check a = 0) /\ check r = 0 /\ (funF as r).1 = .mk 8 .empty [] as r := by
  unfold funF at h ⊢; split at h
  . rename_i hc; rw [if_pos hc]; simp only [Bool.and_eq_true, beq_iff_eq, allOk_iff] at hc; obtain ⟨e1, e2⟩ := fits_ok (fun_may (fun a ha => (check_iff.1 (hc.1 a ha)).1) (check_iff.1 hc.2).1) h; exact ⟨by rw [e1]; exact e2, hc.1, hc.2, e1⟩
  . cases h
abbrev SortedT (l : List T) : Prop := l.Pairwise fun x y => write x < write y
theorem insT_sub (t : T) : ∀ l, (∀ u ∈ insT t l, u = t \/ u ∈ l) /\ (∀ u ∈ l, u ∈ insT t l) /\ (∃ u ∈ insT t l, write u = write t)
  | [] => by simp [insT]
  | v :: l => by
    obtain ⟨h1, h2, w, h3, h4⟩ := insT_sub t l; unfold insT; split
    . refine ⟨fun u hu => ?_, fun u hu => ?_, w, by simp [h3], h4⟩
      . rcases List.mem_cons.1 hu with rfl | hu
        . simp
        . rcases h1 u hu with h | h <;> simp [h]
      . rcases List.mem_cons.1 hu with rfl | hu
        . simp
        . simp [h2 u hu]
    . split
      . rename_i he; exact ⟨fun u hu => .inr hu, fun u hu => hu, v, by simp, he⟩
      . exact ⟨fun u hu => by simpa using hu, fun u hu => by simp at hu ⊢; exact .inr hu, t, by simp, rfl⟩
theorem insT_sorted {t : T} : ∀ {l}, SortedT l -> SortedT (insT t l)
  | [], _ => by simp [insT]
  | v :: l, h => by
    obtain ⟨h1, h2⟩ := List.pairwise_cons.1 h; unfold insT; split
    . rename_i hlt; refine List.pairwise_cons.2 ⟨fun x hx => ?_, insT_sorted h2⟩; rcases (insT_sub t l).1 x hx with rfl | hx
      . exact hlt
      . exact h1 x hx
    . split
      . exact h
      . rename_i hlt hne; have hlt := lt_of_ne hlt hne; refine List.pairwise_cons.2 ⟨fun x hx => ?_, h⟩; rcases List.mem_cons.1 hx with rfl | hx
        . exact hlt
        . exact lt_trans' hlt (h1 x hx)
theorem foldT : ∀ (l m : List T), SortedT m -> SortedT (l.foldl (fun m t => insT t m) m) /\ (∀ u ∈ l.foldl (fun m t => insT t m) m, u ∈ m \/ u ∈ l) /\ (∀ u ∈ m, u ∈ l.foldl (fun m t => insT t m) m) /\ (∀ u ∈ l, ∃ v ∈ l.foldl (fun m t => insT t m) m, write v = write u)
  | [], m, h => ⟨h, fun u hu => .inl hu, fun u hu => hu, fun u hu => by cases hu⟩
  | t :: l, m, h => by
    obtain ⟨h1, h2, h3, h4⟩ := foldT l (insT t m) (insT_sorted h); obtain ⟨g1, g2, w, g3, g4⟩ := insT_sub t m; refine ⟨h1, fun u hu => ?_, fun u hu => h3 u (g2 u hu), fun u hu => ?_⟩
    . rcases h2 u hu with hu | hu
      . rcases g1 u hu with rfl | hu
        . simp
        . exact .inl hu
      . exact .inr (by simp [hu])
    . rcases List.mem_cons.1 hu with rfl | hu
      . exact ⟨w, h3 w g3, g4⟩
      . exact h4 u hu
theorem outT_spec (l : List T) : SortedT (outT l) /\ (∀ u ∈ outT l, u ∈ flatT l) /\ (∀ u ∈ flatT l, ∃ v ∈ outT l, write v = write u) := by
  obtain ⟨h1, h2, _, h4⟩ := foldT (flatT l) [] List.Pairwise.nil; exact ⟨h1, fun u hu => (h2 u hu).resolve_left (by simp), h4⟩
theorem flat_mem {l : List T} {u : T} (h : u ∈ flatT l) (hl : ∀ a ∈ l, may a = true) : (∃ a ∈ l, u = a /\ a.kind ≠ 9 \/ ∃ a ∈ l, a.kind = 9 /\ u ∈ a.args) /\ may u = true /\ u.kind ≠ 9 /\ ((∀ a ∈ l, a.kind ≠ 1) -> u.kind ≠ 1) := by
  obtain ⟨a, ha, hu⟩ := List.mem_flatMap.1 h; split at hu
  . rename_i h9; have hs := shape (hl a ha); obtain ⟨hA, _⟩ := may_args (hl a ha)
    cases hs with
    | basic => simp only [T.kind] at h9; omega
    | name => simp [T.kind] at h9
    | record => simp [T.kind] at h9
    | fn => simp [T.kind] at h9
    | union as _ hk => exact ⟨⟨_, ha, .inr ⟨_, ha, rfl, hu⟩⟩, hA u hu, (hk u hu).1, fun _ => (hk u hu).2⟩
  . rename_i h9; obtain rfl : u = a := by simpa using hu
    exact ⟨⟨u, ha, .inl ⟨rfl, h9⟩⟩, hl u ha, h9, fun h => h u ha⟩
theorem flat_ne {l : List T} (h : l ≠ []) (hl : ∀ a ∈ l, may a = true) : ∃ u, u ∈ flatT l := by
  cases l with
  | nil => exact (h rfl).elim
  | cons a l =>
    by_cases h9 : a.kind = 9
    . have hs := shape (hl a (by simp))
      cases hs with
      | basic => simp only [T.kind] at h9; omega
      | name => simp [T.kind] at h9
      | record => simp [T.kind] at h9
      | fn => simp [T.kind] at h9
      | union as hl2 =>
        match as, hl2 with
        | x :: y :: z, _ => exact ⟨x, List.mem_flatMap.2 ⟨_, List.mem_cons_self, by rw [if_pos h9]; exact List.mem_cons_self⟩⟩
    . exact ⟨a, List.mem_flatMap.2 ⟨a, by simp, by rw [if_neg h9]; simp⟩⟩
theorem unionF_ok {l : List T} (h : (unionF l).2 = 0) : check (unionF l).1 = 0 /\ l ≠ [] /\ (∀ a ∈ l, check a = 0) /\
    (((∃ a ∈ l, a.kind = 1) /\ (unionF l).1 = .mk 1 .empty [] [] .nil) \/ ((∀ a ∈ l, a.kind ≠ 1) /\ ((∃ t, outT l = [t] /\ (unionF l).1 = t) \/ (2 <= (outT l).length /\ (unionF l).1 = .mk 9 .empty [] (outT l) .nil)))) := by
  unfold unionF at h ⊢; split at h
  . cases h
  . rename_i hc; rw [if_neg hc]; simp only [Bool.or_eq_true, List.isEmpty_iff, Bool.not_eq_true', not_or, Bool.not_eq_false, allOk_iff] at hc; obtain ⟨hne, hall⟩ := hc; have hm : ∀ a ∈ l, may a = true := fun a ha => (check_iff.1 (hall a ha)).1; split at h
    . rename_i h1; rw [if_pos h1]; refine ⟨by decide, hne, hall, .inl ⟨by simpa using h1, rfl⟩⟩
    . rename_i h1; rw [if_neg h1]; have h1 : ∀ a ∈ l, a.kind ≠ 1 := by simpa using h1
      obtain ⟨o1, o2, o3⟩ := outT_spec l; split at h
      . rename_i t e; have ht := o2 t (by rw [e]; simp); obtain ⟨hx, _⟩ := flat_mem ht hm; refine ⟨?_, hne, hall, .inr ⟨h1, .inl ⟨t, e, rfl⟩⟩⟩; obtain ⟨a, ha, ⟨rfl, _⟩ | ⟨b, hb, h9, hu⟩⟩ := hx
        . exact hall _ ha
        . refine check_iff.2 ⟨(may_args (hm b hb)).1 t hu, ?_⟩; have := (check_iff.1 (hall b hb)).2; have := size_args hu; show size t <= 60; omega
      . rename_i hn
        have h2 : 2 <= (outT l).length := by
          obtain ⟨u, hu⟩ := flat_ne hne hm; obtain ⟨v, hv, _⟩ := o3 u hu
          match ho : outT l with
          | [] => rw [ho] at hv; cases hv
          | [t] => exact (hn t ho).elim
          | _ :: _ :: _ => simp
        have hmay : may (.mk 9 .empty [] (outT l) .nil) = true := union_may h2 (fun a ha => (flat_mem (o2 a ha) hm).2.1) (fun a ha => ⟨(flat_mem (o2 a ha) hm).2.2.1, (flat_mem (o2 a ha) hm).2.2.2 h1⟩) (by rw [List.pairwise_map]; exact o1); obtain ⟨e1, e2⟩ := fits_ok hmay h; exact ⟨by rw [e1]; exact e2, hne, hall, .inr ⟨h1, .inr ⟨h2, e1⟩⟩⟩
theorem dotted_iff {k : Int} {nm : ByteArray} {ns : List ByteArray} {as : List T} {r : T} : dotted (.mk k nm ns as r) = true ↔ (k = 6 -> (txt nm).contains 46 = true) /\ (∀ a ∈ as, dotted a = true) /\ dotted r = true := by
  rw [dotted]; simp only [Bool.and_eq_true, Bool.or_eq_true, bne_iff_ne, dotteds_all, List.all_eq_true, and_assoc]; refine and_congr_left fun _ => ?_; constructor
  . rintro (h | h) e
    . exact (h e).elim
    . exact h
  . intro h
    by_cases e : k = 6
    . exact .inr (h e)
    . exact .inl e
structure Parts (p : T -> Prop) : Prop where
  leaf : p .nil
  node : ∀ k ns as, 7 <= k -> (∀ a ∈ as, p a) -> ∀ r, p r -> p (.mk k .empty ns as r)
  args : ∀ a, p a -> ∀ x ∈ a.args, p x
  ret : ∀ a, p a -> p a.ret
theorem parts_dotted : Parts (fun t => dotted t = true) where
  leaf := rfl
  node k ns as hk ha r hr := dotted_iff.2 ⟨fun e => by omega, ha, hr⟩
  args a h x hx := by
    cases a with
    | nil => cases hx
    | mk => exact (dotted_iff.1 h).2.1 x hx
  ret a h := by
    cases a with
    | nil => rfl
    | mk => exact (dotted_iff.1 h).2.2
theorem recF_parts {p : T -> Prop} (hp : Parts p) {ns : List ByteArray} {as : List T} (ha : ∀ a ∈ as, p a) : p (recF ns as).1 := by
  unfold recF; split
  . rename_i hc; unfold fits; split
    . exact hp.leaf
    . refine hp.node 7 _ _ (by omega) (fun a hx => ?_) _ hp.leaf; obtain ⟨x, hy, rfl⟩ := List.mem_map.1 hx; exact ha _ (List.of_mem_zip ((names_sorted hc.1 hc.2.2.2).2.mem_iff.1 hy)).2
  . exact hp.leaf
theorem funF_parts {p : T -> Prop} (hp : Parts p) {as : List T} {r : T} (ha : ∀ a ∈ as, p a) (hr : p r) : p (funF as r).1 := by
  unfold funF; split
  . unfold fits; split
    . exact hp.leaf
    . exact hp.node 8 _ _ (by omega) ha _ hr
  . exact hp.leaf
theorem unionF_parts {p : T -> Prop} (hp : Parts p) {l : List T} (ha : ∀ a ∈ l, p a) (h1 : (∃ a ∈ l, a.kind = 1) -> p (.mk 1 .empty [] [] .nil)) : p (unionF l).1 := by
  have ho : ∀ u ∈ outT l, p u := by
    intro u hu; obtain ⟨a, ha', hu⟩ := List.mem_flatMap.1 ((outT_spec l).2.1 u hu); split at hu
    . exact hp.args a (ha a ha') u hu
    . obtain rfl : u = a := by simpa using hu
      exact ha u ha'
  unfold unionF; split
  . exact hp.leaf
  . split
    . rename_i h; exact h1 (by simpa using h)
    . split
      . rename_i t e; exact ho t (by rw [e]; simp)
      . unfold fits; split
        . exact hp.leaf
        . exact hp.node 9 _ _ (by omega) ho _ hp.leaf
theorem unionF_dotted {l : List T} (ha : ∀ a ∈ l, dotted a = true) : dotted (unionF l).1 = true := unionF_parts parts_dotted ha fun _ => rfl
end Go.Ty
namespace Go.Ty
structure Mk where
  left : List UInt8
  nodes : Nat
def Mk.next (m : Mk) (n : Nat) : Nat × Mk := match m.left with
  | [] => (0, m)
  | c :: l => (c.toNat % n, ⟨l, m.nodes⟩)
def nameOf (i : Nat) : ByteArray := bs (([[97], [98], [99], [100], [95, 120], [97], [98], [], [49]] : List (List UInt8)).getD i [])
def tyNameOf (i : Nat) : ByteArray := bs (([[109, 46, 84], [109, 46, 85], [108, 105, 98, 47, 120, 46, 84], [], [97, 32, 98]] : List (List UInt8)).getD i [])
def Mk.name (m : Mk) : ByteArray × Mk :=
  let a := m.next 20
  let b := a.2.next (if a.1 < 19 then 7 else 9)
  (nameOf b.1, b.2)
def Mk.namesN : Nat -> Mk -> List ByteArray × Mk
  | 0, m => ([], m)
  | n + 1, m => let a := m.name; let b := namesN n a.2; (a.1 :: b.1, b.2)
def Mk.manyN (one : Mk -> T × Mk) : Nat -> Mk -> List T × Mk
  | 0, m => ([], m)
  | n + 1, m => let a := one m; let b := manyN one n a.2; (a.1 :: b.1, b.2)
def Mk.some (one : Mk -> T × Mk) (m : Mk) : List T × Mk := let a := m.next 4; manyN one a.1 a.2
def madeF (t : T) : T × Int := if t.kind = 7 then recF t.names t.args else if t.kind = 8 then funF t.args t.ret else if t.kind = 9 then unionF t.args else (t, 0)
def Mk.fin (raw : Bool) (t : T) (m : Mk) : T × Mk :=
  if raw then
    let a := m.next 6
    let b : Int × Mk := if a.1 = 5 then let c := a.2.next 12; ((c.1 : Int) - 1, c.2) else (t.kind, a.2)
    let d := b.2.next 9
    (if d.1 = 8 then .nil else .mk b.1 t.name t.names t.args t.ret, d.2)
  else (if (madeF t).2 ≠ 0 then .mk 2 .empty [] [] .nil else (madeF t).1, m)
def Mk.one : Nat -> Mk -> T × Mk
  | d, m0 =>
    let m1 : Mk := ⟨m0.left, m0.nodes + 1⟩
    let a := m1.next 9
    let b := if d < 1 \/ m1.nodes > 150 then a.2.next 6 else a
    let k : Int := 1 + b.1
    let r := b.2.next 30
    let raw := r.1 == 29
    if k = 6 then
      let x := r.2.next 3
      let y := if raw then x.2.next 5 else x
      Mk.fin raw (.mk 6 (tyNameOf y.1) [] [] .nil) y.2
    else match d with
    | 0 => Mk.fin raw (.mk k .empty [] [] .nil) r.2
    | d + 1 =>
      if k = 7 then
        let l := Mk.some (Mk.one d) r.2
        let n := Mk.namesN l.1.length l.2
        Mk.fin raw (.mk 7 .empty n.1 l.1 .nil) n.2
      else if k = 8 then
        let l := Mk.some (Mk.one d) r.2
        let t := Mk.one d l.2
        Mk.fin raw (.mk 8 .empty [] l.1 t.1) t.2
      else if k = 9 then
        let l := Mk.some (Mk.one d) r.2
        Mk.fin raw (.mk 9 .empty [] l.1 .nil) l.2
      else Mk.fin raw (.mk k .empty [] [] .nil) r.2
def typF (c : List UInt8) : T := (Mk.one 4 ⟨c.take 300, 0⟩).1
def Dm (t : T) : Prop := may t = true -> dotted t = true
theorem dm_of_kind {k : Int} {nm : ByteArray} {ns : List ByteArray} {as : List T} {r : T} (hn : namedL (txt nm) = true -> (txt nm).contains 46 = true) (ha : ∀ a ∈ as, Dm a) (hr : Dm r) : Dm (.mk k nm ns as r) := by
  intro h; have h' := h; have hs := shape h; obtain ⟨mA, mR, _⟩ := may_args h; have hA : ∀ a ∈ as, dotted a = true := fun a hx => ha a hx (mA a hx)
  cases hs with
  | basic _ _ h5 => exact dotted_iff.2 ⟨fun e => by omega, hA, rfl⟩
  | name _ h1 => exact dotted_iff.2 ⟨fun _ => hn h1, hA, rfl⟩
  | record => exact dotted_iff.2 ⟨fun e => by omega, hA, rfl⟩
  | fn => exact dotted_iff.2 ⟨fun e => by omega, hA, hr (mR rfl)⟩
  | union => exact dotted_iff.2 ⟨fun e => by omega, hA, rfl⟩
theorem dm_nil : Dm .nil := fun h => by cases h
theorem dm_made {t : T} (ht : Dm t) (ha : ∀ a ∈ t.args, Dm a) (hr : Dm t.ret) : (madeF t).2 = 0 -> Dm (madeF t).1 := by
  have key : ∀ {l : List T}, (∀ a ∈ l, Dm a) -> (∀ a ∈ l, check a = 0) -> ∀ a ∈ l, dotted a = true := fun h1 h2 a hx => h1 a hx (check_iff.1 (h2 a hx)).1; unfold madeF; split
  . intro h _; exact recF_parts parts_dotted (key ha (recF_ok h).2.2.1)
  split
  . intro h _; obtain ⟨_, h1, h2, _⟩ := funF_ok h; exact funF_parts parts_dotted (key ha h1) (hr (check_iff.1 h2).1)
  split
  . intro h _; exact unionF_dotted (key ha (unionF_ok h).2.2.1)
  . exact fun _ => ht
end Go.Ty
namespace Go.Ty
def Goods (l : List T) : Prop := ∀ a ∈ l, good a /\ check a = 0
theorem goods_of {l : List T} (hd : ∀ a ∈ l, Dm a) (hc : ∀ a ∈ l, check a = 0) : Goods l := fun a ha => ⟨⟨(check_iff.1 (hc a ha)).1, hd a ha (check_iff.1 (hc a ha)).1⟩, hc a ha⟩
def Tells (l : List T) : Prop := ∀ x ∈ flatT l, ∀ y ∈ flatT l, write x = write y -> x = y
theorem good_args {t x : T} (h : good t) (hx : x ∈ t.args) : good x := by
  cases t with
  | nil => cases hx
  | mk => exact (good_parts h).1 x hx
theorem flat_good {l : List T} (h : ∀ a ∈ l, good a) : ∀ x ∈ flatT l, good x := by
  intro x hx; obtain ⟨a, ha, hu⟩ := List.mem_flatMap.1 hx; split at hu
  . exact good_args (h a ha) hu
  . obtain rfl : x = a := by simpa using hu
    exact h x ha
theorem tells_good {l : List T} (h : ∀ a ∈ l, good a) : Tells l := fun x hx y hy e => write_inj (flat_good h x hx) (flat_good h y hy) e
theorem out_iff {l : List T} (h : Tells l) {u : T} : u ∈ outT l ↔ u ∈ flatT l := by
  obtain ⟨_, h2, h3⟩ := outT_spec l; refine ⟨h2 u, fun hu => ?_⟩; obtain ⟨v, hv, e⟩ := h3 u hu
  rwa [h v (h2 v hv) u hu e] at hv
theorem sortedT_nodup {l : List T} (h : SortedT l) : l.Nodup := List.Pairwise.imp (R := fun x y => write x < write y) (S := (· ≠ ·)) (fun {a b} hab e => by subst e; exact lt_irr hab) h
theorem sortedT_ext {l m : List T} (hl : SortedT l) (hm : SortedT m) (h : ∀ x, x ∈ l ↔ x ∈ m) : l = m :=
  List.Perm.eq_of_pairwise (le := fun x y => write x < write y) (fun _ _ _ _ k k' => (lt_irr (lt_trans' k k')).elim) hl hm ((List.perm_ext_iff_of_nodup (sortedT_nodup hl) (sortedT_nodup hm)).2 h)
theorem same_refl {t : T} (h : size t <= 60) : same t t = true := by
  unfold same; simp [h, (alike_iff t t).2 rfl]
end Go.Ty
namespace Go.Ty
open Go.SX
structure Ids where
  str : TypeId
  ptr : TypeId
  ty : TypeId
mutual
def TyAt (I : Ids) (F : Nat -> Prop) (w : World) (v : Value) : T -> Prop
  | .nil => v = .pointer none
  | .mk k nm ns as r => ∃ b nv av rv vs, v = .pointer (some ⟨b, 0, none⟩) /\ F b /\ Blk w b #[.int .i64 k, .string nm, nv, av, rv] I.ty /\ RowAt w I.str 1 nv (ns.map Value.string) /\ (∀ b, InRow nv b -> F b) /\
      RowAt w I.ptr 1 av vs /\ (∀ b, InRow av b -> F b) /\ TysAt I F w vs as /\ TyAt I F w rv r
def TysAt (I : Ids) (F : Nat -> Prop) (w : World) : List Value -> List T -> Prop
  | [], [] => True
  | v :: vs, t :: l => TyAt I F w v t /\ TysAt I F w vs l
  | _, _ => False
end
variable {I : Ids} {F G : Nat -> Prop} {w w' : World}
theorem tysAt_iff : ∀ {vs : List Value} {l : List T}, TysAt I F w vs l ↔ vs.length = l.length /\ ∀ (i : Nat) (v : Value) (t : T), vs[i]? = some v -> l[i]? = some t -> TyAt I F w v t
  | [], [] => by simp [TysAt]
  | v :: vs, [] => by simp [TysAt]
  | [], t :: l => by simp [TysAt]
  | v :: vs, t :: l => by
    unfold TysAt; rw [tysAt_iff]; constructor
    . rintro ⟨h1, h2, h3⟩; refine ⟨by simp [h2], fun i v' t' a b => ?_⟩
      cases i with
      | zero => simp at a b; subst a; subst b; exact h1
      | succ i => simp at a b; exact h3 i v' t' a b
    . rintro ⟨h2, h3⟩; exact ⟨h3 0 v t rfl rfl, by simpa using h2, fun i v' t' a b => h3 (i + 1) v' t' (by simpa using a) (by simpa using b)⟩
theorem TysAt.length {vs : List Value} {l : List T} (h : TysAt I F w vs l) : vs.length = l.length := (tysAt_iff.1 h).1
theorem TysAt.at_ {vs : List Value} {l : List T} (h : TysAt I F w vs l) {i : Nat} {v : Value} {t : T} (a : vs[i]? = some v) (b : l[i]? = some t) : TyAt I F w v t := (tysAt_iff.1 h).2 i v t a b
theorem TysAt.append {vs us : List Value} {l m : List T} (h : TysAt I F w vs l) (k : TysAt I F w us m) : TysAt I F w (vs ++ us) (l ++ m) := by
  rw [tysAt_iff] at *; refine ⟨by simp [h.1, k.1], fun i v t a b => ?_⟩; rcases Nat.lt_or_ge i vs.length with hi | hi
  . rw [List.getElem?_append_left hi] at a; rw [List.getElem?_append_left (by omega)] at b; exact h.2 i v t a b
  . rw [List.getElem?_append_right hi] at a; rw [List.getElem?_append_right (by omega), <- h.1] at b; exact k.2 _ v t a b
theorem TysAt.take {vs : List Value} {l : List T} (h : TysAt I F w vs l) (n : Nat) : TysAt I F w (vs.take n) (l.take n) := by
  rw [tysAt_iff] at *; refine ⟨by simp [h.1], fun i v t a b => ?_⟩; rw [List.getElem?_take] at a b; split at a
  . rename_i hi; rw [if_pos hi] at b; exact h.2 i v t a b
  . cases a
theorem TysAt.drop {vs : List Value} {l : List T} (h : TysAt I F w vs l) (n : Nat) : TysAt I F w (vs.drop n) (l.drop n) := by
  rw [tysAt_iff] at *; refine ⟨by simp [h.1], fun i v t a b => ?_⟩; rw [List.getElem?_drop] at a b; exact h.2 _ v t a b
theorem tyAt_keep {S : Nat -> Prop} (u : Upd S w w') (hn : ∀ b, F b -> ¬ S b) (hG : ∀ b, b < w.heap.size -> F b -> G b) : ∀ (t : T) (v : Value), TyAt I F w v t -> TyAt I G w' v t := by
  refine ind (fun v h => h) fun k nm ns as r ha hr v h => ?_; unfold TyAt at h ⊢; obtain ⟨b, nv, av, rv, vs, rfl, hb, hB, hN, fN, hA, fA, hT, hR⟩ := h; refine ⟨b, nv, av, rv, vs, rfl, hG b hB.lt hb, hB.upd u (hn b hb), hN.upd u fun x hx => hn x (fN x hx), fun x hx => hG x (hN.lt hx) (fN x hx), hA.upd u fun x hx => hn x (fA x hx), fun x hx => hG x (hA.lt hx) (fA x hx), ?_, hr rv hR⟩; rw [tysAt_iff] at hT ⊢; exact ⟨hT.1, fun i v t a b => ha t (List.mem_of_getElem? b) v (hT.2 i v t a b)⟩
theorem tysAt_keep {S : Nat -> Prop} (u : Upd S w w') (hn : ∀ b, F b -> ¬ S b) (hG : ∀ b, b < w.heap.size -> F b -> G b) {vs : List Value} {l : List T} (h : TysAt I F w vs l) : TysAt I G w' vs l := by
  rw [tysAt_iff] at h ⊢; exact ⟨h.1, fun i v t a b => tyAt_keep u hn hG t v (h.2 i v t a b)⟩
theorem TyAt.upd {S : Nat -> Prop} {v : Value} {t : T} (h : TyAt I F w v t) (u : Upd S w w') (hn : ∀ b, F b -> ¬ S b) : TyAt I F w' v t := tyAt_keep u hn (fun _ _ h => h) t v h
theorem TyAt.keep {v : Value} {t : T} (h : TyAt I F w v t) (u : Upd No w w') : TyAt I F w' v t := h.upd u fun _ _ x => x
theorem TyAt.mono {v : Value} {t : T} (h : TyAt I F w v t) (hG : ∀ b, b < w.heap.size -> F b -> G b) : TyAt I G w v t := tyAt_keep (Upd.refl No w) (fun _ _ x => x) hG t v h
theorem TysAt.upd {S : Nat -> Prop} {vs : List Value} {l : List T} (h : TysAt I F w vs l) (u : Upd S w w') (hn : ∀ b, F b -> ¬ S b) : TysAt I F w' vs l := tysAt_keep u hn (fun _ _ h => h) h
theorem TysAt.keep {vs : List Value} {l : List T} (h : TysAt I F w vs l) (u : Upd No w w') : TysAt I F w' vs l := h.upd u fun _ _ x => x
theorem TysAt.mono {vs : List Value} {l : List T} (h : TysAt I F w vs l) (hG : ∀ b, b < w.heap.size -> F b -> G b) : TysAt I G w vs l := tysAt_keep (Upd.refl No w) (fun _ _ x => x) hG h
def TyRow (I : Ids) (F : Nat -> Prop) (w : World) (v : Value) (l : List T) : Prop := ∃ vs, RowAt w I.ptr 1 v vs /\ (∀ b, InRow v b -> F b) /\ TysAt I F w vs l
theorem TyRow.upd {S : Nat -> Prop} {v : Value} {l : List T} (h : TyRow I F w v l) (u : Upd S w w') (hn : ∀ b, F b -> ¬ S b) : TyRow I F w' v l := by
  obtain ⟨vs, h1, h2, h3⟩ := h; exact ⟨vs, h1.upd u fun x hx => hn x (h2 x hx), h2, h3.upd u hn⟩
theorem TyRow.keep {v : Value} {l : List T} (h : TyRow I F w v l) (u : Upd No w w') : TyRow I F w' v l := h.upd u fun _ _ x => x
theorem TyRow.mono {v : Value} {l : List T} (h : TyRow I F w v l) (hG : ∀ b, b < w.heap.size -> F b -> G b) : TyRow I G w v l := by
  obtain ⟨vs, h1, h2, h3⟩ := h; exact ⟨vs, h1, fun x hx => hG x (h1.lt hx) (h2 x hx), h3.mono hG⟩
theorem TyRow.get {p : Option Addr} {n c : Nat} {l : List T} (h : TyRow I F w (.slice p n c) l) : n = l.length /\ n <= c /\ c <= maxLen /\ ∀ i t, l[i]? = some t -> ∃ g o v, p = some ⟨g, o, none⟩ /\ w.cell? ⟨g, o + i, none⟩ = some v /\ TyAt I F w v t := by
  obtain ⟨vs, h1, h2, h3⟩ := h; obtain ⟨p', n', c', e, hn, hc, hm⟩ := h1.shape; cases e; have hl := h3.length; refine ⟨by omega, hc, hm, fun i t ht => ?_⟩
  have hi : i < vs.length := by
    rw [hl]; exact (List.getElem?_eq_some_iff.1 ht).1
  obtain ⟨g, o, rfl, e⟩ := h1.get hi; exact ⟨g, o, vs[i], rfl, by rw [e, List.getElem?_eq_getElem hi], h3.at_ (List.getElem?_eq_getElem hi) ht⟩
end Go.Ty
