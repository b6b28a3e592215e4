/- Maps whose keys are integers, bools or strings: their keys in the order of their making, and a value for each. Looking, storing, deleting, ranging. Nothing of a program stands here. -/
import Derived.Test.YtpddhbdjcgkjcaaGreatDoorHp
import Derived.Maps.RangeRun
import Derived.Maps.OwnSet
namespace Go.SX
open Go.MapKept

theorem info_get {P : Program} {e : TypeId} {s b : Nat} {z : Value} (h : (P.info? e).map (fun i => (i.size, i.bytes, i.zero)) = some (s, b, some z)) : ∃ i, P.info? e = some i ∧ i.zero = some z ∧ i.size = s ∧ i.bytes = b := by
  cases hi : P.info? e with
  | none => rw [hi] at h; cases h
  | some i =>
    rw [hi] at h
    simp only [Option.map_some, Option.some.injEq, Prod.mk.injEq] at h
    exact ⟨i, rfl, h.2.2, h.1, h.2.1⟩
theorem run_zero {P : Program} {e : TypeId} {s b : Nat} {z : Value} (h : (P.info? e).map (fun i => (i.size, i.bytes, i.zero)) = some (s, b, some z)) (w : World) : (zeroValue e).run P w = .ok z w := by
  obtain ⟨i, hi, hz, _, _⟩ := info_get h
  simp [zeroValue, typeInfo, hi, hz]

/-- block b is a map of the keys ks (of kind d), f k under each k. -/
def MapF (d : TypeDesc) (w : World) (b : Nat) (ks : List Value) (f : Value → Value) : Prop :=
  ∃ es clock, w.heap[b]? = some (.map es clock) ∧ es.toList.map (·.key) = ks ∧ (∀ e ∈ es.toList, e.val = f e.key) ∧ Stamped es clock ∧ ∀ k ∈ ks, IsKey d k

theorem MapF.lt {d : TypeDesc} {w : World} {b : Nat} {ks : List Value} {f : Value → Value} (h : MapF d w b ks f) : b < w.heap.size := by
  obtain ⟨es, clock, hb, _⟩ := h
  exact (Array.getElem?_eq_some_iff.1 hb).1
theorem MapF.upd {d : TypeDesc} {w w' : World} {b : Nat} {ks : List Value} {f : Value → Value} (h : MapF d w b ks f) {S : Nat → Prop} (u : Upd S w w') (hn : ¬ S b) : MapF d w' b ks f := by
  have hlt := h.lt
  obtain ⟨es, clock, hb, hr⟩ := h
  exact ⟨es, clock, by rw [u.block b hlt hn]; exact hb, hr⟩
theorem MapF.nodup {d : TypeDesc} {w : World} {b : Nat} {ks : List Value} {f : Value → Value} (h : MapF d w b ks f) : ks.Nodup := by
  obtain ⟨es, clock, hb, rfl, _, hs, _⟩ := h
  exact hs.2.2
theorem MapF.keys {d : TypeDesc} {w : World} {b : Nat} {ks : List Value} {f : Value → Value} (h : MapF d w b ks f) : ∀ k ∈ ks, IsKey d k := by
  obtain ⟨es, clock, hb, _, _, hs, hk⟩ := h
  exact hk
theorem MapF.congr {d : TypeDesc} {w : World} {b : Nat} {ks : List Value} {f g : Value → Value} (h : MapF d w b ks f) (he : ∀ k ∈ ks, f k = g k) : MapF d w b ks g := by
  obtain ⟨es, clock, hb, rfl, hv, hs, hk⟩ := h
  exact ⟨es, clock, hb, rfl, fun e x => (hv e x).trans (he _ (List.mem_map_of_mem x)), hs, hk⟩

theorem newM_mk {d : TypeDesc} {f : Value → Value} {w : World} {K : Nat → World → Prop} (h : ∀ w', MapF d w' w.heap.size [] f → Upd No w w' → w'.heap.size = w.heap.size + 1 → K w.heap.size w') : newC w (.map #[] 0) K := by
  refine h _ ⟨#[], 0, ?_, rfl, by simp, ⟨by simp, by simp, by simp⟩, by simp⟩ (upd_alloc w _) (by simp)
  show (w.heap.push _)[w.heap.size]? = _
  simp

section
variable {P : Program} {d : TypeDesc} {t kt et : TypeId} {w : World} {b : Nat} {ks : List Value} {f : Value → Value} {k : Value}

theorem find_in {es : Array MapEntry} (hk : IsKey d k) (hks : ∀ x ∈ es.toList, IsKey d x.key) (hin : k ∈ es.toList.map (·.key)) :
    ∃ j e, Instr.findNow d k es.toList 0 = some (some (j, e.val)) ∧ es.toList[j]? = some e ∧ e.key = k := by
  rcases findNow_spec hk es.toList 0 hks with ⟨_, hno⟩ | ⟨j, e, h1, h2, h3⟩
  · obtain ⟨e, he, hek⟩ := List.mem_map.1 hin
    exact (hno e he hek).elim
  · exact ⟨j, e, by rw [h1, Nat.zero_add], h2, h3⟩
theorem find_out {es : Array MapEntry} (hk : IsKey d k) (hks : ∀ x ∈ es.toList, IsKey d x.key) (hout : k ∉ es.toList.map (·.key)) : Instr.findNow d k es.toList 0 = some none := by
  rcases findNow_spec hk es.toList 0 hks with ⟨h, _⟩ | ⟨j, e, h1, h2, h3⟩
  · exact h
  · exact (hout (List.mem_map.2 ⟨e, List.mem_of_getElem? h2, h3⟩)).elim

theorem run_lookup_in (ht : P.underlying t = some (.map kt et)) (hd : P.underlying kt = some d) (hk : IsKey d k) (h : MapF d w b ks f) (hin : k ∈ ks) (c : Bool) :
    (Instr.lookup t (.map (some b)) k c).run P w = .ok (if c then .tuple #[f k, .bool true] else f k) w := by
  obtain ⟨es, clock, hb, rfl, hv, hs, hks⟩ := h
  obtain ⟨j, e, h1, h2, h3⟩ := find_in hk (fun x hx => hks _ (List.mem_map_of_mem hx)) hin
  have hv := hv e (List.mem_of_getElem? h2)
  rw [h3] at hv
  have hc : (Instr.checkKey es.isEmpty 10000 kt k).run P w = .ok () w := MapKept.run_checkKey hd hk _ 9999
  simp only [Instr.lookup, Sem.run_bind, run_underlying ht, Result.andThen, MapKept.run_getObj_map hb, Sem.run_pure, hc, MapKept.run_findKey hd h1]
  cases c <;> simp [hv]
theorem run_lookup_out (ht : P.underlying t = some (.map kt et)) (hd : P.underlying kt = some d) (hk : IsKey d k) (h : MapF d w b ks f) (hout : k ∉ ks) {z : Value} (hz : (zeroValue et).run P w = .ok z w) (c : Bool) :
    (Instr.lookup t (.map (some b)) k c).run P w = .ok (if c then .tuple #[z, .bool false] else z) w := by
  obtain ⟨es, clock, hb, rfl, hv, hs, hks⟩ := h
  have h1 := find_out hk (fun x hx => hks _ (List.mem_map_of_mem hx)) hout
  have hc : (Instr.checkKey es.isEmpty 10000 kt k).run P w = .ok () w := MapKept.run_checkKey hd hk _ 9999
  simp only [Instr.lookup, Sem.run_bind, run_underlying ht, Result.andThen, MapKept.run_getObj_map hb, Sem.run_pure, hc, MapKept.run_findKey hd h1, hz]
theorem run_len (ht : P.underlying t = some (.map kt et)) (h : MapF d w b ks f) (ty : TypeId) : (Builtin.len_ #[t] ty #[.map (some b)]).run P w = .ok (.int .i64 ks.length) w := by
  obtain ⟨es, clock, hb, rfl, hv, hs, hks⟩ := h
  simp [Builtin.len_, run_underlying ht, MapKept.run_getObj_map hb, Result.andThen, goInt]

theorem upd_set (w : World) (b : Nat) (o : Obj) : Upd (· = b) w { w with heap := w.heap.setIfInBounds b o } :=
  ⟨rfl, rfl, rfl, by simp, fun x _ hx => by simp [Array.getElem?_setIfInBounds, Ne.symm hx]⟩

theorem keyThatStays_same (hk : IsKey d k) (w : World) : (Instr.keyThatStays k k).run P w = .ok k w := by
  have : Instr.sameBits 10000 k k = true := by
    cases d <;> cases k <;> simp_all [IsKey, Instr.sameBits, bytes_beq]
  simp [Instr.keyThatStays, this]

theorem update_in (ht : P.underlying t = some (.map kt et)) (hd : P.underlying kt = some d) (hk : IsKey d k) (h : MapF d w b ks f) (hin : k ∈ ks) (v : Value) {f' : Value → Value} (hv : f' k = v) (ho : ∀ x ∈ ks, x ≠ k → f' x = f x)
    {K : PUnit → World → Prop} (hK : ∀ w', MapF d w' b ks f' → Upd (· = b) w w' → w'.heap.size = w.heap.size → K () w') : runC P (Instr.mapUpdate t (.map (some b)) k v) w K := by
  obtain ⟨es, clock, hb, rfl, hvs, hs, hks⟩ := h
  obtain ⟨j, e, h1, h2, h3⟩ := find_in hk (fun x hx => hks _ (List.mem_map_of_mem hx)) hin
  have hc : (Instr.checkKey false 10000 kt k).run P w = .ok () w := MapKept.run_checkKey hd hk _ 9999
  have h2' : es[j]? = some e := by rw [← Array.getElem?_toList]; exact h2
  have hkey : ((es[j]?).map (·.key)).getD k = k := by rw [h2']; exact h3
  refine ⟨(), _, ?_, hK { w with heap := w.heap.setIfInBounds b (.map (es.modify j fun e => { e with key := k, val := v }) clock) } ?_ (upd_set w b _) (by simp)⟩
  · simp only [Instr.mapUpdate, Sem.run_bind, run_underlying ht, Result.andThen, MapKept.run_getObj_map hb, hc, MapKept.run_findKey hd h1, hkey, keyThatStays_same hk, MapKept.run_setObj_map _ hb]
  · have hlj : j < es.toList.length := (List.getElem?_eq_some_iff.1 h2).1
    have hat : ∀ i, (es.modify j fun e => { e with key := k, val := v }).toList[i]? = if j = i then (es.toList[i]?).map (fun e => { e with key := k, val := v }) else es.toList[i]? := by
      intro i
      rw [Array.toList_modify, List.getElem?_modify]
      split
      · rfl
      · cases es.toList[i]? <;> rfl
    have hmem : ∀ x ∈ (es.modify j fun e => { e with key := k, val := v }).toList, (x = { e with key := k, val := v }) ∨ (x ∈ es.toList ∧ x.key ≠ k) := by
      intro x hx
      obtain ⟨i, hi⟩ := List.mem_iff_getElem?.1 hx
      rw [hat i] at hi
      split at hi
      · rename_i hji
        subst hji
        rw [h2] at hi
        exact .inl (by simpa using hi.symm)
      · rename_i hji
        refine .inr ⟨List.mem_of_getElem? hi, fun hxk => hji ?_⟩
        have n1 := hs.2.2
        have e1 : (es.toList.map (·.key))[j]? = some k := by rw [List.getElem?_map, h2]; simp [h3]
        have e2 : (es.toList.map (·.key))[i]? = some k := by rw [List.getElem?_map, hi]; simp [hxk]
        exact (List.getElem?_inj (by simpa using hlj) n1).1 (e1.trans e2.symm)
    have hmk : ∀ g : MapEntry → Value, (g { e with key := k, val := v } = g e) → (es.modify j fun e => { e with key := k, val := v }).toList.map g = es.toList.map g := by
      intro g hg
      refine List.ext_getElem? fun i => ?_
      rw [List.getElem?_map, List.getElem?_map, hat i]
      split
      · rename_i hji; subst hji; rw [h2]; simp [hg]
      · rfl
    have hmb : (es.modify j fun e => { e with key := k, val := v }).toList.map (·.born) = es.toList.map (·.born) := by
      refine List.ext_getElem? fun i => ?_
      rw [List.getElem?_map, List.getElem?_map, hat i]
      split
      · rename_i hji; subst hji; rw [h2]; rfl
      · rfl
    have hmkey := hmk (·.key) (by simp [h3])
    refine ⟨_, clock, (MapKept.heap_set hb).1, hmkey, ?_, ⟨?_, by rw [hmb]; exact hs.2.1, by rw [hmkey]; exact hs.2.2⟩, hks⟩
    · intro x hx
      rcases hmem x hx with rfl | ⟨hx, hxk⟩
      · exact hv.symm
      · rw [ho _ (List.mem_map_of_mem hx) hxk]; exact hvs x hx
    · intro x hx
      rcases hmem x hx with rfl | ⟨hx, hxk⟩
      · exact hs.1 e (List.mem_of_getElem? h2)
      · exact hs.1 x hx

theorem update_out (ht : P.underlying t = some (.map kt et)) (hd : P.underlying kt = some d) (hk : IsKey d k) (h : MapF d w b ks f) (hout : k ∉ ks) (v : Value) {f' : Value → Value} (hv : f' k = v) (ho : ∀ x ∈ ks, x ≠ k → f' x = f x)
    {K : PUnit → World → Prop} (hK : ∀ w', MapF d w' b (ks ++ [k]) f' → Upd (· = b) w w' → w'.heap.size = w.heap.size → K () w') : runC P (Instr.mapUpdate t (.map (some b)) k v) w K := by
  obtain ⟨es, clock, hb, rfl, hvs, hs, hks⟩ := h
  have h1 := find_out hk (fun x hx => hks _ (List.mem_map_of_mem hx)) hout
  have hc : (Instr.checkKey false 10000 kt k).run P w = .ok () w := MapKept.run_checkKey hd hk _ 9999
  refine ⟨(), _, ?_, hK { w with heap := w.heap.setIfInBounds b (.map (es.push { key := k, val := v, born := clock }) (clock + 1)) } ?_ (upd_set w b _) (by simp)⟩
  · simp only [Instr.mapUpdate, Sem.run_bind, run_underlying ht, Result.andThen, MapKept.run_getObj_map hb, hc, MapKept.run_findKey hd h1, MapKept.run_setObj_map _ hb]
  · refine ⟨_, clock + 1, (MapKept.heap_set hb).1, by simp, ?_, ⟨?_, ?_, ?_⟩, ?_⟩
    · intro x hx
      simp only [Array.toList_push, List.mem_append, List.mem_singleton] at hx
      rcases hx with hx | rfl
      · have hm := List.mem_map_of_mem (f := (·.key)) hx
        rw [ho _ hm fun e => hout (e ▸ hm)]; exact hvs x hx
      · exact hv.symm
    · intro x hx
      simp only [Array.toList_push, List.mem_append, List.mem_singleton] at hx
      rcases hx with hx | rfl
      · have := hs.1 x hx; omega
      · exact Nat.lt_succ_self _
    · simp only [Array.toList_push, List.map_append, List.map_cons, List.map_nil]
      refine List.nodup_append.2 ⟨hs.2.1, by simp, ?_⟩
      intro x hx y hy e
      simp only [List.mem_singleton] at hy
      obtain ⟨z, hz, rfl⟩ := List.mem_map.1 hx
      have := hs.1 z hz; omega
    · simp only [Array.toList_push, List.map_append, List.map_cons, List.map_nil]
      refine List.nodup_append.2 ⟨hs.2.2, by simp, ?_⟩
      intro x hx y hy e
      simp only [List.mem_singleton] at hy
      subst hy; subst e
      exact hout hx
    · intro x hx
      rcases List.mem_append.1 hx with hx | hx
      · exact hks x hx
      · simp only [List.mem_singleton] at hx; subst hx; exact hk

theorem delete_in (ht : P.underlying t = some (.map kt et)) (hd : P.underlying kt = some d) (hk : IsKey d k) (h : MapF d w b ks f) (hin : k ∈ ks) (ty : TypeId)
    {K : Value → World → Prop} (hK : ∀ l1 l2 w', ks = l1 ++ k :: l2 → MapF d w' b (l1 ++ l2) f → Upd (· = b) w w' → w'.heap.size = w.heap.size → K (.tuple #[]) w') : runC P (Builtin.delete_ #[t, kt] ty #[.map (some b), k]) w K := by
  obtain ⟨es, clock, hb, rfl, hvs, hs, hks⟩ := h
  obtain ⟨j, e, h1, h2, h3⟩ := find_in hk (fun x hx => hks _ (List.mem_map_of_mem hx)) hin
  have hc : (Instr.checkKey es.isEmpty 10000 kt k).run P w = .ok () w := MapKept.run_checkKey hd hk _ 9999
  have hlj : j < es.toList.length := (List.getElem?_eq_some_iff.1 h2).1
  have hl0 : es.toList = es.toList.take j ++ e :: es.toList.drop (j + 1) := by
    have he : es.toList[j] = e := (List.getElem?_eq_some_iff.1 h2).2
    rw [← he, List.getElem_cons_drop, List.take_append_drop]
  refine ⟨.tuple #[], _, ?_, hK ((es.toList.take j).map (·.key)) ((es.toList.drop (j + 1)).map (·.key)) { w with heap := w.heap.setIfInBounds b (.map (es.eraseIdxIfInBounds j) clock) } ?_ ?_ (upd_set w b _) (by simp)⟩
  · simp [Builtin.delete_, Sem.run_bind, run_underlying ht, Result.andThen, MapKept.run_getObj_map hb, hc, MapKept.run_findKey hd h1, MapKept.run_setObj_map _ hb]
  · conv => lhs; rw [hl0]
    simp [h3]
  · have he : (es.eraseIdxIfInBounds j).toList = es.toList.take j ++ es.toList.drop (j + 1) := by
      rw [Array.toList_eraseIdxIfInBounds, List.eraseIdx_eq_take_drop_succ]
    have hsub : (es.eraseIdxIfInBounds j).toList.Sublist es.toList := by rw [Array.toList_eraseIdxIfInBounds]; exact List.eraseIdx_sublist _ _
    refine ⟨_, clock, (MapKept.heap_set hb).1, by rw [he, List.map_append], fun x hx => hvs x (hsub.subset hx), ⟨fun x hx => hs.1 x (hsub.subset hx), (hsub.map _).nodup hs.2.1, (hsub.map _).nodup hs.2.2⟩, fun x hx => ?_⟩
    rw [← List.map_append, ← he] at hx
    exact hks x ((hsub.map _).subset hx)
end

/-! ### ranging -/
/-- the iterator in block r has visited vis, the last one first; the map is as it was when the range began. -/
def RangeF (d : TypeDesc) (w : World) (b : Nat) (ks : List Value) (f : Value → Value) (r : Nat) (vis : List Value) : Prop :=
  ∃ es clock, w.heap[b]? = some (.map es clock) ∧ es.toList.map (·.key) = ks ∧ (∀ e ∈ es.toList, e.val = f e.key) ∧ Stamped es clock ∧ (∀ k ∈ ks, IsKey d k) ∧
    ∃ ve : List MapEntry, (∀ e ∈ ve, e ∈ es.toList) ∧ ve.map (·.key) = vis ∧ w.heap[r]? = some (.mapIter (some b) clock (ve.reverse.map (·.born)).toArray clock)
theorem RangeF.map {d : TypeDesc} {w : World} {b : Nat} {ks : List Value} {f : Value → Value} {r : Nat} {vis : List Value} (h : RangeF d w b ks f r vis) : MapF d w b ks f := by
  obtain ⟨es, clock, h1, h2, h3, h4, h5, _⟩ := h
  exact ⟨es, clock, h1, h2, h3, h4, h5⟩
theorem RangeF.lt {d : TypeDesc} {w : World} {b : Nat} {ks : List Value} {f : Value → Value} {r : Nat} {vis : List Value} (h : RangeF d w b ks f r vis) : r < w.heap.size := by
  obtain ⟨es, clock, h1, h2, h3, h4, h5, ve, _, _, hr⟩ := h
  exact (Array.getElem?_eq_some_iff.1 hr).1
theorem RangeF.upd {d : TypeDesc} {w w' : World} {b : Nat} {ks : List Value} {f : Value → Value} {r : Nat} {vis : List Value} (h : RangeF d w b ks f r vis) {S : Nat → Prop} (u : Upd S w w') (hb : ¬ S b) (hr : ¬ S r) : RangeF d w' b ks f r vis := by
  have l1 := h.map.lt
  have l2 := h.lt
  obtain ⟨es, clock, h1, h2, h3, h4, h5, ve, h6, h7, h8⟩ := h
  exact ⟨es, clock, by rw [u.block b l1 hb]; exact h1, h2, h3, h4, h5, ve, h6, h7, by rw [u.block r l2 hr]; exact h8⟩
/-- how many the iterator in block r has visited. -/
def seenOf (w : World) (r : Nat) : Nat := match w.heap[r]? with | some (.mapIter _ _ seen _) => seen.size | _ => 0
theorem RangeF.seen {d : TypeDesc} {w : World} {b : Nat} {ks : List Value} {f : Value → Value} {r : Nat} {vis : List Value} (h : RangeF d w b ks f r vis) : seenOf w r = vis.length := by
  obtain ⟨es, clock, h1, h2, h3, h4, h5, ve, h6, rfl, h8⟩ := h
  unfold seenOf
  rw [h8]
  simp
theorem RangeF.vis_sub {d : TypeDesc} {w : World} {b : Nat} {ks : List Value} {f : Value → Value} {r : Nat} {vis : List Value} (h : RangeF d w b ks f r vis) : ∀ k ∈ vis, k ∈ ks := by
  obtain ⟨es, clock, h1, rfl, h3, h4, h5, ve, h6, rfl, h8⟩ := h
  intro k hk
  obtain ⟨e, he, rfl⟩ := List.mem_map.1 hk
  exact List.mem_map_of_mem (h6 e he)

section
variable {P : Program} {d : TypeDesc} {t kt et : TypeId} {w : World} {b : Nat} {ks : List Value} {f : Value → Value} {r : Nat} {vis : List Value}

theorem range_mk (ht : P.underlying t = some (.map kt et)) (h : MapF d w b ks f) {K : Value → World → Prop}
    (hK : ∀ w', RangeF d w' b ks f w.heap.size [] → Upd No w w' → w'.heap.size = w.heap.size + 1 → K (.pointer (some ⟨w.heap.size, 0, none⟩)) w') : runC P (Instr.range t (.map (some b))) w K := by
  obtain ⟨es, clock, hb, rfl, hvs, hs, hks⟩ := h
  refine ⟨_, _, run_range_map w t kt et b es clock ht hb, hK _ ⟨es, clock, ?_, rfl, hvs, hs, hks, [], by simp, rfl, ?_⟩ (upd_alloc w _) (by simp)⟩
  · rw [(upd_alloc w _).block b (Array.getElem?_eq_some_iff.1 hb).1 id]; exact hb
  · show (w.heap.push _)[w.heap.size]? = _
    simp

/-- THE NEXT ONE: none, and all were visited; or one that was not. -/
theorem next_mk (h : RangeF d w b ks f r vis) (ty : TypeId) {K : Value → World → Prop}
    (h0 : (∀ k ∈ ks, k ∈ vis) → K (.tuple #[.bool false]) w)
    (h1 : ∀ w' k, k ∈ ks → k ∉ vis → RangeF d w' b ks f r (k :: vis) → Upd (· = r) w w' → w'.heap.size = w.heap.size → K (.tuple #[.bool true, k, f k]) w') :
    runC P (Instr.next (.pointer (some ⟨r, 0, none⟩)) false ty) w K := by
  obtain ⟨es, clock, hb, rfl, hvs, hs, hks, ve, hve, rfl, hr⟩ := h
  have hseen : ∀ e ∈ es.toList, (ve.reverse.map (·.born)).toArray.contains e.born = true ↔ e ∈ ve := by
    intro e he
    rw [List.contains_toArray, List.contains_iff_mem, List.mem_map]
    constructor
    · rintro ⟨x, hx, hxe⟩
      rw [List.mem_reverse] at hx
      have hx' := hve x hx
      obtain ⟨i, hi⟩ := List.mem_iff_getElem?.1 he
      obtain ⟨j, hj⟩ := List.mem_iff_getElem?.1 hx'
      have e1 : (es.toList.map (·.born))[i]? = some e.born := by rw [List.getElem?_map, hi]; rfl
      have e2 : (es.toList.map (·.born))[j]? = some e.born := by rw [List.getElem?_map, hj]; simp [hxe]
      have hlt : i < (es.toList.map (·.born)).length := by simpa using (List.getElem?_eq_some_iff.1 hi).1
      have := (List.getElem?_inj hlt hs.2.1).1 (e1.trans e2.symm)
      subst this
      rw [hi] at hj
      cases hj
      exact hx
    · exact fun hx => ⟨e, List.mem_reverse.2 hx, rfl⟩
  rcases run_next_at (P := P) w ty r b clock clock _ es clock hr hb (fun x hx => hs.1 x hx) (Nat.le_refl _) with ⟨hz, hrun⟩ | ⟨e, he, w1, hw1, hrun⟩
  · refine ⟨_, _, hrun, h0 fun k hk => ?_⟩
    obtain ⟨e, he, rfl⟩ := List.mem_map.1 hk
    have hl : leftOf es (ve.reverse.map (·.born)).toArray = #[] := Array.eq_empty_of_size_eq_zero hz
    by_cases hm : e ∈ ve
    · exact List.mem_map_of_mem hm
    · have : e ∈ leftOf es (ve.reverse.map (·.born)).toArray := by
        unfold leftOf
        rw [Array.mem_filter]
        refine ⟨by simpa using he, ?_⟩
        have := mt (hseen e he).1 hm
        simpa using this
      rw [hl] at this
      simp at this
  · have he2 : e ∈ es.toList ∧ e ∉ ve := by
      unfold leftOf at he
      rw [Array.mem_toList_iff, Array.mem_filter] at he
      refine ⟨by simpa using he.1, fun hx => ?_⟩
      have h2 := he.2
      rw [(hseen e (by simpa using he.1)).2 hx] at h2
      cases h2
    have hu : Upd (· = r) w (ChangeMaps.setBlock w1 r (.mapIter (some b) clock ((ve.reverse.map (·.born)).toArray.push e.born) clock)) := by
      rcases hw1 with rfl | rfl
      · exact upd_set _ r _
      · exact ⟨rfl, rfl, rfl, by simp [ChangeMaps.setBlock], fun x _ hx => by simp [ChangeMaps.setBlock, Array.getElem?_setIfInBounds, Ne.symm hx]; rfl⟩
    have hrb : b ≠ r := by
      rintro rfl
      rw [hb] at hr; cases hr
    have hrl : r < w.heap.size := (Array.getElem?_eq_some_iff.1 hr).1
    have hw1s : w1.heap = w.heap := by rcases hw1 with rfl | rfl <;> rfl
    refine ⟨_, _, hrun, ?_⟩
    rw [hvs e he2.1]
    refine h1 _ e.key (List.mem_map_of_mem he2.1) ?_ ⟨es, clock, ?_, rfl, hvs, hs, hks, e :: ve, ?_, rfl, ?_⟩ hu (by simp [ChangeMaps.setBlock, hw1s])
    · intro hk
      obtain ⟨x, hx, hxk⟩ := List.mem_map.1 hk
      obtain ⟨i, hi⟩ := List.mem_iff_getElem?.1 he2.1
      obtain ⟨j, hj⟩ := List.mem_iff_getElem?.1 (hve x hx)
      have e1 : (es.toList.map (·.key))[i]? = some e.key := by rw [List.getElem?_map, hi]; rfl
      have e2 : (es.toList.map (·.key))[j]? = some e.key := by rw [List.getElem?_map, hj]; simp [hxk]
      have hlt : i < (es.toList.map (·.key)).length := by simpa using (List.getElem?_eq_some_iff.1 hi).1
      have := (List.getElem?_inj hlt hs.2.2).1 (e1.trans e2.symm)
      subst this
      rw [hi] at hj
      cases hj
      exact he2.2 hx
    · rw [hu.block b (Array.getElem?_eq_some_iff.1 hb).1 hrb]; exact hb
    · intro x hx
      rcases List.mem_cons.1 hx with rfl | hx
      · exact he2.1
      · exact hve x hx
    · simp [ChangeMaps.setBlock, hw1s, hrl]

/-- the one that was visited last, as it is. -/
theorem entry_mk {k : Value} (h : RangeF d w b ks f r (k :: vis)) {K : Value → World → Prop} (hK : K (.tuple #[k, f k]) w) : runC P (Instr.entry (.pointer (some ⟨r, 0, none⟩))) w K := by
  obtain ⟨es, clock, hb, rfl, hvs, hs, hks, ve, hve, hk, hr⟩ := h
  match ve, hve, hk, hr with
  | e :: ve, hve, hk, hr =>
    have hk1 : e.key = k := (List.cons.inj hk).1
    have hr' : w.heap[r]? = some (.mapIter (some b) clock ((ve.reverse.map (·.born)).toArray.push e.born) clock) := by
      rw [hr]; simp
    have he := hve e (by simp)
    have hv := hvs e he
    rw [hk1] at hv
    refine ⟨_, _, run_entry_at w r b clock _ es clock e hr' hb he hs.2.1, ?_⟩
    rw [hk1, hv]
    exact hK
end
end Go.SX
