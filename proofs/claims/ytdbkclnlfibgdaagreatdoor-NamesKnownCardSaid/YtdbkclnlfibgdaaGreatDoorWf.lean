/- Joined by program of: Fr, Nl, Nm. -/
import Derived.Test.YtdbkclnlfibgdaaGreatDoorWa
import Derived.ProofKit
import Derived.Below
import Derived.ChangeSame
import Derived.OpenShut
import Derived.Carry
import Derived.Deep.Slices
import Derived.Test.YtdbkclnlfibgdaaGreatDoorWe
import Derived.Test.YtdbkclnlfibgdaaGreatDoorTie
import Derived.Test.YtdbkclnlfibgdaaGreatDoorCards
import Derived.LaidMore
import Derived.Lay
import Derived.LaidSub
import Derived.SevenTiedAt
import Derived.Stop.Joined
import Derived.Lib.LaidTab

/- A law's last step: from what the engine tells of its call to the row's own words. Nothing of a program stands here. -/
namespace Go.SX
open Go.RowKit Go.WideShapes Go.ChangeShapes

theorem below_of_upd {w w' : World} (u : Upd No w w') : Below w.heap.size w w' := ⟨u.os, u.tape, u.output, u.size, fun k hk => u.block k hk id⟩

/-- Nothing that was there has turned: the row's 'post'. -/
theorem post_of_upd {H : Type} {enc : TypeId × Value → H} {P : Program} {f : Func} {s : ChangeSpec} {apart fresh handsOn again : Bool} {W W' : World} {args : Array Value} {v : Value} {ds gs : List (DataW H)}
    {before pa pv : List MemPlace} (hW : DataW.Whole enc P f.params.toList s.vars apart W args.toList ds gs before) (u : Upd No W W')
    (hres : ∀ (b : Nat) (sp : Nat → Bool) (hd : Bool), DataW.TrodAll enc P W' b sp hd f.resultTypes.toList (v.resultList f.resultTypes.size) (s.fn H (ds ++ gs)).results [])
    (hargs : ∀ sp : Nat → Bool, (∀ p ∈ before, sp p.block = true) → DataW.TrodAll enc P W' 0 sp true f.params.toList args.toList (s.fn H (ds ++ gs)).args pa)
    (hvars : ∀ sp : Nat → Bool, (∀ p ∈ before, sp p.block = true) → DataW.TrodVars enc P W' sp s.vars (s.fn H (ds ++ gs)).vars pv)
    (hps : before = pa ++ pv)
    (hok : ∀ (j : Nat) (t : TypeId) (r : Value), f.resultTypes[j]? = some t → (v.resultList f.resultTypes.size)[j]? = some r → Value.okWide P W' .any 0 t r) :
    s.post enc P f apart fresh handsOn again W args v W' := by
  have hb := below_of_upd u
  have hlt : ∀ p ∈ before, p.block < W.heap.size := fun p hp => hW.lt p hp
  have hold : ∀ p ∈ before, decide (p.block < W.heap.size) = true := fun p hp => by simpa using hlt p hp
  refine ⟨ds, gs, before, [], pa, pv, hW, hres _ _ _, hargs (fun b => decide (b < W.heap.size)) hold, hvars (fun b => decide (b < W.heap.size)) hold, ?_, fun _ => ?_⟩
  · refine World.keptBut_mono (fun p hp => ⟨hp, ?_⟩) (hb.frame (· ∈ before))
    rw [hps, List.mem_append] at hp
    exact .inr hp
  · obtain ⟨_, _, _, _, _, hz, hn⟩ := hW
    have hin : ∀ p, p ∈ ([] ++ pa) ++ pv → p ∈ before := fun p hp => by rw [hps]; simpa using hp
    refine ⟨hok, _, _, ([] ++ pa) ++ pv, ⟨[] ++ pa, pv, trodAll_append (hargs _ fun _ _ => rfl) (hres _ _ _), hvars _ fun _ _ => rfl, rfl, fun b off hp => ?_, fun ha => ?_⟩, fun p hp _ => hin p hp⟩
    · rw [hb.frozen (hlt _ (hin _ hp))]
      exact hz b off (hin _ hp)
    · have hx := hn ha
      rw [hps] at hx
      simpa using hx

theorem mono_call {P : Program} {f : FuncId} {args : Array Value} {w : World} {K : Value → World → Prop} {R : Ending → World → Prop} (h : callC P f args w K) (hk : ∀ v w', K v w' → R (.returned v) w') : Calls P f args w R :=
  Calls.mono h fun e w' x => by
    cases e with
    | returned v => exact hk v w' x
    | _ => exact x.elim

/-- Arguments that are only read read as they did. -/
theorem trodAll_keep {H : Type} {enc : TypeId × Value → H} {P : Program} (hl : laidOutB P = true) {W W' : World} (u : Upd No W W') {sp : Nat → Bool} : ∀ (ts : List TypeId) (vs : List Value) (ds : List (DataW H)) (ps : List MemPlace),
    (∀ t ∈ ts, P.readableRec t = true ∧ t < P.types.size) → DataW.TrodAll enc P W 0 (fun _ => true) true ts vs ds ps → (∀ x ∈ ps, x.block < W.heap.size) → (∀ x ∈ ps, sp x.block = true) →
    DataW.TrodAll enc P W' 0 sp true ts vs ds ps
  | [], vs, ds, ps, _, h, _, _ => by
    obtain ⟨rfl, rfl, rfl⟩ := trodAll_nil h
    exact trodAll_mk0
  | t :: ts, vs, ds, ps, hr, h, hlt, hsp => by
    obtain ⟨v, vs', d, ds', p, q, rfl, rfl, rfl, hd, hrest⟩ := trodAll_cons h
    obtain ⟨h1, h2⟩ := hr t (by simp)
    exact trodAll_cons_mk (WideElems.Trod_stays hl h1 h2 hd (fun x hx => (below_of_upd u).same (hlt x (by simp [hx]))) (fun x hx => hsp x (by simp [hx])))
      (trodAll_keep hl u ts vs' ds' q (fun t ht => hr t (by simp [ht])) hrest (fun x hx => hlt x (by simp [hx])) (fun x hx => hsp x (by simp [hx])))

/-- several cells, one by one. -/
theorem cells_get {w : World} {base : Nat} {a : Addr} {n : Nat} {cs : List Value} (h : w.cells? base a n = some cs) : cs.length = n ∧ ∀ j, j < n → w.cell? (a.add j) = cs[j]? := by
  unfold World.cells? at h
  split at h
  · have key : ∀ (l : List Nat) (cs : List Value), (l.mapM fun i => w.cell? (a.add i)) = some cs → cs.length = l.length ∧ ∀ j, (hj : j < l.length) → w.cell? (a.add (l[j])) = cs[j]? := by
      intro l
      induction l with
      | nil => intro cs h; simp at h; subst h; exact ⟨rfl, fun j hj => absurd hj (by simp)⟩
      | cons i l ih =>
        intro cs h
        rw [List.mapM_cons] at h
        cases hv : w.cell? (a.add i) with
        | none => rw [hv] at h; cases h
        | some v =>
          rw [hv] at h
          cases hr : l.mapM fun i => w.cell? (a.add i) with
          | none => rw [show (some v >>= fun v => (l.mapM fun i => w.cell? (a.add i)) >>= fun r => pure (v :: r)) = ((l.mapM fun i => w.cell? (a.add i)) >>= fun r => pure (v :: r)) from rfl, hr] at h; cases h
          | some r =>
            rw [show (some v >>= fun v => (l.mapM fun i => w.cell? (a.add i)) >>= fun r => pure (v :: r)) = ((l.mapM fun i => w.cell? (a.add i)) >>= fun r => pure (v :: r)) from rfl, hr] at h
            cases h
            obtain ⟨h1, h2⟩ := ih r hr
            refine ⟨by simp [h1], fun j hj => ?_⟩
            cases j with
            | zero => simpa using hv
            | succ j => simpa using h2 j (by simpa using hj)
    obtain ⟨h1, h2⟩ := key _ _ h
    refine ⟨by simpa using h1, fun j hj => ?_⟩
    have := h2 j (by simpa using hj)
    simpa using this
  · cases h

theorem wf_bounds {k : IntKind} {n : Int} (h : (Lit.int k n).wf = true) : k.min ≤ n ∧ n ≤ k.max := by
  simp [Lit.wf] at h
  exact h

end Go.SX

/- NamesDark: its contract. -/
namespace Go.Proofs.YtdbkclnlfibgdaaGreatDoor
open Go.SX Go.Ty Go.MapKept Go.RowKit Go.Tx

theorem cell_upd {W w : World} {S : Nat → Prop} {a : Addr} {v : Value} (h : W.cell? a = some v) (u : Upd S W w) (hn : ¬ S a.block) : w.cell? a = some v := by
  have hb := World.block_lt_of_cell? W a h
  have := u.block a.block hb hn
  unfold World.cell? at *
  rw [this]; exact h
theorem ex_upd {w w' : World} {p : Option Addr} {l : List Ex} {k : Nat} {cs : Array Value} (h : ExAt w p l) (u : Upd (· = k) w w') (B : Blk w k cs 48) (hp : ∀ a, p = some a → a.block ≠ k) : ExAt w' p l := fun i hi => by
  obtain ⟨a, q, e, h1, h2, h3⟩ := h i hi
  have ha := hp a e
  refine ⟨a, q, e, cell_upd h1 u (by rw [add_block]; exact ha), cell_upd h2 u (by rw [add_block, add_block]; exact ha), tyAt_kind u (fun b cs' e' hB he hb => ?_) _ _ h3⟩
  have hb : b = k := hb
  subst hb
  have := (B.inj hB).2
  subst this
  revert he
  decide
def libD (th : Bool) : List Im := [⟨bL, th, { alL with broken := true }⟩]
def dsD : List (Option Dc) := [some ⟨1, 3, bU, bL, .nil⟩, none]
def SD (th : Bool) : Sc × List Dg := newF bM cl1 (libD th) dsD
theorem SD_ok : ∀ th, (alF (SD th).1 bU).map (·.dark) = some true ∧ (SD th).1.als.map (·.1) = [bU] ∧ (SD th).1.owns = [] ∧ bodyF (SD th).1 blV = none ∧ (SD th).1.path = bM ∧ (SD th).2 = if th then [] else [(3, 3)] := by
  intro th
  cases th <;> decide +kernel
theorem libD_ok (th : Bool) : ∀ m ∈ libD th, AlOk m.sum := by
  intro m hm
  obtain rfl : m = _ := by simpa [libD] using hm
  cases th <;> exact ⟨by decide, by decide, by decide, fun x hx => by
    obtain rfl : x = (bV, tk 4) := (by simpa [alL] using hx)
    decide⟩
theorem dsD_ok : DsOk dsD := ⟨by decide, fun d hd => by
  have : d = ⟨1, 3, bU, bL, .nil⟩ := by simpa [dsD] using hd
  subst this; exact ⟨by decide, by decide⟩⟩
theorem nameD (th : Bool) (y : ByteArray) : nameF (SD th).1 bU y = some (tk 1) := by
  obtain ⟨h, _⟩ := SD_ok th
  unfold nameF
  rw [if_neg (by decide)]
  cases e : alF (SD th).1 bU with
  | none => rw [e] at h; cases h
  | some a =>
    rw [e] at h
    have : a.dark = true := by simpa using h
    simp [this]
theorem valD (th : Bool) (y : ByteArray) : valueF (SD th).1 bU y = (tk 1, true, true) := by
  obtain ⟨h, _⟩ := SD_ok th
  unfold valueF
  cases e : alF (SD th).1 bU with
  | none => rw [e] at h; cases h
  | some a =>
    rw [e] at h
    have : a.dark = true := by simpa using h
    simp [this]
theorem alD (th : Bool) {x : ByteArray} (hx : x ≠ bU) : alF (SD th).1 x = none := by
  obtain ⟨_, h, _⟩ := SD_ok th
  unfold alF
  have : (SD th).1.als.find? (fun z => z.1 = x) = none := List.find?_eq_none.2 fun z hz => by
    have hz : z.1 ∈ (SD th).1.als.map (·.1) := List.mem_map.2 ⟨z, hz, rfl⟩
    rw [h] at hz
    have : z.1 = bU := by simpa using hz
    simp [this]
    exact fun e => hx e.symm
  rw [this]; rfl
theorem nameD2 (th : Bool) (x y : ByteArray) : (nameF (SD th).1 x y).isSome = decide (x = bU) := by
  by_cases hx : x = bU
  · subst hx; rw [nameD, decide_eq_true rfl]; rfl
  · rw [decide_eq_false hx]
    unfold nameF
    split
    · obtain ⟨_, _, h, _⟩ := SD_ok th
      have : ownF (SD th).1 y = none := by unfold ownF; rw [h]; rfl
      rw [this]; rfl
    · rw [alD th hx]; rfl
theorem valD2 (th : Bool) (x y : ByteArray) : (valueF (SD th).1 x y).2 = (decide (x = bU), decide (x = bU)) := by
  by_cases hx : x = bU
  · subst hx; rw [valD, decide_eq_true rfl]
  · rw [decide_eq_false hx]
    unfold valueF
    rw [alD th hx]
theorem resD (th : Bool) (y : ByteArray) : resF (SD th).1 (.mk 6 0 bU y [] [] .nil) = (tk 1, []) := by
  unfold resF
  rw [if_neg (by decide), if_pos rfl, nameD]

set_option maxRecDepth 20000 in
set_option maxHeartbeats 1000000 in
theorem dark_c {w : World} {x y : ByteArray} {th : Bool} {K : Value → World → Prop} (g : Gl w) (hk : ∀ w', Upd No w w' → K (.bool true) w') : callC Tryz.prog 5 #[.string x, .string y, .bool th] w K := by
  refine dark_text _ _ _ _ _ (works_c g fun w1 u1 => ⟨_, rfl, brC_ff rfl ?_⟩)
  refine library_c fun k p q w4 B4 hp hq hkk hpk hqk u4 => ⟨_, _, _, rfl, by omega, by omega, ptrC_some ?_⟩
  rw [add_mk]
  refine stC_mk B4 (by simp) fun w9 B9 u9 _ => ⟨by omega, by omega, ptrC_some ?_⟩
  rw [add_mk, add_mk]
  refine stC_mk B9 (by simp) fun w11 B11 u11 _ => newC_mk fun w13 B13 u13 s13 => newC_mk fun w15 B15 u15 s15 => ?_
  have hp11 := ex_upd (ex_upd hp u9 B4 hpk) u11 B9 hpk
  have hq11 := ex_upd (ex_upd hq u9 B4 hqk) u11 B9 hqk
  have n11 : Upd No w1 w11 := (u4.trans u9 fun b hb (e : b = _) => by omega).trans u11 fun b hb (e : b = _) => by omega
  have n15 : Upd No w1 w15 := up (up n11 u13) u15
  have I15 : ImAt w15 (some ⟨k, 0, none⟩) (libD th) := imAt_lib (th := th) (br := true) ((B11.upd u13 id).upd u15 id) ((hp11.keep u13).keep u15) ((hq11.keep u13).keep u15)
  have D15 : RowAt w15 51 1 (.slice (some ⟨w13.heap.size, 0, none⟩) 2 2) [.pointer (some ⟨w11.heap.size, 0, none⟩), .pointer none] := row_blk B15 2 rfl (by simp only [maxLen]; omega)
  refine New_c (path := bM) (ds := dsD) (cl := cl1) D15 rfl (fun i v d h1 h2 => ?_) dsD_ok I15 rfl (by show 1 ≤ 1000000; omega) (libD_ok th) (fun d hd h1 => ?_) (by decide) fun sc v w17 hS hrow own okS u17 => ?_
  · match i, h1, h2 with
    | 0, h1, h2 =>
      cases h1; cases h2
      exact ⟨_, _, rfl, Nat.zero_le _, B13.upd u15 id, rfl⟩
    | 1, h1, h2 => cases h1; cases h2; rfl
    | i + 2, h1, _ => cases h1
  · have : d = ⟨1, 3, bU, bL, .nil⟩ := by simpa [dsD] using hd
    subst this
    exact clean_of (by decide +kernel)
  have hS : ScAt w17 sc (SD th).1 := hS
  have okS : ScOk (SD th).1 := okS
  have hrow : RowAt w17 35 3 v (dgCells bM (SD th).2) := hrow
  obtain ⟨_, _, _, hbody, _, htold⟩ := SD_ok th
  rw [htold] at hrow
  obtain ⟨pd, nd, cd, rfl, hnd, _, _⟩ := hrow.shape
  refine ⟨_, _, _, _, rfl, ?_⟩
  refine Named_c hS okS fun q24 w23 h24 u23 => ⟨_, _, rfl, ?_⟩
  rw [show ByteArray.mk #[117] = bU from rfl, nameD] at *
  refine Value_c (hS.keep u23) okS fun q28 w27 h28 u27 => ⟨_, _, _, rfl, ?_⟩
  have U27 := up u23 u27
  refine Named_c (hS.keep U27) okS fun q33 w32 h33 u32 => ⟨_, _, rfl, ?_⟩
  have U32 := up U27 u32
  refine Value_c (hS.keep U32) okS fun q37 w36 h37 u36 => ⟨_, _, _, rfl, newC_mk fun w41 B41 u41 s41 => ?_⟩
  have U41 := up (up U32 u36) u41
  refine Resolve_c (hS.keep U41) okS (t := .mk 6 0 bU y [] [] .nil) (mkX0 B41 (Nat.zero_le _)) (by simp [xsz, xszs]) fun q44 v w43 h44 rowM ownM u43 => ?_
  obtain ⟨pm, nm, cm, rfl, hnm, _, _⟩ := rowM.shape
  have U43 := up U41 u43
  rw [resD] at h44 hnm
  refine ⟨_, _, _, _, rfl, ?_⟩
  have hnm : nm = 0 := by simp [dgCells] at hnm; omega
  subst hnm
  have row43 := hrow.upd U43 fun _ _ h => h
  refine ⟨fun w' => w' = w43, ?_, fun b w' => b = false ∧ w' = w43, ?_, ?_⟩
  · rintro w49 rfl _
    refine Body_c (hS.keep U43) okS fun q53 w52 _ u52 => ⟨_, _, rfl, ?_⟩
    have hb : (bodyF (SD th).1 (ByteArray.mk #[108, 46, 86])).isSome = false := by rw [show ByteArray.mk #[108, 46, 86] = blV from rfl, hbody]; rfl
    have v28 := valD th y
    have tAny : bs (text (tk 1)) = bAny := by decide +kernel
    have n34 := nameD2 th x y
    have v37 := valD2 th x y
    have ex : (ByteArray.toList x == ByteArray.toList bU) = decide (x = bU) := beq_bytes _ _
    have r28 : (valueF (SD th).1 bU y).2.1 = true := by rw [v28]
    have r29 : (valueF (SD th).1 bU y).2.2 = true := by rw [v28]
    have r38 : (valueF (SD th).1 x y).2.1 = decide (x = bU) := by rw [v37]
    have r39 : (valueF (SD th).1 x y).2.2 = decide (x = bU) := by rw [v37]
    rw [v28] at h28
    have U52 := up U43 u52
    refine brC_tt rfl (brC_tt r28 (brC_tt r29 ?_))
    refine c_text (h24.keep (up (up (up (up u27 u32) u36) u41) (up u43 u52))) fun w56 u56 => ⟨_, rfl, brC_tt (tl_eq tAny) ?_⟩
    refine c_text ((h28.keep (up (up (up u32 u36) u41) (up u43 u52))).keep u56) fun w59 u59 => ⟨_, rfl, brC_tt (tl_eq tAny) ?_⟩
    refine c_text ((h44.keep u52).keep (up u56 u59)) fun w62 u62 => ⟨_, rfl, brC_tt (tl_eq tAny) (brC_tt rfl ?_)⟩
    rw [ex]
    refine brC_tt (by rw [n34]; exact beq_self_eq_true _) (brC_tt (by rw [r38]; exact beq_self_eq_true _) (brC_tt (by rw [r39]; exact beq_self_eq_true _) ?_))
    rw [hb]
    exact hk w62 (up u1 (up n15 (up u17 (up U52 (up (up u56 u59) u62)))))
  · rintro b w66 ⟨rfl, rfl⟩ _
    exact brC_ff rfl rfl
  · cases th with
    | true =>
      have : nd = 0 := by simp [dgCells] at hnd; omega
      subst this
      exact brC_tt rfl (brC_ff rfl (brC_ff rfl ⟨rfl, rfl⟩))
    | false =>
      have : nd = 1 := by simp [dgCells] at hnd; omega
      subst this
      obtain ⟨g0, o0, rfl, c0⟩ := row43.get (j := 0) (by simp [dgCells])
      have cell : ∀ j, j < 3 → w43.cell? ⟨g0, o0 + j, none⟩ = (dgCells bM [(3, 3)])[j]? := fun j hj => by
        obtain ⟨g', o', e, h⟩ := row43.get (j := j) (by simpa [dgCells] using hj)
        cases e; exact h
      refine brC_ff rfl (brC_tt rfl (brC_ff rfl ⟨by omega, by omega, ptrC_some ⟨bM, c0, 3, by rw [add_mk]; exact cell 1 (by omega), 3, by rw [add_mk]; exact cell 2 (by omega), .bool !(bM.toList == bM.toList && ((3 : Int) == 3 && ((3 : Int) == 3 && true))), ⟨_, rfl, by decide +kernel, rfl⟩, fun w' e => by cases e; exact diag_eq _ _ _⟩⟩))
end Go.Proofs.YtdbkclnlfibgdaaGreatDoor

/- The tables that the library reads, off the row's condition. -/
namespace Go.Proofs.YtdbkclnlfibgdaaGreatDoor
open Go.ChangeShapes Go.WideShapes Go.ChangeAt Go.RowKit Go.SX

theorem own_prog : ownKnob Tryz.prog.godebug = none := by kernel_rfl
theorem laidOut : laidOutB Tryz.prog = true := by kernel_rfl
theorem undBool : Tryz.prog.underlying 4 = some .bool := by kernel_rfl
theorem space_und : Tryz.prog.globalNamed "strings.asciiSpace" = some (Tryz.fieldsL_ren.g 0) := by kernel_rfl
theorem gl_of {W : World} (h : laidMetH Tryz.prog Rows.namesDarkRow.laid W) : Gl W := by
  have h1 := h.filter (fun x => x.1 == "strings.asciiSpace")
  have h2 : laidMetH Tryz.prog [("strings.asciiSpace", Lib.tabData .u8 Lib.asciiSpaceTab)] W := by
    have e : (Rows.namesDarkRow.laid.filter fun x => x.1 == "strings.asciiSpace") = [("strings.asciiSpace", Lib.tabData .u8 Lib.asciiSpaceTab)] := by kernel_rfl
    rw [← e]; exact h1
  rw [MakeChecks.laidMetH_plain _ _ _ (by kernel_rfl)] at h2
  exact ⟨Lib.tabIs_of_head (t := ((Tryz.prog.globals[Tryz.fieldsL_ren.g 0]?).map (·.type)).getD 0) space_und (by kernel_rfl) (n := 256) (e := 5) (by kernel_rfl) (by kernel_rfl) (by kernel_rfl) (by kernel_rfl) h2⟩
end Go.Proofs.YtdbkclnlfibgdaaGreatDoor
