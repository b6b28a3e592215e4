/- Joined by program of: R1, R2, R3, R4, R5, R6, R7, R8, R9, Ra, Rb, Rc, Rd, Re, Rf, Rg, Rh, Ri. -/
import Derived.Test.YtdbkclnlfibgdaaGreatDoorWd
import Derived.Test.YtdbkclnlfibgdaaGreatDoorVj
import Derived.Laws.Runes
import Derived.Shelf.Small.Strs
import Derived.Shelf.Unicode.DecodeAny
import Derived.Lib.RuneCountTail
import Derived.Lib.QuoteLoop
import Derived.Shelf.Strings.BuilderK
import Derived.Laws.IdiomStrings
import Derived.Test.YtdbkclnlfibgdaaGreatDoorWe
import Derived.Test.YtdbkclnlfibgdaaGreatDoorWh
set_option maxRecDepth 100000
set_option maxHeartbeats 4000000
namespace Go.Proofs.YtdbkclnlfibgdaaGreatDoor
open Go.SX Go.Ty Go.MapKept Go.RowKit Go.Shelf
theorem callC_ofXR {P : Program} {f : FuncId} {args : Array Value} {w : World} {K : KV} (h : callX P f args w K fun _ _ => False) : callC P f args w K :=
  Calls.mono h fun e w' x => by
    cases e with
    | returned v => exact x
    | panicked c => obtain ⟨_, _, h⟩ := panK_out x; exact h
    | outgrown => exact x.elim
def esc : ByteArray := ByteArray.mk #[34, 92, 110]
theorem valid_c {r : Int} {w : World} {K : KV} (h : K (.bool (Utf8.valid r)) w) : callC Tryz.prog 206 #[.int .i32 r] w K := by
  have hv : Utf8.valid r = ((decide (0 <= r) && decide (r < 55296)) || (decide (57343 < r) && decide (r <= 1114111))) := by
    unfold Utf8.valid; rw [Bool.eq_iff_iff]; simp; omega
  refine vrune_text _ _ _ ⟨fun b w' => w' = w /\ b = (decide (0 <= r) && decide (r < 55296)), ?_, ?_⟩
  . rintro b w2 ⟨rfl, hb⟩ _; refine brC_intro (fun h1 => ?_) fun h1 => ⟨fun b w' => w' = w2 /\ b = (decide (57343 < r) && decide (r <= 1114111)), ?_, ?_⟩
    . rw [hv, <- hb, h1] at h; exact h
    . rintro b' w3 ⟨rfl, hb'⟩ _; rw [hv, <- hb, h1, <- hb', Bool.false_or] at h; exact brC_intro (fun h2 => by rw [h2] at h; exact h) fun h2 => by rw [h2] at h; exact h
    . exact brC_intro (fun h2 => ⟨rfl, by rw [h2]; rfl⟩) fun h2 => ⟨rfl, by rw [h2]; rfl⟩
  . exact brC_intro (fun h2 => ⟨rfl, by rw [h2]; rfl⟩) fun h2 => ⟨rfl, by rw [h2]; rfl⟩
theorem indexByte_none : ∀ {l : List UInt8} {c : UInt8}, c ∉ l -> Lib.indexByte l c = -1
  | [], _, _ => rfl
  | b :: l, c, h => by
    unfold Lib.indexByte; have hb : (b == c) = false := by rw [beq_eq_false_iff_ne]; exact fun e => h (by rw [e]; exact List.mem_cons_self)
    have hl := indexByte_none (l := l) (c := c) fun e => h (List.mem_cons_of_mem _ e); rw [hb, hl]; rfl
theorem indexByte_lt2 : ∀ {s : List UInt8} {c : UInt8}, Lib.indexByte s c < s.length
  | [], c => by show (-1 : Int) < _; simp
  | b :: l, c => by
    have := indexByte_lt2 (s := l) (c := c); unfold Lib.indexByte; split
    . simp
    . split
      . simp; omega
      . simp; omega
theorem ibyte_c {s : ByteArray} {c : Int} {w : World} {K : KV} (h : K (.int .i64 (Lib.indexByte s.data.toList c.toNat.toUInt8)) w) : callC Tryz.prog 205 #[.string s, .int .u8 c] w K :=
  callC_of_calls (Any.strings_IndexByte { Tryz.irL with } s c w) fun e w' ⟨he, hw⟩ => ⟨_, he, by subst hw; exact h⟩
theorem esc_low : ∀ b ∈ esc.data.toList, b.toNat < 128 := by decide +kernel
theorem byteAt_get {s : ByteArray} {i : Nat} (h : i < s.size) : byteAt s i = ((s[i]'h).toNat : Int) := by
  unfold byteAt; rw [getElem?_pos s i h]
theorem irune_c {r : Int} {w : World} {K : KV} (hk : ∀ (n : Int) w', n < 3 -> Upd No w w' -> K (.int .i64 n) w') : callC Tryz.prog 179 #[.string esc, .int .i32 r] w K := by
  refine callC_ofXR (irune_text _ _ _ _ _ ⟨fun b w' => w' = w /\ b = (decide (0 <= r) && decide (r < 128)), ?_, ?_⟩)
  rotate_left
  . exact brC_intro (fun h2 => ⟨rfl, by rw [h2]; rfl⟩) fun h2 => ⟨rfl, by rw [h2]; rfl⟩
  rintro b w2 ⟨rfl, hb⟩ _; refine brC_intro (fun h1 => ibyte_c ⟨_, rfl, hk _ _ indexByte_lt2 (Upd.refl _ _)⟩) fun h1 => ?_; rw [h1] at hb; refine brC_intro (fun h2 => ?_) fun h2 => ?_
  . -- the rune that stands for none
    refine range_str fun w8 I8 u8 _ => ⟨fun w' => ∃ p, p <= 3 /\ StrIt w' w2.heap.size esc p /\ Upd (· = w2.heap.size) w8 w', fun w' => 3 - posOf w' w2.heap.size, ⟨0, by omega, I8, Upd.refl _ _⟩, ?_⟩; rintro w11 ⟨p, hp, I11, u11⟩ _; have out : Upd No w2 w11 := u8.trans u11 fun x hx (e : x = _) => by omega
    by_cases hlt : p < esc.size
    . have ha : (esc[p]'hlt).toNat < 128 := esc_low _ (by
        have : esc[p]'hlt = esc.data.toList[p]'(by simpa using hlt) := by simp; rfl
        rw [this]; exact List.getElem_mem _)
      refine next_str I11 hlt ha _ fun w13 I13 u13 _ => .inr ⟨_, _, rfl, brC_ff (by rw [beq_eq_false_iff_ne]; omega) ⟨⟨p + 1, hlt, I13, u11.trans u13 fun _ _ e => e⟩, ?_⟩⟩; show 3 - posOf w13 _ < 3 - posOf w11 _; have h3 : esc.size = 3 := rfl; rw [I13.pos, I11.pos]; omega
    . exact next_end I11 hlt _ (.inl ⟨rfl, hk _ _ (by omega) out⟩)
  . refine valid_c ⟨_, rfl, brC_intro (fun h3 => hk _ _ (by omega) (Upd.refl _ _)) fun h3 => ?_⟩; have hv : Utf8.valid r = true := by simpa using h3
    have h128 : 128 <= r := by
      have hb : ¬ (0 <= r /\ r < 128) := by simpa using hb.symm
      unfold Utf8.valid at hv; simp at hv; omega
    obtain ⟨f1, f2, f3⟩ := encode_facts r hv h128; refine ⟨_, _, run_convert_int_string w2 21 9 .i32 r (by kernel_rfl) (by kernel_rfl), _, rfl, ?_⟩; generalize Utf8.encode r = rs at f1 f2 f3; have ew : IntKind.wrap .i64 ((rs.size : Int) - 1) = ((rs.size - 1 : Nat) : Int) := by rw [Go.SX.wrap_small (by omega) (by omega)]; omega
    rw [ew]; have f3 := f3 (by omega); refine ⟨fun n w' => n = ((rs.size - 1 : Nat) : Int) /\ w' = w2, fun _ _ => 0, ⟨rfl, rfl⟩, ?_⟩; rintro n w26 ⟨rfl, rfl⟩ _; have h3 : esc.size = 3 := rfl; refine brC_intro (fun h4 => ⟨fun _ _ => False, fun _ _ h => h.elim, ?_⟩) fun h4 => hk _ _ (by omega) (Upd.refl _ _); have h4 : rs.size - 1 < 3 := by have := of_decide_eq_true h4; omega
    refine drawC_mk fun w41 u41 _ => ⟨by omega, by omega, by omega, by omega, ?_⟩; rw [Int.toNat_natCast, byteAt_get (s := rs) (by omega), byteAt_get (s := esc) (by omega)]
    have hlo : (esc[rs.size - 1]'(by omega)).toNat < 128 := esc_low _ (by
      have : esc[rs.size - 1]'(by omega) = esc.data.toList[rs.size - 1]'(by have : esc.data.toList.length = 3 := rfl; omega) := by simp; rfl
      rw [this]; exact List.getElem_mem _)
    refine brC_tt (by rw [bne_iff_ne]; omega) (drawC_mk fun w42 u42 _ => ?_); have e1 : IntKind.wrap .i64 (((rs.size - 1 : Nat) : Int) + 1) = ((rs.size - 1 + 1 : Nat) : Int) := wrap_succ (by omega); rw [e1]; refine ⟨by omega, by omega, by omega, by omega, by omega, ?_⟩
    have hnone : Lib.indexByte (esc.extract (Int.toNat ((rs.size - 1 + 1 : Nat) : Int)) (Int.toNat (esc.size : Int))).data.toList ((((rs[rs.size - 1]'(by omega)).toNat : Nat) : Int).toNat.toUInt8) = -1 := by
      refine indexByte_none fun hm => ?_; have := ext_txt esc (Int.toNat ((rs.size - 1 + 1 : Nat) : Int)) (Int.toNat (esc.size : Int)); unfold txt at this; rw [this] at hm; have := esc_low _ (List.mem_of_mem_drop (List.mem_of_mem_take hm)); rw [Int.toNat_natCast] at this; have e : ((rs[rs.size - 1]'(by omega)).toNat.toUInt8).toNat = (rs[rs.size - 1]'(by omega)).toNat := by simp
      omega
    refine ibyte_c ⟨_, rfl, ?_⟩; rw [hnone]; exact brC_tt rfl (hk _ _ (by omega) (up u41 u42))
end Go.Proofs.YtdbkclnlfibgdaaGreatDoor
namespace Go.Proofs.YtdbkclnlfibgdaaGreatDoor
open Go.SX Go.Ty Go.MapKept Go.RowKit
theorem wu8 (y : Int) : ∃ b : UInt8, IntKind.wrap .u8 y = (b.toNat : Int) := by
  have e : IntKind.wrap .u8 y = y % 256 := rfl; have h0 : 0 <= y % 256 := Int.emod_nonneg _ (by omega); have h1 : y % 256 < 256 := Int.emod_lt_of_pos _ (by omega); refine ⟨UInt8.ofNat (y % 256).toNat, ?_⟩; rw [e]; have : (UInt8.ofNat (y % 256).toNat).toNat = (y % 256).toNat := by simp; omega
  rw [this]; omega
structure App (n0 bb : Nat) (w1 : World) (v : Value) (l : List UInt8) (v' : Value) (w3 : World) : Prop where
  ex : ∃ w2 l', l'.length <= 4 /\ Upd No w1 w2 /\ w1.drawn <= w2.drawn /\ w2.ownsRowF n0 5 1 v (Lib.byteCells l).length (Lib.byteCells l) /\ w2.grownBy w3 v.ownBlock /\ w2.drawn <= w3.drawn /\ w3.ownsRowF n0 5 1 v' (Lib.byteCells (l ++ l')).length (Lib.byteCells (l ++ l'))
theorem app_c {n0 bb : Nat} {w1 : World} {v : Value} {p3 : Option Addr} {k4 k5 : Nat} {l : List UInt8} (hv : v = .slice p3 k4 k5) (hown : w1.ownsRowF n0 5 1 v (Lib.byteCells l).length (Lib.byteCells l)) (hl : l.length + 4 <= 1000000) (hn : n0 <= w1.heap.size) (l' : List UInt8) (h4 : l'.length <= 4) {cs : Array Value} (hcs : cs.toList = Lib.byteCells l') (m : Nat) (hm : m = l'.length) {K : KV}
    (hk : ∀ v' w', App n0 bb w1 v l v' w' -> (∃ p n c, v' = .slice p n c) -> K v' w') : newC w1 (Obj.cells cs 5) fun k w2 => runC Tryz.prog (Builtin.append_ #[128, 128] 128 #[.slice p3 k4 k5, .slice (some (Addr.mk k 0 none)) m m]) w2 K := by
  subst hm; obtain ⟨i0, hi, hz0, hz1, hz2⟩ := info_parts Tryz.Builder_Extra_str.infoByte; have hu22 : Tryz.prog.underlying 128 = some (.slice 5) := by kernel_rfl
  have hlen : (Lib.byteCells l).length = l.length := Lib.byteCells_length l; have hlen' : (Lib.byteCells l').length = l'.length := Lib.byteCells_length l'; unfold newC; have B2 := blk_alloc w1 cs 5; have u2 := upd_alloc w1 (.cells cs 5); have d2 : w1.drawn <= (w1.alloc (.cells cs 5)).drawn := Nat.le_refl _; generalize (w1.alloc (.cells cs 5)) = w2 at B2 u2 d2; have hown2 : w2.ownsRowF n0 5 1 v (Lib.byteCells l).length (Lib.byteCells l) := hown.kept (row := none) ⟨u2.os, u2.tape, u2.output, u2.size, fun k hk _ => u2.block k hk id⟩ (by cases hv2 : v.ownBlock <;> simp); rw [<- hv]
  obtain ⟨v', w3, hrun, hown', hgrow, _⟩ := run_append_ownF (P := Tryz.prog) (w := w2) n0 128 128 5 i0 (.int .u8 0) 1 1 hu22 hi hz0 hz1 hz2 rfl (by omega) _ _ _ hown2 ⟨w1.heap.size, 0, none⟩ l'.length l'.length (Lib.byteCells l') (by omega)
    (fun j u hj => by
      rw [add_mk, Nat.zero_add]; refine B2.cell ?_; rw [<- Array.getElem?_toList, hcs]; exact hj) (fun u hu => by unfold Lib.byteCells at hu; obtain ⟨b, _, rfl⟩ := List.mem_map.1 hu; rfl) (by simp only [maxLen]; omega) (by omega) (by have := u2.size; omega)
  have hd := run_drawn _ _ _ _ hrun
  have hsl : ∃ p n c, v' = .slice p n c := by
    rcases hown'.2 with ⟨hv, _⟩ | ⟨g, cap, cur, fz, hv, _⟩
    . exact ⟨_, _, _, hv⟩
    . exact ⟨_, _, _, hv⟩
  refine ⟨v', w3, hrun, hk v' w3 ⟨w2, l', h4, u2, d2, hown2, hgrow, hd, ?_⟩ hsl⟩; have e : (Lib.byteCells (l ++ l')).length = (Lib.byteCells l).length + l'.length := by rw [Lib.byteCells_length, List.length_append, hlen]
  rw [e, <- byteCells_append]; exact hown'
theorem arune_c {n0 bb : Nat} {w1 : World} {v : Value} {p3 : Option Addr} {k4 k5 : Nat} {l : List UInt8} (hv : v = .slice p3 k4 k5) (hown : w1.ownsRowF n0 5 1 v (Lib.byteCells l).length (Lib.byteCells l)) (hl : l.length + 4 <= 1000000) (hn : n0 <= w1.heap.size) {r : Int} {K : KV}
    (hk : ∀ p n c w', App n0 bb w1 v l (.slice p n c) w' -> K (.slice p n c) w') : callC Tryz.prog 209 #[.slice p3 k4 k5, .int .i32 r] w1 K := by
  refine appendRune_text _ _ _ _ _ _ (brC_intro (fun _ => ?_) fun _ => arna_text _ _ _ _ _ _ (brC_intro (fun _ => ?_) fun _ => ⟨fun _ w' => w' = w1, ?_, ?_⟩))
  . obtain ⟨b, hb⟩ := wu8 r; rw [hb]; exact app_c (bb := bb) hv hown hl hn [b] (by simp) rfl 1 rfl fun v' w' h ⟨p, n, c, e⟩ => ⟨p, n, c, e, hk p n c w' (e ▸ h)⟩
  . obtain ⟨b, hb⟩ := wu8 _; obtain ⟨b2, hb2⟩ := wu8 _; rw [hb, hb2]; exact app_c (bb := bb) hv hown hl hn [b, b2] (by simp) rfl 2 rfl fun v' w' h ⟨p, n, c, e⟩ => ⟨p, n, c, e, p, n, c, rfl, hk p n c w' (e ▸ h)⟩
  . rintro b w36 rfl _; refine brC_intro (fun _ => ?_) fun _ => ⟨fun _ w' => w' = w36, ?_, brC_intro (fun _ => rfl) fun _ => rfl⟩
    . obtain ⟨b, hb⟩ := wu8 _; obtain ⟨b2, hb2⟩ := wu8 _; obtain ⟨b3, hb3⟩ := wu8 _; rw [hb, hb2, hb3]; exact app_c (bb := bb) hv hown hl hn [b, b2, b3] (by simp) rfl 3 rfl fun v' w' h ⟨p, n, c, e⟩ => ⟨p, n, c, e, p, n, c, rfl, hk p n c w' (e ▸ h)⟩
    . rintro b w96 rfl _; refine brC_intro (fun _ => ?_) fun _ => ?_
      . obtain ⟨b, hb⟩ := wu8 _; obtain ⟨b2, hb2⟩ := wu8 _; obtain ⟨b3, hb3⟩ := wu8 _; obtain ⟨b4, hb4⟩ := wu8 _; rw [hb, hb2, hb3, hb4]; exact app_c (bb := bb) hv hown hl hn [b, b2, b3, b4] (by simp) rfl 4 rfl fun v' w' h ⟨p, n, c, e⟩ => ⟨p, n, c, e, p, n, c, rfl, hk p n c w' (e ▸ h)⟩
      . exact app_c (bb := bb) hv hown hl hn [239, 191, 189] (by simp) rfl 3 rfl fun v' w' h ⟨p, n, c, e⟩ => ⟨p, n, c, e, p, n, c, rfl, hk p n c w' (e ▸ h)⟩
  . exact brC_intro (fun _ => rfl) fun _ => brC_intro (fun _ => rfl) fun _ => rfl
theorem bwr_t {n0 bb : Nat} {w : World} {l : List UInt8} (h : Bld n0 bb w l) (r : Int) (hl : l.length + 4 <= 1000000) (hn : n0 <= w.heap.size) {K : KV}
    (hk : ∀ (m : Int) l' w', l'.length <= 4 -> Bld n0 bb w' (l ++ l') -> BStep n0 bb w w' -> K (.tuple #[.int .i64 m, .nilIface]) w') :
    callC Tryz.prog 180 #[.pointer (some ⟨bb, 0, none⟩), .int .i32 r] w K := by
  refine wrune_text _ _ _ _ (callC_of (bcc_spec h) fun v w1 ⟨e, h1, s1⟩ => ⟨e, ?_⟩); obtain ⟨hB, v, hbk, hown, hne⟩ := h1; have hlen : (Lib.byteCells l).length = l.length := Lib.byteCells_length l
  obtain ⟨p3, k4, k5, rfl⟩ : ∃ p3 k4 k5, v = .slice p3 k4 k5 := by
    rcases hown.2 with ⟨hv, _⟩ | ⟨g, cap, cur, fz, hv, _⟩
    . exact ⟨_, _, _, hv⟩
    . exact ⟨_, _, _, hv⟩
  have hw1 := s1.below.size; have Bb : Blk w1 bb #[.pointer (some ⟨bb, 0, none⟩), .slice p3 k4 k5] 130 := hbk; refine ptrC_some ⟨p3, k4, k5, by rw [add_mk]; exact Bb.cell rfl, ptrC_some ⟨p3, k4, k5, by rw [add_mk]; exact Bb.cell rfl, ?_⟩⟩; refine arune_c (bb := bb) rfl hown hl (by omega) fun p8 k9 k10 w3 hA => ⟨p8, k9, k10, rfl, ptrC_some ?_⟩; obtain ⟨w2, l', h4, u2, d2, hown2, hgrow, hd, hown'⟩ := hA.ex; have hlt : bb < w2.heap.size := (Bb.upd u2 id).lt
  have hb2 : w3.heap[bb]? = some (.cells #[.pointer (some ⟨bb, 0, none⟩), .slice p3 k4 k5] 130 (0, 0)) := by
    rw [hgrow.block bb hlt (fun e => hne e.symm)]; exact Bb.upd u2 id
  have B3 : Blk w3 bb #[.pointer (some ⟨bb, 0, none⟩), .slice p3 k4 k5] 130 := hb2; rw [add_mk]; refine ⟨⟨_, B3.cell rfl⟩, B3.frozen _, ptrC_some ⟨p8, k9, k10, ?_, hk _ l' _ h4 (.inr ?_) ?_⟩⟩
  . rw [add_mk]; exact (B3.set 1 (.slice p8 k9 k10)).cell rfl
  . exact Lib.BuilderAtF.put (T := 130) (e := 5) hB hb2 (bs' := Lib.byteCells (l ++ l')) hown' (by decide)
  . have s2 : BStep n0 bb w1 w2 := BStep.upd u2 (by omega) d2; refine (s1.trans s2).trans ⟨?_, ?_, hd⟩
    . exact ((Below.refl n0 w2).grown hgrow (by have := u2.size; omega) (fun k hk => (hown2.lt k hk).1)).setCell (p := ⟨bb, 1, none⟩) hB _
    . exact ((Lib.OthersKept.refl _ _ w2).grown hgrow (Lib.ownsRowF_kind hown2)).setCell ⟨bb, 1, none⟩ rfl _
structure Gu (w : World) : Prop where
  g : Gl w
  u : Lib.Utf8Tabs (Tryz.drL_ren.g 3) (Tryz.drL_ren.g 4) w
theorem Gu.keep {w w' : World} (h : Gu w) (u : Upd No w w') : Gu w' := ⟨h.g.keep u, fun c hc => cell_keep (h.u.1 c hc) u, fun i hi => ⟨cell_keep (h.u.2 i hi).1 u, cell_keep (h.u.2 i hi).2 u⟩⟩
def Flt (v : Value) : Prop := ∃ q, v = .iface 106 (.pointer q)
theorem decode_c {w : World} (g : Gu w) (s : ByteArray) {K : KV} (hk : ∀ (n m : Int) w', Upd No w w' -> K (.tuple #[.int .i32 n, .int .i64 m]) w') : callC Tryz.prog 178 #[.string s] w K :=
  callC_of_calls (Any.utf8_DecodeRuneInString { Tryz.drL with } s w g.u) fun _ w' ⟨he, hb⟩ => ⟨_, he, hk _ _ w' (upd_of_below hb)⟩
theorem wrong_t {x0 : Int} {w : World} {K R : KV} (hR : ∀ v w', Flt v -> Upd No w w' -> R v w') : callX Tryz.prog 136 #[.int .i64 x0] w K R :=
  wrong_text _ _ _ _ (newC_mk fun w1 _ u _ => hR _ w1 ⟨_, rfl⟩ u)
theorem char_t {w : World} {k m a : Nat} {s : ByteArray} {sg ou : Value} (g : Gu w) (B : LxAt w k s a m sg ou) {p : Nat} (hp : p <= s.size) {r : Int} {K R : KV} (hk : ∀ w', Upd No w w' -> K (.tuple #[]) w') (hR : ∀ v w', Flt v -> Upd No w w' -> R v w') :
    callX Tryz.prog 131 #[.pointer (some ⟨k, 0, none⟩), .int .i64 (p : Int), .int .i32 r] w K R := by
  refine character_text _ _ _ _ _ _ (ptrC_some ⟨_, B.cell rfl, by omega, by omega, by omega, decode_c g _ fun n m w' u => ⟨_, _, rfl, fun _ w' => Upd No w w', ?_, ?_⟩⟩)
  . intro b w8 u8 _; exact brC_intro (fun _ => wrong_t fun v w9 f u9 => hR v w9 f (up u8 u9)) fun _ => hk w8 u8
  . exact brC_intro (fun _ => u) fun _ => u
theorem next_any {w : World} {r p : Nat} {s : ByteArray} (h : StrIt w r s p) (hp : p < s.size) (ty : TypeId) {K : KV}
    (hk : ∀ w' (p' : Nat) (c : Int), p < p' -> p' <= s.size -> StrIt w' r s p' -> Upd (· = r) w w' -> K (.tuple #[.bool true, .int .i64 (p : Int), .int .i32 c]) w') : runC Tryz.prog (Instr.next (.pointer (some ⟨r, 0, none⟩)) true ty) w K := by
  have h1 := Lib.decode_width_pos s p hp
  have h2 : (Utf8.decode s p).2 <= s.size - p := by
    have := Lib.width_le (s.extract p s.size) (by simp; omega); rw [Lib.tail_decode, Nat.add_zero] at this; simpa using this
  refine ⟨_, { w with heap := w.heap.setIfInBounds r (.stringIter s (p + (Utf8.decode s p).2)) }, ?_, hk _ (p + (Utf8.decode s p).2) (Utf8.decode s p).1 (by omega) (by omega) ?_ (upd_set w r _)⟩
  . unfold StrIt at h; simp only [Instr.next, getObj, setObj, Sem.run_bind, Sem.run, h, Result.andThen, hp, if_true]; simp [goInt]
  . have := h.lt; unfold StrIt; simp [this]
theorem lineF_le (l : List UInt8) : (lineF l).length <= l.length := by
  unfold lineF Lib.cut; split
  . simp; omega
  . exact Nat.le_refl _
theorem lineF_pos {c : UInt8} {l : List UInt8} (h : c ≠ 10) : 0 < (lineF (c :: l)).length := by
  have := (lineF_get (l := c :: l) (n := 1) (by simp) fun i hi h1 => by
    have : i = 0 := by omega
    subst this; exact h).1
  omega
theorem bs_size (l : List UInt8) : (bs l).size = l.length := by rw [size_txt, txt_bs]
theorem remark_t {w : World} {k m a : Nat} {s : ByteArray} {sg ou : Value} (g : Gu w) (B : LxAt w k s a m sg ou) (ha : a <= s.size) (hs : s.size <= 100000) {K R : KV}
    (hk : ∀ w', LxAt w' k s (a + (lineF ((txt s).drop a)).length) m sg ou -> Upd (· = k) w w' -> K (.tuple #[]) w') (hR : ∀ v w', Flt v -> Upd (· = k) w w' -> R v w') :
    callX Tryz.prog 82 #[.pointer (some ⟨k, 0, none⟩)] w K R := by
  have hsz := size_txt s; have klt := B.lt; have hle := lineF_le ((txt s).drop a); rw [List.length_drop] at hle; refine remark_text _ _ _ _ (callC_of (line_spec g.g B ha (by omega)) fun v w1 ⟨e, u1⟩ => ⟨_, e, ?_⟩); generalize lineF ((txt s).drop a) = ln at hle hk; have hln := bs_size ln; have z1 := u1.size; refine range_str fun w4 I4 u4 _ => ⟨fun w' => ∃ p, p <= (bs ln).size /\ StrIt w' w1.heap.size (bs ln) p /\ Upd No w w', fun w' => (bs ln).size - posOf w' w1.heap.size, ⟨0, by omega, I4, up u1 u4⟩, ?_⟩; rintro w7 ⟨p, hp, I7, u7⟩ _
  by_cases hlt : p < (bs ln).size
  . refine next_any I7 hlt _ fun w10 p' c h1 h2 I10 u10 => .inr ⟨_, _, rfl, ?_⟩; have U10 : Upd No w w10 := u7.trans u10 fun x hx (e : x = _) => by omega
    refine ptrC_some ⟨_, (B.upd U10 id).cell rfl, ?_⟩; have ew : IntKind.wrap .i64 ((a : Int) + (p : Int)) = ((a + p : Nat) : Int) := by rw [Go.SX.wrap_small (by omega) (by omega)]; omega
    rw [ew]; refine char_t (g.keep U10) (B.upd U10 id) (by omega) (fun w20 u20 => ⟨rfl, ⟨p', h2, I10.upd u20 id, up U10 u20⟩, ?_⟩) fun v w' f u => hR v w' f (up U10 u).no; show _ - posOf w20 _ < _ - posOf w7 _; rw [(I10.upd u20 id).pos, I7.pos]; omega
  . refine next_end I7 hlt _ (.inl ⟨rfl, ptrC_some ⟨_, (B.upd u7 id).cell rfl, ptrC_some ?_⟩⟩); rw [add_mk]; refine stC_mk (B.upd u7 id) (by simp) fun w14 B14 u14 _ => hk w14 ?_ (u7.no.trans u14 fun _ _ e => e); have ew : IntKind.wrap .i64 ((a : Int) + ((bs ln).size : Int)) = ((a + ln.length : Nat) : Int) := by rw [hln, Go.SX.wrap_small (by omega) (by omega)]; omega
    rw [ew] at B14; exact B14
theorem fnB_digit : FnB (.func (.func 135) #[] #[]) digit := fun x w K h => by
  refine of_eq (p := callC Tryz.prog 135 #[.int .u8 (x.toNat : Int)] w K) ?_ (by kernel_rfl); exact callC_of (digit_spec x w) fun v w1 ⟨e, ew⟩ => by subst e; subst ew; exact h
theorem bytes_c {w : World} {s : ByteArray} {K : KV} (hk : ∀ w' (c : Nat), Upd No w w' -> (∀ i, (h : i < s.size) -> w'.cell? ⟨w.heap.size, i, none⟩ = some (.int .u8 ((s[i]'h).toNat : Int))) -> K (.slice (some ⟨w.heap.size, 0, none⟩) s.size c) w') :
    runC Tryz.prog (convert 9 128 (.string s)) w K := by
  refine ⟨_, _, run_bytes_of_string w 9 128 5 s (by kernel_rfl) (by kernel_rfl) (by kernel_rfl), hk _ _ ⟨rfl, rfl, rfl, by simp, fun b hb _ => ?_⟩ fun i hi => ?_⟩
  . exact (upd_alloc w _).block b hb id
  . have e : (World.alloc w.drew (.cells (bytesRow s (grownCap w s.size 0 5)) 5 ((bytesRow s (grownCap w s.size 0 5)).size, (bytesRow s (grownCap w s.size 0 5)).size + 1))).heap[w.heap.size]? = some (.cells (bytesRow s (grownCap w s.size 0 5)) 5 ((bytesRow s (grownCap w s.size 0 5)).size, (bytesRow s (grownCap w s.size 0 5)).size + 1)) := by
      show (w.heap.push _)[w.heap.size]? = _; simp
    rw [Lib.cell_of_heap e, bytesRow_at s _ i hi]; rfl
theorem number_t {w : World} {k m a : Nat} {s : ByteArray} {sg ou : Value} (B : LxAt w k s a m sg ou) (ha : a <= s.size) (hs : s.size <= 100000) {K R : KV}
    (hk : ∀ w' (n : Int), LxAt w' k s (a + (((txt s).drop a).takeWhile digit).length) m sg ou -> Upd (· = k) w w' -> K (.int .i64 n) w') (hR : ∀ v w', Flt v -> Upd (· = k) w w' -> R v w') :
    callX Tryz.prog 137 #[.pointer (some ⟨k, 0, none⟩)] w K R := by
  refine number_text _ _ _ _ (ptrC_some ⟨_, B.cell rfl, row_spec B ha (by omega) fnB_digit fun w3 B3 u3 => ⟨_, rfl, bytes_c fun w6 c u6 hc => ⟨_, _, _, rfl, ?_⟩⟩⟩); have hl := bs_size (((txt s).drop a).takeWhile digit)
  have hle : (((txt s).drop a).takeWhile digit).length <= 100000 := by
    have h1 := takeWhile_le digit ((txt s).drop a); have h2 := size_txt s; rw [List.length_drop] at h1; omega
  generalize ((txt s).drop a).takeWhile digit = ds at *; refine ⟨fun _ n w' => ∃ i : Nat, n = i /\ i <= ds.length /\ Upd No w6 w', fun _ n _ => ds.length - n.toNat, ⟨0, rfl, by omega, Upd.refl _ _⟩, ?_⟩; rintro n12 n13 w14 ⟨i, rfl, hi, u14⟩ _; have U14 : Upd (· = k) w w14 := u3.trans (up u6 u14).no fun _ _ e => e; refine brC_intro (fun hlt => ?_) fun hge => hk w14 n12 (B3.upd (up u6 u14) id) U14; have hlt : i < ds.length := by have := of_decide_eq_true hlt; omega
  refine ⟨fun _ w' => Upd No w6 w', fun n17 w18 u18 _ => ?_, by omega, by omega, ptrC_some ⟨(((bs ds)[i]'(by omega)).toNat : Int), ?_, fun w' => Upd No w6 w', fun w23 u23 _ => u23, ?_⟩⟩
  . rw [wrap_succ (by omega)]; exact ⟨⟨i + 1, rfl, hlt, u18⟩, by dsimp only; omega⟩
  . rw [add_mk, Int.toNat_natCast, Nat.mul_one, Nat.zero_add]; exact cell_keep (hc i (by omega)) u14
  . exact brC_intro (fun _ => wrong_t fun v w' f u => hR v w' f (U14.trans u.no fun _ _ e => e)) fun _ => u14
theorem bstr_t {n0 bb : Nat} {w : World} {l : List UInt8} (h : Bld n0 bb w l) (hn : n0 <= w.heap.size) {K : KV} (hk : ∀ w', Below n0 w w' -> K (.string (bs l)) w') :
    callC Tryz.prog 68 #[.pointer (some ⟨bb, 0, none⟩)] w K :=
  callC_of_calls (Any.Builder_String_any_k Tryz.strL Tryz.Builder_Extra_str n0 bb l w h hn) fun _ w' ⟨he, _, h1, _⟩ => ⟨_, he, hk w' h1⟩
theorem below_upd {n0 : Nat} {w w' : World} (h : Below n0 w w') : Upd (From n0) w w' := ⟨h.os, h.tape, h.output, h.size, fun b _ hb => h.block b (Nat.lt_of_not_le hb)⟩
theorem quoted_t {w : World} {k m a : Nat} {s : ByteArray} {sg ou : Value} (g : Gu w) (B : LxAt w k s a m sg ou) (ha : a < s.size) (hs : s.size <= 100000) {K R : KV}
    (hk : ∀ w' (a' : Nat) x, a < a' -> a' <= s.size -> LxAt w' k s a' m sg ou -> Upd (· = k) w w' -> K (.string x) w') (hR : ∀ v w', Flt v -> Upd (· = k) w w' -> R v w') :
    callX Tryz.prog 138 #[.pointer (some ⟨k, 0, none⟩)] w K R := by
  have hsz := size_txt s; have klt := B.lt; refine quoted_text _ _ _ _ (newC_mk fun w1 B1 u1 s1 => ?_); have Bb := bld_new B1; refine callC_of (line_spec (g.g.keep u1) (B.upd u1 id) (by omega) (by omega)) fun v w3 ⟨e, u3⟩ => ⟨_, e, ?_⟩; have hle := lineF_le ((txt s).drop a); rw [List.length_drop] at hle; generalize lineF ((txt s).drop a) = ln at hle; have hln := bs_size ln; refine range_str fun w6 I6 u6 d6 => ?_; have z3 := u3.size; have z6 := u6.size; have N : ∀ {w'}, Upd (From w.heap.size) w1 w' -> Upd No w w' := fun u => u1.trans u fun x hx (h : w.heap.size <= x) => by omega
  refine ⟨fun _ w' => ∃ p l, p <= (bs ln).size /\ List.length l <= 4 * p /\ StrIt w' w3.heap.size (bs ln) p /\ Bld w.heap.size w.heap.size w' l /\ Upd (From w.heap.size) w1 w', fun _ w' => (bs ln).size - posOf w' w3.heap.size,
    ⟨0, [], by omega, by simp, I6, bld_upd Bb (up u3 u6), (up u3 u6).no⟩, ?_⟩
  rintro b w10 ⟨p, l, hp, hl4, I10, Bl10, u10⟩ _; have z10 := u10.size; have W : ∀ {x : Int} {w'}, Upd (From w.heap.size) w1 w' -> ∀ {K'}, callX Tryz.prog 136 #[.int .i64 x] w' K' R := fun u _ => wrong_t fun v w'' f u' => hR v w'' f (up (N u) u').no
  by_cases hpl : p < (bs ln).size
  . refine next_any I10 hpl _ fun w13 p' c h1 h2 I13 u13 => .inr ⟨_, _, rfl, ?_⟩; have u13' : Upd (From w.heap.size) w1 w13 := u10.trans u13 fun x _ (e : x = _) => by show w.heap.size <= x; omega
    have B13 : LxAt w13 k s a m sg ou := B.upd (N u13') id; have Bl13 : Bld w.heap.size w.heap.size w13 l := bld_other Bl10 u13 (by omega) fun c fz e => by unfold StrIt at I10; rw [I10] at e; cases e
    have mu : ∀ w', StrIt w' w3.heap.size (bs ln) p' -> (bs ln).size - posOf w' w3.heap.size < (bs ln).size - posOf w10 w3.heap.size := fun w' h => by rw [h.pos, I10.pos]; omega
    have done : ∀ {w' l'}, Upd (From w.heap.size) w13 w' -> StrIt w' w3.heap.size (bs ln) p' -> Bld w.heap.size w.heap.size w' l' -> l'.length <= 4 * p' -> (∃ p l, p <= (bs ln).size /\ List.length l <= 4 * p /\ StrIt w' w3.heap.size (bs ln) p /\ Bld w.heap.size w.heap.size w' l /\ Upd (From w.heap.size) w1 w') /\ (bs ln).size - posOf w' w3.heap.size < (bs ln).size - posOf w10 w3.heap.size :=
      fun u I b h => ⟨⟨p', _, h2, h, I, b, u13'.trans u fun _ _ e => e⟩, mu _ I⟩
    have ew : IntKind.wrap .i64 ((a : Int) + (p : Int)) = ((a + p : Nat) : Int) := by rw [Go.SX.wrap_small (by omega) (by omega)]; omega
    refine ptrC_some ⟨_, B13.cell rfl, brC_intro (fun _ => done (Upd.refl _ _) I13 Bl13 (by omega)) fun _ => brC_intro (fun _ => ?_) fun _ => ?_⟩
    . -- behind a backslash
      refine irune_c fun n w30 hn3 u30 => ⟨_, rfl, fun w' => 0 <= n /\ Upd No w13 w', ?_, brC_intro (fun _ => W (u13'.trans u30.no fun _ _ e => e)) fun h => ⟨by have := of_decide_eq_false h; omega, u30⟩⟩; rintro w33 ⟨h0, u33⟩ _; refine newC_mk fun w36 B36 u36 s36 => ⟨h0, by omega, ?_⟩
      have hs' : ∃ x : ByteArray, x.size <= 1 /\ (#[Value.string (ByteArray.mk #[34]), .string (ByteArray.mk #[92]), .string (ByteArray.mk #[10])])[n.toNat]? = some (.string x) := by
        have : n = 0 \/ n = 1 \/ n = 2 := by omega
        rcases this with rfl | rfl | rfl
        . exact ⟨_, by decide, rfl⟩
        . exact ⟨_, by decide, rfl⟩
        . exact ⟨_, by decide, rfl⟩
      obtain ⟨x, hx1, hx⟩ := hs'; refine ⟨x, ?_, ?_⟩
      . rw [add_mk, Nat.mul_one, Nat.zero_add]; exact B36.cell hx
      . have U := up u33 u36; refine callC_of (bws_spec (bld_upd Bl13 U) x (by omega) (by have := (N (u13'.trans U.no fun _ _ e => e)).size; omega)) fun v w39 ⟨e, Bl39, st⟩ => ⟨_, _, e, ?_⟩; have I39 : StrIt w39 w3.heap.size (bs ln) p' := st.others w3.heap.size _ (I13.upd U id) (fun e => by have := Option.some.inj e; omega) fun c fz e => by cases e
        exact done (U.no.trans st.upF fun _ _ x => x) I39 Bl39 (by rw [List.length_append, <- size_txt]; omega)
    . refine brC_intro (fun _ => done (Upd.refl _ _) I13 Bl13 (by omega)) fun _ => brC_intro (fun _ => ptrC_some ?_) fun _ => ?_
      . rw [add_mk]; refine stC_mk B13 (by simp) fun w45 B45 u45 s45 => ?_; have Bl45 : Bld w.heap.size w.heap.size w45 l := bld_other Bl13 u45 (by omega) fun c fz e => by have := B13; unfold LxAt Blk at this; rw [this] at e; cases e
        have z45 := u45.size; have z13 := (N u13').size; refine bstr_t Bl45 (by omega) fun w47 bl => ⟨_, rfl, hk w47 (a + p + 1) _ (by omega) (by omega) ?_ ?_⟩
        . have : IntKind.wrap .i64 (IntKind.wrap .i64 ((a : Int) + (p : Int)) + 1) = ((a + p + 1 : Nat) : Int) := by rw [ew, wrap_succ (by omega)]
          rw [this] at B45; exact B45.upd (below_upd bl) (fun (h : w.heap.size <= k) => by omega)
        . exact ((N u13').no.trans u45 fun _ _ e => e).trans (below_upd bl) fun x hx (h : w.heap.size <= x) => by omega
      . rw [ew]; refine char_t (g.keep (N u13')) B13 (by omega) (fun w50 u50 => ⟨rfl, ?_⟩) fun v w' f u => hR v w' f (up (N u13') u).no; refine bwr_t (bld_upd Bl13 u50) _ (by omega) (by have := (up (N u13') u50).size; omega) fun mm l' w52 h4 Bl52 st => ⟨_, _, rfl, ?_⟩; have I52 : StrIt w52 w3.heap.size (bs ln) p' := st.others w3.heap.size _ (I13.upd u50 id) (fun e => by have := Option.some.inj e; omega) fun c fz e => by cases e
        exact done (u50.no.trans st.upF fun _ _ x => x) I52 Bl52 (by rw [List.length_append]; omega)
  . refine next_end I10 hpl _ (.inl ⟨rfl, fun w' => Upd (From w.heap.size) w1 w', fun w15 u15 _ => ptrC_some ⟨_, (B.upd (N u15) id).cell rfl, W u15⟩, brC_intro (fun _ => ptrC_some ⟨_, (B.upd (N u10) id).cell rfl, W u10⟩) fun _ => u10⟩)
def NameB (x : ByteArray) : Prop := ∃ c r, letter c = true /\ r.all (fun c => letter c || digit c) = true /\ r.length < 24 /\ x = bs (c :: r) /\ memB x kwL = false
structure TokT (a : Nat) (t : Tok) : Prop where
  at_ : t.at_ = a
  kind : t.kind ≠ 0
  name : t.kind = 1 -> NameB t.text
theorem token_t {w0 w : World} {s : ByteArray} {a m sb : Nat} {toks : List Tok} (g0 : Gu w0) (L0 : Lx0 w0 m sb) (L : Lx w0 w s a m sb toks) (hs : s.size <= 100000) (ht : toks.length <= 100000)
    (hal : a < s.size) {K R : KV} (hk : ∀ w' (a' : Nat) t, a < a' -> a' <= s.size -> TokT a t -> Lx w0 w' s a' m sb (toks ++ [t]) -> K (.tuple #[]) w') (hR : ∀ v w', Flt v -> Upd No w0 w' -> R v w') :
    callX Tryz.prog 83 #[.pointer (some ⟨w0.heap.size, 0, none⟩)] w K R := by
  obtain ⟨ou, B, row, own⟩ := L.ex; have hsz := size_txt s; have klt := B.lt
  obtain ⟨c, r, hcr⟩ : ∃ c r, (txt s).drop a = c :: r := by
    cases h : (txt s).drop a with
    | nil => have := congrArg List.length h; simp at this; omega
    | cons c r => exact ⟨c, r, rfl⟩
  have hlen : r.length + 1 = s.size - a := by have := congrArg List.length hcr; simp at this; omega
  have hca : (txt s)[a]'(by omega) = c := by
    have := List.drop_eq_getElem_cons (l := txt s) (i := a) (by omega); rw [hcr] at this; exact (List.cons.inj this).1.symm
  refine token_text _ _ _ _ (newC_mk fun w1 B1 u1 s1 => ⟨_, B1.cell rfl, ptrC_some ⟨_, (B.upd u1 id).cell rfl, newC_mk fun w6 B6 u6 s6 => ?_⟩⟩); have T6 : Tk w0 w6 w.heap.size w1.heap.size s a m sb toks ⟨0, .empty, 0, 0⟩ ou := ⟨up L.up (up u1 u6), B1.upd u6 id, B6, B.upd (up u1 u6) id, row.upd (up u1 u6) fun _ _ x => x, fun b hb => ⟨own b hb, by have := row.lt hb; omega, by have := row.lt hb; omega⟩, by omega, by omega⟩; refine T6.st0 0 fun w7 T7 => T7.st1 _ fun w8 T8 => ?_; refine stC_mk T8.b5 (by simp) fun w9 B9 u9 _ => ?_; have T9 : Tk w0 w9 w.heap.size w1.heap.size s a m sb toks ⟨0, .empty, 0, 0⟩ ou := T8.at5 (t' := ⟨0, .empty, 0, 0⟩) u9 B9; refine stC_mk T9.b5 (by simp) fun w10 B10 u10 _ => ?_; have T10 : Tk w0 w10 w.heap.size w1.heap.size s a m sb toks ⟨0, .empty, 0, a⟩ ou := T9.at5 (t' := ⟨0, .empty, 0, a⟩) u10 B10; clear T6 T7 T8 T9 B9 u9 B10 u10 B1 B6 u1 u6 B row own; generalize w.heap.size = k0 at T10; generalize w1.heap.size = k5 at T10; refine ⟨fun w' => ∃ a' t, a < a' /\ a' <= s.size /\ TokT a t /\ Tk w0 w' k0 k5 s a' m sb toks t ou, fun w12 ⟨a', t, ha1, ha2, hT, T12⟩ _ => ?_, ?_⟩
  . -- the token is taken up
    refine drawC_mk fun w14 u14 _ => ?_; have T14 := T12.keep u14; obtain ⟨p, n, cp, rfl, hn, hnc, hcm⟩ := T14.row.shape; have hnl : n = toks.length := by rw [tokCells_len] at hn; omega
    have f0 : ∀ {w'}, (Tk w0 w' k0 k5 s a' m sb toks t (.slice p n cp) \/ (Blk w' k0 #[.pointer (some ⟨w0.heap.size, 0, none⟩)] 150 /\ Blk w' k5 #[.int .i64 t.kind, .string t.text, .int .i64 t.n, .int .i64 (t.at_ : Int)] 114 /\ LxAt w' w0.heap.size s a' m (.slice (some ⟨sb, 0, none⟩) 17 17) (.slice p n cp))) ->
        Blk w' k0 #[.pointer (some ⟨w0.heap.size, 0, none⟩)] 150 /\ Blk w' k5 #[.int .i64 t.kind, .string t.text, .int .i64 t.n, .int .i64 (t.at_ : Int)] 114 /\ LxAt w' w0.heap.size s a' m (.slice (some ⟨sb, 0, none⟩) 17 17) (.slice p n cp) := fun h => h.elim (fun h => ⟨h.b0, h.b5, h.lx⟩) id
    refine ⟨fun w' => Tk w0 w' k0 k5 s a' m sb toks t (.slice p n cp) \/ (Blk w' k0 #[.pointer (some ⟨w0.heap.size, 0, none⟩)] 150 /\ Blk w' k5 #[.int .i64 t.kind, .string t.text, .int .i64 t.n, .int .i64 (t.at_ : Int)] 114 /\ LxAt w' w0.heap.size s a' m (.slice (some ⟨sb, 0, none⟩) 17 17) (.slice p n cp)), ?_⟩
    refine ⟨_, T14.b0.cell rfl, fun w17 h => lds_ptr150 ((f0 h).1.cell rfl), _, T14.b0.cell rfl, fun w19 h => lds_ptr150 ((f0 h).1.cell rfl), ptrC_some ⟨p, n, cp, by rw [add_mk]; exact T14.lx.cell rfl, fun w24 h => lds_toks (by rw [add_mk]; exact (f0 h).2.2.cell rfl),
      _, T14.b5.cell rfl, _, T14.b5.cell rfl, _, T14.b5.cell rfl, _, T14.b5.cell rfl, fun w29 h => lds_tok (f0 h).2.1, newC_mk fun w31 B31 u31 s31 => ⟨.inl (T14.keep u31), ?_, trivial⟩, trivial⟩⟩
    have T31 := T14.keep u31; obtain ⟨io, hj1, hj2, hj3, hj4⟩ := info_get (P := Tryz.prog) (e := 114) (s := 4) (b := 40) (z := .agg #[.int .i64 0, .string ByteArray.empty, .int .i64 0, .int .i64 0]) (by kernel_rfl)
    refine append_row (size := 4) (bytes := 40) (by kernel_rfl) hj1 hj2 hj3 hj4 rfl T31.row (n := n) hn ⟨w14.heap.size, 0, none⟩ 1 1 (Tok.cells t) (by omega) (by omega) rfl (fun j u hj => by rw [add_mk]; exact B31.cell (by rw [Nat.zero_add]; simpa [Tok.cells] using hj)) (by simp [Tok.cells, Value.oneCell']) (by simp only [maxLen]; omega) (by omega)
      fun v33 w33 r33 u33 h33 => ?_
    obtain ⟨p2, n2, c2, rfl, _⟩ := r33.shape; have hk33 : ∀ b, InRow (.slice p n cp) b -> w0.heap.size < b /\ b ≠ k0 /\ b ≠ k5 := T14.own; have b0 := T31.b0.upd u33 (fun h => (hk33 _ h).2.1 rfl); have b5 := T31.b5.upd u33 (fun h => (hk33 _ h).2.2 rfl); have lx := T31.lx.upd u33 (fun h => by have := (hk33 _ h).1; omega); refine ⟨p2, n2, c2, rfl, .inr ⟨b0, b5, lx⟩, ptrC_some ⟨?_, trivial⟩⟩; rw [add_mk]; refine stC_mk lx (by simp) fun w38 B38 u38 s38 => hk w38 a' t ha1 ha2 hT ⟨?_, .slice p2 n2 c2, B38, ?_, fun b hb => ?_⟩
    . exact (T31.up.trans u33 fun x hx h => by have := (hk33 _ h).1; omega).trans u38 fun x hx (e : x = _) => by omega
    . rw [tokCells_snoc]
      exact r33.upd u38 fun b hb (e : b = _) => by
        rcases h33 b hb with h | h
        . have := (hk33 _ h).1; omega
        . have := T31.lx.lt; omega
    . rcases h33 b hb with h | h
      . exact (hk33 _ h).1
      . have := T31.lx.lt; omega
  refine drawC_mk fun w39 u39 _ => ?_; have T39 := T10.keep u39; refine ⟨_, T39.b0.cell rfl, ptrC_some ⟨_, T39.lx.cell rfl, _, T39.b0.cell rfl, ptrC_some ⟨_, T39.lx.cell rfl, by omega, by omega, ?_⟩⟩⟩; have hby : byteAt s (Int.toNat (a : Int)) = (c.toNat : Int) := by rw [Int.toNat_natCast, byteAt_txt hal, hca]
  rw [hby]; have W : ∀ {x : Int} {w'}, Upd No w0 w' -> ∀ {K'}, callX Tryz.prog 136 #[.int .i64 x] w' K' R := fun u _ => wrong_t fun v w'' f u' => hR v w'' f (up u u'); have WL : ∀ {v w''}, Flt v -> Upd (· = w0.heap.size) w39 w'' -> R v w'' := fun f u => hR _ _ f (T39.up.trans u fun x hx (e : x = _) => by omega); refine callC_of (letter_spec c w39) fun v w47 ⟨e, ew⟩ => ⟨_, e, ?_⟩; subst ew; refine brC_intro (fun hl => ?_) fun hl => ?_
  . -- a word
    refine ⟨_, T39.b0.cell rfl, row_spec T39.lx (by omega) (by omega) fnB_letter fun w51 B51 u51 => ⟨_, rfl, ?_⟩⟩; rw [hcr] at B51 ⊢
    have hwd : (c :: r).takeWhile (fun c => letter c || digit c) = c :: r.takeWhile (fun c => letter c || digit c) := by
      rw [List.takeWhile_cons_of_pos (by simp [hl])]
    have hwl := takeWhile_le (fun c => letter c || digit c) r; have hall : (r.takeWhile (fun c => letter c || digit c)).all (fun c => letter c || digit c) = true := List.all_takeWhile; rw [hwd] at B51 ⊢; generalize r.takeWhile (fun c => letter c || digit c) = wr at hwl hall B51; have hbz : (bs (c :: wr)).size = wr.length + 1 := bs_size _; have T51 := T39.atL u51 B51; refine T51.st0 1 fun w53 T53 => T53.st1 _ fun w54 T54 => ?_; refine ⟨fun w' => Tk w0 w' k0 k5 s (a + (c :: wr).length) m sb toks ⟨if memB (bs (c :: wr)) kwL then 2 else 1, bs (c :: wr), 0, a⟩ ou, fun w56 T56 _ => ⟨_, T56.b5.cell rfl, brC_intro (fun h24 => ⟨_, T56.b5.cell rfl, W T56.up⟩) fun h24 => ?_⟩, drawC_mk fun w62 u62 _ => ?_⟩
    . have h24 : ¬ (((bs (c :: wr)).size : Int) > 24) := of_decide_eq_false h24; refine ⟨a + (c :: wr).length, _, by simp, by simp; omega, ⟨rfl, ?_, fun h1 => ⟨c, wr, hl, hall, by omega, rfl, ?_⟩⟩, T56⟩
      . dsimp only; split <;> decide
      . cases hm : memB (bs (c :: wr)) kwL with
        | false => rfl
        | true => rw [hm] at h1; simp at h1
    have T62 := T54.keep u62; refine ⟨_, T62.b0.cell rfl, ptrC_some ⟨some m, by rw [add_mk]; exact T62.lx.cell rfl, _, T62.b5.cell rfl, ?_⟩⟩; have M62 := L0.words.upd T62.up id; generalize bs (c :: wr) = wd at T62 ⊢
    cases hm : memB wd kwL with
    | true =>
      have hr := run_lookup_in undWords undS (k := .string wd) (by simp [IsKey]) M62 (List.mem_map_of_mem (memB_iff.1 hm)) false; refine ⟨.bool true, ⟨true, rfl, brC_tt rfl (T62.st0 2 fun w69 T69 => ?_)⟩, fun w' e => by cases e; exact hr⟩; exact T69
    | false =>
      have hno : Value.string wd ∉ kwL.map Value.string := fun h => by
        obtain ⟨x, hx, e⟩ := List.mem_map.1 h; cases e; rw [memB_iff.2 hx] at hm; cases hm
      have hr := run_lookup_out undWords undS (k := .string wd) (by simp [IsKey]) M62 hno (run_zero (P := Tryz.prog) (e := 4) (s := 1) (b := 1) (z := .bool false) (by kernel_rfl) w62) false; exact ⟨.bool false, ⟨false, rfl, brC_ff rfl T62⟩, fun w' e => by cases e; exact hr⟩
  refine callC_of (digit_spec c w47) fun v w71 ⟨e, ew⟩ => ⟨_, e, ?_⟩; subst ew; refine brC_intro (fun hd => ?_) fun hd => ?_
  . -- a number
    refine ⟨_, T39.b0.cell rfl, number_t T39.lx (by omega) hs (fun w75 n B75 u75 => ⟨_, rfl, ?_⟩) fun v w' f u => WL f u⟩; rw [hcr] at B75; have h1 := takeWhile_le digit (c :: r); have h2 : 0 < ((c :: r).takeWhile digit).length := by rw [List.takeWhile_cons_of_pos hd]; simp
    generalize ((c :: r).takeWhile digit).length = dn at h1 h2 B75; refine (T39.atL u75 B75).st0 3 fun w77 T77 => ?_; refine stC_mk T77.b5 (by simp) fun w78 B78 u78 _ => ⟨a + dn, ⟨3, .empty, n, a⟩, by omega, by simp at h1; omega, ⟨rfl, (show (3 : Int) ≠ 0 by decide), fun h => absurd h (show ¬ (3 : Int) = 1 by decide)⟩, T77.at5 u78 B78⟩
  refine brC_intro (fun h34 => ?_) fun h34 => ?_
  . -- a text
    refine ⟨_, T39.b0.cell rfl, quoted_t (g0.keep T39.up) T39.lx hal hs (fun w81 a' x h1 h2 B81 u81 => ⟨_, rfl, ?_⟩) fun v w' f u => WL f u⟩; exact (T39.atL u81 B81).st0 4 fun w83 T83 => T83.st1 _ fun w84 T84 => ⟨a', _, h1, h2, ⟨rfl, (show (4 : Int) ≠ 0 by decide), fun h => absurd h (show ¬ (4 : Int) = 1 by decide)⟩, T84⟩
  . have Sg := L0.signs.upd T39.up id; refine ⟨_, T39.b0.cell rfl, ptrC_some ⟨_, _, _, by rw [add_mk]; exact T39.lx.cell rfl, ?_⟩⟩; refine first_spec (l := signsL) (f := fun x => (txt x).isPrefixOf (c :: r)) (strs_row (rowL' Sg 17 (by decide) (by decide))) (by decide) (by decide) (fun w' x K u hK => ?_) (fun w91 i u91 hi hfi hno => ?_) fun w91 u91 hno => ?_
    . have Tw := T39.keep u; refine of_eq (p := callC Tryz.prog 139 #[.string x, .pointer (some ⟨k0, 0, none⟩)] w' K) ?_ (by kernel_rfl); refine token2_text _ _ _ _ _ (drawC_mk fun w0' u0' _ => ?_); have T0 := Tw.keep u0'; refine ⟨_, T0.b0.cell rfl, ptrC_some ⟨_, T0.lx.cell rfl, _, T0.b0.cell rfl, ptrC_some ⟨_, T0.lx.cell rfl, by omega, by omega, by omega, ?_⟩⟩⟩; refine callC_of_calls (Any.strings_HasPrefix Tryz.hpL _ x w0') fun e w2 ⟨he, hw⟩ => ⟨_, he, _, rfl, ?_⟩; subst hw
      have ee : (ByteArray.extract s (Int.toNat (a : Int)) (Int.toNat (s.size : Int))).data.toList = c :: r := by
        have := ext_txt s (Int.toNat (a : Int)) (Int.toNat (s.size : Int)); unfold txt at this; rw [this, Int.toNat_natCast, Int.toNat_natCast, List.take_of_length_le (by rw [List.length_drop]; unfold txt at hsz; omega)]; exact hcr
      rw [ee]; exact hK w2 u0'
    . have T91 := T39.keep u91; obtain ⟨g, hgi⟩ : ∃ g, signsL[i] = g := ⟨_, rfl⟩
      have hg2 : 1 <= g.size /\ g.size <= 2 := by
        have : ∀ x ∈ signsL, 1 <= x.size /\ x.size <= 2 := by decide +kernel
        exact this g (hgi ▸ List.getElem_mem hi)
      have hpre : g.size <= r.length + 1 := by
        have h1 : (txt g) <+: (c :: r) := List.isPrefixOf_iff_prefix.1 (hgi ▸ hfi); have h2 := h1.length_le; rw [<- size_txt] at h2; simpa using h2
      refine ⟨_, rfl, fun w' => Tk w0 w' k0 k5 s a m sb toks ⟨0, .empty, 0, a⟩ ou, fun w94 T94 _ => ?_, brC_ff (decide_eq_false (by omega)) T91⟩; refine ⟨fun w' => Tk w0 w' k0 k5 s a m sb toks ⟨5, g, 0, a⟩ ou, fun w97 T97 _ => ?_, ?_⟩
      . refine drawC_mk fun w99 u99 _ => ?_; have T99 := T97.keep u99; refine ⟨_, T99.b0.cell rfl, ptrC_some ⟨_, by rw [add_mk]; exact T99.lx.cell rfl, _, T99.b5.cell rfl, ptrC_some ?_⟩⟩; rw [add_mk]; have ew : IntKind.wrap .i64 ((a : Int) + (g.size : Int)) = ((a + g.size : Nat) : Int) := by rw [Go.SX.wrap_small (by omega) (by omega)]; omega
        rw [ew]; exact stC_mk T99.lx (by simp) fun w105 B105 u105 _ => ⟨a + g.size, _, by omega, by omega, ⟨rfl, (show (5 : Int) ≠ 0 by decide), fun h => absurd h (show ¬ (5 : Int) = 1 by decide)⟩, T99.atL u105 B105⟩
      . refine drawC_mk fun w106 u106 _ => ?_; have T106 := T94.keep u106; have Sg2 := L0.signs.upd T106.up id
        have hc2 : ∀ {w'}, Blk w' sb (signsL.map Value.string).toArray ids.str -> w'.cell? (Addr.add ⟨sb, 0, none⟩ (Int.toNat (i : Int) * 1)) = some (.string g) := fun h => by
          rw [add_mk, Int.toNat_natCast, Nat.mul_one, Nat.zero_add]; exact h.cell (by rw [<- hgi]; simp [hi])
        have hi17 : i < 17 := hi
        refine ⟨fun w' => ∃ t, Tk w0 w' k0 k5 s a m sb toks t ou, _, T106.b0.cell rfl, fun w109 ⟨_, h⟩ => lds_ptr150 (h.b0.cell rfl), ptrC_some ⟨_, _, _, by rw [add_mk]; exact T106.lx.cell rfl, fun w114 ⟨_, h⟩ => lds_strs (by rw [add_mk]; exact h.lx.cell rfl), by omega, by omega,
          ptrC_some ⟨g, hc2 Sg2, fun w117 ⟨_, h⟩ => lds_str (hc2 (L0.signs.upd h.up id)), T106.st0 5 fun w118 T118 => ⟨⟨_, T118⟩, T118.st1 g fun w119 T119 => T119, trivial⟩, trivial⟩⟩⟩
    . exact ⟨_, rfl, fun _ => False, fun _ h => h.elim, brC_intro (fun _ => ⟨_, (T39.keep u91).b0.cell rfl, ptrC_some ⟨_, (T39.keep u91).lx.cell rfl, W (T39.keep u91).up⟩⟩) fun h => by simp at h⟩
theorem lexD_rec {p q : Nat} {w : World} {s0 : Value} {n0 : Value} {q0 : Option Addr} (B0 : Blk w p #[s0] 103) (B1 : Blk w q #[n0] 71) (hpq : p ≠ q) :
    CallsD Tryz.prog 81 #[.pointer (some ⟨p, 0, none⟩), .pointer (some ⟨q, 0, none⟩)] (.panicking [{ v := .iface 106 (.pointer q0), recovered := false }]) w
      fun e u' w' => e = .returned (.tuple #[]) /\ u' = .panicking [{ v := .iface 106 (.pointer q0), recovered := true }] /\ Blk w' p #[.slice none 0 0] 103 /\ Blk w' q #[.iface 106 (.pointer q0)] 71 /\ Upd (fun b => b = p \/ b = q) w w' := by
  refine callsD_of_wpS Tryz.func81 rfl fun c₀ cs hu => ?_; apply wpS_seq; apply wpS_region; simp [wpOpsS, go_sem, recoverD, hu, Tryz.ntmps81, Exit.thenS]; apply wpS_seq; apply wpS_region; simp [wpOpsS, go_sem, Exit.thenS]; refine wpS_cond (t := true) (by simp [Act.eval, Array.replicate]) ?_; simp only [if_true]; have ta : ∀ w, runC Tryz.prog (Instr.typeAssert (.iface 106 (.pointer q0)) 20 106 false) w fun v w' => v = .pointer q0 /\ w' = w := fun w => ⟨_, _, (by kernel_rfl : (Instr.typeAssert (.iface 106 (.pointer q0)) 20 106 false).run Tryz.prog w = .ok (.pointer q0) w), rfl, rfl⟩; have hv := vcFunX_out (g := thenC) rfl (lexR_text p q q0 w (fun _ w' => Blk w' p #[.slice none 0 0] 103 /\ Blk w' q #[.iface 106 (.pointer q0)] 71 /\ Upd (fun b => b = p \/ b = q) w w') (fun _ _ => False) ?_)
  rotate_left
  . refine drawC_mk fun w0 u0 _ => ⟨fun _ => True, ?_, ?_, trivial⟩
    . obtain ⟨v, w', hr, rfl, rfl⟩ := ta w0; refine ⟨_, _, hr, q0, rfl, ?_, trivial⟩; refine stC_mk (B0.upd u0 id) (by simp) fun w5 B5 u5 _ => ⟨stC_mk ((B1.upd u0 id).upd u5 (Ne.symm hpq)) (by simp) fun w6 B6 u6 _ => ⟨B5.upd u6 hpq, B6, (u0.no.trans u5 fun _ _ e => .inl e).trans u6 fun _ _ e => .inr e⟩, trivial⟩
    . refine stC_mk (B0.upd u0 id) (by simp) fun w5 B5 u5 _ => ?_; obtain ⟨v, w', hr, rfl, rfl⟩ := ta w5; exact ⟨⟨_, _, hr, q0, rfl, stC_mk ((B1.upd u0 id).upd u5 (Ne.symm hpq)) (by simp) fun w6 B6 u6 _ => ⟨B5.upd u6 hpq, B6, (u0.no.trans u5 fun _ _ e => .inl e).trans u6 fun _ _ e => .inr e⟩, trivial⟩, trivial⟩
  refine wpS_of_wp (wp_mono (vc_sound _ _ _ _ _ (fit0 Tryz.f81 _) hv) fun e a w' h => ?_); have hres : (results Tryz.f81 a.tmps).run Tryz.prog w' = .ok (.tuple #[]) w' := by simp [results, Tryz.results81]
  rcases h with ⟨x, env', rfl, hf, _, hq⟩ | ⟨v, rfl, hk, hr⟩
  . cases x with
    | normal => exact ⟨hf.defers, _, rfl, _, hres, rfl, rfl, hq⟩
    | ret => exact ⟨hf.defers, _, rfl, _, hres, rfl, rfl, hq⟩
    | exit id => exact hq.elim
  . exact hr.elim
structure LxJ (s : ByteArray) (J : Nat -> List Tok -> Prop) : Prop where
  z : J 0 []
  sp : ∀ a ts c, (txt s)[a]? = some c -> (c = 32 \/ c = 9 \/ c = 10 \/ c = 13) -> J a ts -> J (a + 1) ts
  rm : ∀ a a' ts, (txt s)[a]? = some 35 -> a < a' -> J a ts -> J a' ts
  tk : ∀ a a' ts t c, (txt s)[a]? = some c -> (c ≠ 32 /\ c ≠ 9 /\ c ≠ 10 /\ c ≠ 13 /\ c ≠ 35) -> TokT a t -> a < a' -> a' <= s.size -> (∀ k x n, tokF ((txt s).drop a) = some (k, x, n) -> t = ⟨k, x, 0, a⟩ /\ a' = a + n) -> J a ts -> J a' (ts ++ [t])
theorem tokF_T {l : List UInt8} {k : Int} {x : ByteArray} {n a : Nat} (h : tokF l = some (k, x, n)) : TokT a ⟨k, x, 0, a⟩ := by
  unfold tokF at h; split at h
  . cases h
  rename_i c r; split at h
  . rename_i hl; split at h
    . rename_i h24; simp only [Option.some.injEq, Prod.mk.injEq] at h; obtain ⟨rfl, rfl, rfl⟩ := h; refine ⟨rfl, by dsimp only; split <;> decide, fun h1 => ?_⟩
      have hwd : (c :: r).takeWhile (fun c => letter c || digit c) = c :: r.takeWhile (fun c => letter c || digit c) := by
        rw [List.takeWhile_cons_of_pos (by simp [hl])]
      refine ⟨c, r.takeWhile (fun c => letter c || digit c), hl, List.all_takeWhile, ?_, by dsimp only; rw [hwd], ?_⟩
      . rw [hwd] at h24; simp at h24; omega
      . cases hm : memB (bs ((c :: r).takeWhile (fun c => letter c || digit c))) kwL with
        | false => rfl
        | true => dsimp only at h1; rw [hm] at h1; simp at h1
    . cases h
  split at h
  . cases h
  split at h
  . split at h
    . cases h
    split at h
    . simp only [Option.some.injEq, Prod.mk.injEq] at h; obtain ⟨rfl, rfl, rfl⟩ := h; exact ⟨rfl, (show (4 : Int) ≠ 0 by decide), fun h => absurd h (show ¬ (4 : Int) = 1 by decide)⟩
    . cases h
  . split at h
    . simp only [Option.some.injEq, Prod.mk.injEq] at h; obtain ⟨rfl, rfl, rfl⟩ := h; exact ⟨rfl, (show (5 : Int) ≠ 0 by decide), fun h => absurd h (show ¬ (5 : Int) = 1 by decide)⟩
    . cases h
theorem token_a {w0 w : World} {s : ByteArray} {a m sb : Nat} {toks : List Tok} (g0 : Gu w0) (L0 : Lx0 w0 m sb) (L : Lx w0 w s a m sb toks) (hs : s.size <= 100000) (ht : toks.length <= 100000)
    (hal : a < s.size) {K R : KV} (hk : ∀ w' (a' : Nat) t, a < a' -> a' <= s.size -> TokT a t -> (∀ k x n, tokF ((txt s).drop a) = some (k, x, n) -> t = ⟨k, x, 0, a⟩ /\ a' = a + n) -> Lx w0 w' s a' m sb (toks ++ [t]) -> K (.tuple #[]) w') (hR : ∀ v w', Flt v -> Upd No w0 w' -> R v w') :
    callX Tryz.prog 83 #[.pointer (some ⟨w0.heap.size, 0, none⟩)] w K R := by
  cases hF : tokF ((txt s).drop a) with
  | none => exact token_t g0 L0 L hs ht hal (fun w' a' t h1 h2 h3 h4 => hk w' a' t h1 h2 h3 (fun k x n e => by rw [hF] at e; cases e) h4) hR
  | some r =>
    obtain ⟨k, x, n⟩ := r; obtain ⟨h1, h2⟩ := tokF_len hF; rw [List.length_drop, <- size_txt] at h2; exact token_spec L0 L hs ht hF fun w' h => hk w' (a + n) _ (by omega) (by omega) (tokF_T hF) (fun k' x' n' e => by rw [hF] at e; cases e; exact ⟨rfl, rfl⟩) h
theorem Lex_t {w : World} (g : Gu w) {s : ByteArray} (hs : s.size <= 100000) {J : Nat -> List Tok -> Prop} (j : LxJ s J) {K R : KV}
    (hk : ∀ w' v toks, J s.size toks -> toks.length <= s.size -> RowAt w' 114 4 v (tokCells (toks ++ [⟨0, .empty, 0, s.size⟩])) -> (∀ b, InRow v b -> w.heap.size <= b) -> Upd No w w' -> K (.tuple #[v, .nilIface]) w')
    (hno : ∀ w' v, Flt v -> Upd No w w' -> K (.tuple #[.slice none 0 0, v]) w') :
    callX Tryz.prog 40 #[.string s] w K R := by
  have hsz := size_txt s; refine Lex_text _ _ _ _ (newC_mk fun w1 B1 u1 s1 => newC_mk fun w3 B3 u3 s3 => ?_); refine callC_of (reserved_spec (g.g.keep (up u1 u3))) fun v w5 ⟨e, M5, u5⟩ => ⟨_, e, ?_⟩; refine callC_of (signs_spec (g.g.keep (up (up u1 u3) u5))) fun v w8 ⟨e, S8, u8⟩ => ⟨_, _, _, e, newC_mk fun w13 B13 u13 s13 => ?_⟩; have U8 : Upd No w w8 := up (up u1 u3) (up u5 u8); have g8 := g.keep U8; have L0 : Lx0 w8 w3.heap.size w5.heap.size := ⟨g8.g, M5.upd u8 id, S8⟩; have z5 := u5.size; have z8 := u8.size; have b0 : Blk w8 w.heap.size #[.slice none 0 0] 103 := (B1.upd u3 id).upd (up u5 u8) id; have b2 : Blk w8 w1.heap.size #[.nilIface] 71 := B3.upd (up u5 u8) id; have Lst : Lx w8 w13 s 0 w3.heap.size w5.heap.size [] := ⟨u13, _, B13, RowAt.nil _ _ _, fun b hb => (no_in b hb).elim⟩
  have out : ∀ v w', Flt v -> Upd No w8 w' -> defP Tryz.prog (Deferred.mk (Target.fn (Fn.func 81) #[.pointer (some (Addr.mk w.heap.size 0 none)), .pointer (some (Addr.mk w1.heap.size 0 none))]) #[]) v w' (fun w30 => ∃ p31, ∃ k32, ∃ k33, w30.cell? (Addr.mk w.heap.size 0 none) = some (.slice p31 k32 k33) /\ ∃ v34, w30.cell? (Addr.mk w1.heap.size 0 none) = some v34 /\ K (.tuple #[.slice p31 k32 k33, v34]) w30) R := by
    rintro v w' ⟨q, rfl⟩ u; refine ⟨_, _, _, _, rfl, rfl, (lexD_rec (b0.upd u id) (b2.upd u id) (by omega)).mono ?_⟩; rintro e u' w2 ⟨rfl, rfl, D0, D2, uD⟩; exact ⟨⟨_, rfl⟩, .inl ⟨rfl, _, _, _, D0.cell rfl, _, D2.cell rfl, hno w2 _ ⟨_, rfl⟩ ((up U8 u).trans uD fun x hx e => by rcases e with e | e <;> omega)⟩⟩
  refine ⟨fun w' => ∃ a ts, a <= s.size /\ Lx w8 w' s a w3.heap.size w5.heap.size ts /\ J a ts /\ ts.length <= a, fun w' => s.size - atOf w' w8.heap.size, ⟨0, [], Nat.zero_le _, Lst, j.z, Nat.zero_le _⟩, ?_⟩; rintro w16 ⟨a, ts, ha, Lx16, hJ, hta⟩ _; obtain ⟨ou, Bl, row, own⟩ := Lx16.ex
  have hat : ∀ {w' ou' a'}, LxAt w' w8.heap.size s a' w3.heap.size (.slice (some ⟨w5.heap.size, 0, none⟩) 17 17) ou' -> atOf w' w8.heap.size = a' := fun h => by
    unfold atOf; rw [h.cell (i := 1) rfl]; simp
  refine ⟨_, Bl.cell rfl, brC_intro (fun hlt => ?_) fun hge => ?_⟩
  . have hlt : a < s.size := by have := of_decide_eq_true hlt; omega
    obtain ⟨c, r, hcr⟩ : ∃ c r, (txt s).drop a = c :: r := by
      cases h : (txt s).drop a with
      | nil => have := congrArg List.length h; simp at this; omega
      | cons c r => exact ⟨c, r, rfl⟩
    have hca : (txt s)[a]'(by omega) = c := by
      have := List.drop_eq_getElem_cons (l := txt s) (i := a) (by omega); rw [hcr] at this; exact (List.cons.inj this).1.symm
    have hcg : (txt s)[a]? = some c := by rw [List.getElem?_eq_getElem (by omega), hca]
    have hby : byteAt s (Int.toNat (a : Int)) = (c.toNat : Int) := by rw [Int.toNat_natCast, byteAt_txt hlt, hca]
    refine ⟨_, Bl.cell rfl, by omega, by omega, ?_⟩; rw [hby]; refine ⟨fun b w' => w' = w16 /\ b = (c = 32 || c = 9 || c = 10 || c = 13 : Bool), ?_, ?_⟩
    . rintro b w22 ⟨rfl, rfl⟩ _; refine brC_intro (fun hsp => ?_) fun hsp => ?_
      . refine ⟨_, Bl.cell rfl, stC_mk Bl (by simp) fun w25 B25 u25 _ => ?_⟩; rw [wrap_succ (by omega)] at B25; refine ⟨⟨a + 1, ts, hlt, ⟨Lx16.up.trans u25 fun x hx (e : x = _) => by omega, ou, B25, row.upd u25 fun b hb (e : b = _) => by have := own b hb; omega, own⟩, j.sp a ts c hcg (by simpa [or_assoc] using hsp) hJ, by omega⟩, ?_⟩; show s.size - atOf w25 w8.heap.size < s.size - atOf w22 w8.heap.size; rw [hat B25, hat Bl]; omega
      . have hsp' : c ≠ 32 /\ c ≠ 9 /\ c ≠ 10 /\ c ≠ 13 := by simpa [and_assoc] using hsp
        have e35 : ((c.toNat : Int) == 35) = decide (c = 35) := byte_eq (d := 35); rw [e35]; refine brC_intro (fun h35 => ?_) fun h35 => ?_
        . have h35 := of_decide_eq_true h35; subst h35; have hll := lineF_le ((txt s).drop a); have hlp : 0 < (lineF ((txt s).drop a)).length := by rw [hcr]; exact lineF_pos (by decide)
          rw [List.length_drop] at hll; refine remark_t (g8.keep Lx16.up) Bl ha hs (fun w27 B27 u27 => ⟨rfl, ⟨a + (lineF ((txt s).drop a)).length, ts, by omega, ⟨Lx16.up.trans u27 fun x hx (e : x = _) => by omega, ou, B27, row.upd u27 fun b hb (e : b = _) => by have := own b hb; omega, own⟩, j.rm a _ ts hcg (by omega) hJ, by omega⟩, ?_⟩) fun v w' f u => out v w' f (Lx16.up.trans u fun x hx (e : x = _) => by omega); show s.size - atOf w27 w8.heap.size < s.size - atOf w22 w8.heap.size; rw [hat B27, hat Bl]; omega
        . have h35 := of_decide_eq_false h35; refine token_a g8 L0 Lx16 hs (by omega) hlt (fun w36 a' t h1 h2 hT hF L36 => ⟨rfl, ⟨a', _, h2, L36, j.tk a a' ts t c hcg ⟨hsp'.1, hsp'.2.1, hsp'.2.2.1, hsp'.2.2.2, h35⟩ hT h1 h2 hF hJ, by simp; omega⟩, ?_⟩) fun v w' f u => out v w' f u; obtain ⟨ou2, Bl2, _⟩ := L36.ex; show s.size - atOf w36 w8.heap.size < s.size - atOf w22 w8.heap.size; rw [hat Bl2, hat Bl]; omega
    . have e32 : ((c.toNat : Int) == 32) = decide (c = 32) := byte_eq (d := 32); have e9 : ((c.toNat : Int) == 9) = decide (c = 9) := byte_eq (d := 9); have e10 : ((c.toNat : Int) == 10) = decide (c = 10) := byte_eq (d := 10); have e13 : ((c.toNat : Int) == 13) = decide (c = 13) := byte_eq (d := 13); rw [e32, e9, e10, e13]; refine brC_intro (fun h => ⟨rfl, by simp [of_decide_eq_true h]⟩) fun h1 => brC_intro (fun h => ⟨rfl, by simp [of_decide_eq_true h]⟩) fun h2 => brC_intro (fun h => ⟨rfl, by simp [of_decide_eq_true h]⟩) fun h3 => ⟨rfl, ?_⟩; simp only [of_decide_eq_false h1, of_decide_eq_false h2, of_decide_eq_false h3, decide_false, Bool.false_or]
  . have hae : a = s.size := by have := of_decide_eq_false hge; omega
    subst hae; refine drawC_mk fun w44 u44 _ => ?_; have Bl44 := Bl.upd u44 id; have row44 := row.upd u44 fun _ _ x => x; have b044 := (b0.upd Lx16.up id).upd u44 id; have b244 := (b2.upd Lx16.up id).upd u44 id; obtain ⟨p, n, cp, rfl, hn, hnc, hcm⟩ := row44.shape; have hnl : n = ts.length := by rw [tokCells_len] at hn; omega
    refine ⟨fun w' => LxAt w' w8.heap.size s s.size w3.heap.size (.slice (some ⟨w5.heap.size, 0, none⟩) 17 17) (.slice p n cp), p, n, cp, Bl44.cell rfl, fun w49 h => lds_toks (h.cell rfl), _, Bl44.cell rfl, fun w51 h => lds_i (h.cell rfl), newC_mk fun w53 B53 u53 s53 => ⟨Bl44.upd u53 id, ?_, trivial⟩, trivial⟩; obtain ⟨io, hj1, hj2, hj3, hj4⟩ := info_get (P := Tryz.prog) (e := 114) (s := 4) (b := 40) (z := .agg #[.int .i64 0, .string ByteArray.empty, .int .i64 0, .int .i64 0]) (by kernel_rfl); have klt := Bl44.lt; have k0lt := b044.lt
    refine append_row (size := 4) (bytes := 40) (by kernel_rfl) hj1 hj2 hj3 hj4 rfl (row44.upd u53 fun _ _ x => x) (n := n) hn ⟨w44.heap.size, 0, none⟩ 1 1 (Tok.cells ⟨0, .empty, 0, s.size⟩) (by omega) (by omega) rfl (fun j u hj => by rw [add_mk]; exact B53.cell (by rw [Nat.zero_add, List.getElem?_toArray]; exact hj)) (by simp [Tok.cells, Value.oneCell']) (by simp only [maxLen]; omega) (by omega)
      fun v55 w55 r55 u55 h55 => ?_
    obtain ⟨p2, n2, c2, rfl, _⟩ := r55.shape; have own' : ∀ b, InRow (.slice p2 n2 c2) b -> w8.heap.size < b := fun b hb => (h55 b hb).elim (fun h => own b h) fun h => by omega
    have b055 := (b044.upd u53 id).upd u55 (fun h => by have := own _ h; have := b0.lt; omega); have b255 := (b244.upd u53 id).upd u55 (fun h => by have := own _ h; have := b2.lt; omega); refine ⟨p2, n2, c2, rfl, (Bl44.upd u53 id).upd u55 (fun h => by have := own _ h; omega), ?_, trivial⟩; refine stC_mk b055 (by simp) fun w59 B59 u59 _ => ⟨stC_mk (b255.upd u59 (by have := u1.size; omega)) (by simp) fun w60 B60 u60 _ => ?_, trivial⟩; have b060 := B59.upd u60 (show ¬ (w.heap.size = w1.heap.size) by omega); refine ⟨_, _, _, _, rfl, rfl, (lexD_idle _ _ w60).mono ?_⟩; rintro e u w61 ⟨rfl, rfl, rfl⟩; refine ⟨⟨_, rfl⟩, rfl, _, _, _, b060.cell rfl, _, B60.cell rfl, hk _ (.slice p2 n2 c2) ts hJ hta ?_ (fun b hb => by have := own' b hb; have := b0.lt; omega) ?_⟩
    . rw [tokCells_snoc]; refine (r55.upd u59 fun b hb (e : b = _) => ?_).upd u60 fun b hb (e : b = _) => ?_
      . have := own' b hb; have := b0.lt; omega
      . have := own' b hb; have := b2.lt; omega
    . exact (((U8.trans Lx16.up fun _ _ x => x.elim).trans (up u44 u53) fun _ _ x => x.elim).trans u55 fun x hx h => by have := own x h; have := b0.lt; omega).trans u59 (fun x hx (e : x = _) => by omega) |>.trans u60 fun x hx (e : x = _) => by omega
end Go.Proofs.YtdbkclnlfibgdaaGreatDoor
namespace Go.Proofs.YtdbkclnlfibgdaaGreatDoor
open Go.SX Go.Ty Go.MapKept Go.RowKit Go.Tx
def Ew (w0 : World) (tv : Value) (toks : List Tok) (n d : Nat) (c : World -> (Value -> WP) -> (Value -> WP) -> Prop) : Prop :=
  ∀ (w : World) (a : Nat) (K R : KV), Pz w0 tv w a d -> a < toks.length -> toks.length <= n + a ->
    (∀ (q : Option Addr) w' a', a < a' -> a' < toks.length -> Pz w0 tv w' a' d -> Upd (· = w0.heap.size) w w' -> K (.pointer q) w') ->
    (∀ v w', Gave w0 tv (· = w0.heap.size) w d v w' -> R v w') -> c w K R
section
variable {w0 : World} {tv : Value} {toks : List Tok}
theorem Ew.less {n m d : Nat} {c : World -> (Value -> WP) -> (Value -> WP) -> Prop} (h : Ew w0 tv toks n d c) (hm : m <= n) : Ew w0 tv toks m d c := fun w a K R Z ha hn hk hr => h w a K R Z ha (by omega) hk hr
theorem typ_w (P : P0 w0 tv toks) (G : Good toks) (hl : toks.length <= 900000) {n d : Nat} (hd : d <= 1000) : Ew w0 tv toks n d fun w K R => callX Tryz.prog 88 #[.pointer (some ⟨w0.heap.size, 0, none⟩)] w K R := by
  intro w a K R Z ha _ hk hr
  cases hF : typF toks toks.length a d with
  | some r => exact typF_ok P hl toks.length w a d r.1 r.2 K R Z hF fun w' q Z' _ u => hk q w' r.2 (typF_inc toks _ a d r.1 r.2 hF) (typF_in toks _ a d r.1 r.2 hF) Z' u
  | none => exact typF_no P G hl toks.length w a d K R Z hd ha (by omega) hF hr
theorem maybe_w (P : P0 w0 tv toks) (G : Good toks) (hl : toks.length <= 900000) {d : Nat} (hd : d <= 1000) {w : World} {a : Nat} {K R : KV} (Z : Pz w0 tv w a d) (ha : a < toks.length)
    (hk : ∀ (q : Option Addr) w' a', a <= a' -> a' < toks.length -> Pz w0 tv w' a' d -> Upd (· = w0.heap.size) w w' -> K (.pointer q) w') (hr : ∀ v w', Gave w0 tv (· = w0.heap.size) w d v w' -> R v w') :
    callX Tryz.prog 91 #[.pointer (some ⟨w0.heap.size, 0, none⟩)] w K R := by
  have ht : toks[a]? = some toks[a] := List.getElem?_eq_getElem ha; refine maybe_text _ _ _ _ (newC_mk fun w1 B1 u1 _ => may_c P (Z.keep u1) ht (by omega) (one_str B1) rfl (by decide) (fun hy w3 Z3 u3 => ⟨_, rfl, brC_tt rfl ?_⟩) fun hno w3 u3 => ⟨_, rfl, brC_ff rfl (hk _ w3 a (Nat.le_refl _) ha (Z.keep (up u1 u3)) (up u1 u3).no)⟩); have U3 : Upd (· = w0.heap.size) w w3 := u1.no.trans u3 fun _ _ e => e; exact typ_w P G hl hd (n := toks.length) w3 (a + 1) _ _ Z3 (G _ _ ht (isW_kind hy)) (by omega) (fun q w' a' h1 h2 Z' u => ⟨_, rfl, hk q w' a' (by omega) h2 Z' (U3.trans u fun _ _ e => e)⟩) fun v w' g => hr v w' (g.from U3 fun _ _ e => e)
theorem withinDE (c0b c0o : Nat) (u : FrameMode) (w : World) (K : KV)
    (h : ∃ (p0 : Option Addr), World.cell? w (Addr.mk c0b c0o none) = some (.pointer p0) /\ ptrC p0 fun (a1 : Addr) ↦ ∃ (n2 : Int), World.cell? w (Addr.add a1 2) = some (.int .i64 n2) /\ ptrC p0 fun (a3 : Addr) ↦ stC w (Addr.add a3 2) (.int .i64 (IntKind.wrap IntKind.i64 (n2 - 1))) fun (w4 : World) ↦ K (.tuple #[]) w4) :
    CallsD Tryz.prog 187 #[.pointer (some (Addr.mk c0b c0o none))] u w fun e u' w' => ∃ v, e = .returned v /\ u' = u /\ K v w' :=
  callsD_of_vc ⟨[], [], []⟩ Tryz.func187 (of_eq h (by kernel_rfl))
theorem within_w (P : P0 w0 tv toks) {d : Nat} (hd9 : d <= 1000) {fn : Fn} {fa fc : Array Value} {w : World} {a : Nat} {K R : KV} (Z : Pz w0 tv w a d) (ha : a < toks.length)
    (hb : ∀ (w6 : World) (K' R' : KV), Pz w0 tv w6 a (d + 1) -> d < 40 -> Upd (· = w0.heap.size) w w6 -> (∀ (q : Option Addr) w' a', a < a' -> a' < toks.length -> Pz w0 tv w' a' (d + 1) -> Upd (· = w0.heap.size) w6 w' -> K' (.pointer q) w') ->
      (∀ v w', Gave w0 tv (· = w0.heap.size) w6 (d + 1) v w' -> R' v w') -> invB Tryz.prog pxT (.func fn fa fc) #[] w6 K' R')
    (hk : ∀ (q : Option Addr) w' a', a < a' -> a' < toks.length -> Pz w0 tv w' a' d -> Upd (· = w0.heap.size) w w' -> K (.pointer q) w') (hr : ∀ v w', Gave w0 tv (· = w0.heap.size) w d v w' -> R v w') :
    callX Tryz.prog 147 #[.pointer (some ⟨w0.heap.size, 0, none⟩), .func fn fa fc] w K R := by
  have ht : toks[a]? = some toks[a] := List.getElem?_eq_getElem ha; have hwl := Z.lt; refine withinE_text _ _ _ _ _ _ _ (newC_mk fun w3 B3 u3 s3 => ⟨_, B3.cell rfl, ptrC_some ⟨_, by rw [add_mk]; exact (Z.keep u3).blk.cell rfl, ptrC_some ?_⟩⟩); rw [add_mk]; refine (Z.keep u3).deep (d' := d + 1) (wrap_succ (by omega)) fun w6 Z6 u6 => ?_; have b3 := B3.upd u6 (by omega); have U6 : Upd (· = w0.heap.size) w w6 := u3.no.trans u6 fun _ _ e => e
  have out : ∀ (w7 : World) (v : Value) (w' : World), Upd (· = w0.heap.size) w w7 -> Blk w7 w.heap.size #[.pointer (some ⟨w0.heap.size, 0, none⟩)] 110 -> Gave w0 tv (· = w0.heap.size) w7 (d + 1) v w' ->
      defP Tryz.prog (Deferred.mk (Target.fn (Fn.func 187) #[.pointer (some ⟨w.heap.size, 0, none⟩)]) #[]) v w' (fun _ => False) R := fun w7 v w' U7 b7 g => by
    obtain ⟨a3, Z3⟩ := g.z; refine ⟨_, _, _, _, rfl, rfl, (withinDE w.heap.size 0 _ w' (fun _ w2 => Pz w0 tv w2 a3 d /\ Upd (· = w0.heap.size) w' w2) ?_).mono ?_⟩
    . refine ⟨_, (b7.upd g.u (by omega)).cell rfl, ptrC_some ⟨_, by rw [add_mk]; exact Z3.blk.cell rfl, ptrC_some ?_⟩⟩; rw [add_mk]; exact Z3.deep (wrap_pred (by omega)) fun w' z u => ⟨z, u⟩
    . rintro e u w2 ⟨x, rfl, rfl, z, u⟩; exact ⟨⟨_, rfl⟩, .inr ⟨rfl, hr v w2 ⟨g.v, ⟨_, z⟩, (U7.trans g.u fun _ _ e => e).trans u fun _ _ e => e⟩⟩⟩
  refine ⟨fun w' => d < 40 /\ w' = w6, ?_, ⟨_, b3.cell rfl, ptrC_some ⟨_, by rw [add_mk]; exact Z6.blk.cell rfl, brC_intro (fun h => ?_) fun h => ⟨by have := of_decide_eq_false h; omega, rfl⟩⟩⟩⟩
  . rintro w8 ⟨h40, rfl⟩ _; refine hb w8 _ _ Z6 h40 U6 (fun q w' a' h1 h2 Z' u => ⟨_, rfl, ?_⟩) fun v w' g => out w8 v w' U6 b3 g; have b4 := b3.upd u (by omega); refine ⟨_, _, _, _, rfl, rfl, (withinDE w.heap.size 0 _ w' (fun _ w2 => Pz w0 tv w2 a' d /\ Upd (· = w0.heap.size) w' w2) ?_).mono ?_⟩
    . refine ⟨_, b4.cell rfl, ptrC_some ⟨_, by rw [add_mk]; exact Z'.blk.cell rfl, ptrC_some ?_⟩⟩; rw [add_mk]; exact Z'.deep (wrap_pred (by omega)) fun w' z u => ⟨z, u⟩
    . rintro e u2 w2 ⟨x, rfl, rfl, z, u2⟩; exact ⟨⟨_, rfl⟩, rfl, hk q w2 a' h1 h2 z ((U6.trans u fun _ _ e => e).trans u2 fun _ _ e => e)⟩
  . exact ⟨_, b3.cell rfl, fail_x P Z6 ht fun v w' g => out w6 v w' U6 b3 g⟩
end
theorem elemEx : Elem 212 52 8 := ⟨by kernel_rfl, by
  obtain ⟨i, h1, h2, h3, h4⟩ := info_get (P := Tryz.prog) (e := 52) (s := 1) (b := 8) (z := .pointer none) (by kernel_rfl); exact ⟨i, _, h1, h2, h3, h4, rfl⟩⟩
section
variable {w0 : World} {tv : Value} {toks : List Tok}
theorem listE_w {w : World} {a d : Nat} {K R : KV} (P : P0 w0 tv toks) (Z : Pz w0 tv w a d) (hl : toks.length <= 900000) (G : Good toks) (ha : a < toks.length) {en : ByteArray} {fn : Fn} {fa fc : Array Value} {I : Nat -> (Nat -> Prop) -> WP} {N : Nat -> Prop}
    (hkeep : ∀ a N w w' S, I a N w -> Upd S w w' -> (∀ b, N b -> ¬ S b) -> I a N w') (hup : ∀ a a' N w, I a N w -> a <= a' -> I a' N w) (hN : ∀ a N w, I a N w -> ∀ b, N b -> b < w.heap.size /\ w0.heap.size < b)
    (hone : ∀ (N : Nat -> Prop) (a' : Nat) (w : World) (K R : KV), Pz w0 tv w a' d -> I a' N w -> a <= a' -> a' < toks.length ->
      (∀ (q : Option Addr) w' a1 N', a' < a1 -> a1 < toks.length -> Pz w0 tv w' a1 d -> I a1 N' w' -> (∀ b, N' b -> N b \/ w.heap.size <= b) -> Upd (fun b => b = w0.heap.size \/ N b) w w' -> K (.pointer q) w') ->
      (∀ v w', Gave w0 tv (fun b => b = w0.heap.size \/ N b) w d v w' -> R v w') -> invB Tryz.prog pxT (.func fn fa fc) #[] w K R)
    (hI : I a N w)
    (hk : ∀ w' a' p n c N', a < a' -> a' < toks.length -> Pz w0 tv w' a' d -> I a' N' w' -> (∀ b, N' b -> N b \/ w.heap.size <= b) -> Upd (fun b => b = w0.heap.size \/ N b) w w' -> K (.slice p n c) w')
    (hr : ∀ v w', Gave w0 tv (fun b => b = w0.heap.size \/ N b) w d v w' -> R v w') :
    callX Tryz.prog 231 #[.pointer (some ⟨w0.heap.size, 0, none⟩), .string en, .func fn fa fc] w K R := by
  have ht : toks[a]? = some toks[a] := List.getElem?_eq_getElem ha; have hwl := Z.lt; refine listE_text _ _ _ _ _ _ _ _ (newC_mk fun w1 B1 u1 _ => is_c P (Z.keep u1) ht (one_str B1) rfl (by decide) fun w3 u3 => ⟨_, rfl, ?_⟩); have U3 := up u1 u3; have z3 := U3.size
  refine ⟨fun p n c _ w' => ∃ N2 a2 vs, Pz w0 tv w' a2 d /\ I a2 N2 w' /\ (∀ b, N2 b -> N b \/ w.heap.size <= b) /\ RowAt w' 52 1 (.slice p n c) vs /\ (∀ b, InRow (.slice p n c) b -> w.heap.size <= b /\ ¬ N2 b) /\
      Upd (fun b => b = w0.heap.size \/ N b) w w' /\ vs.length <= a2 /\ a <= a2 /\ a2 < toks.length, fun _ _ _ _ w' => toks.length + 1 - atOf w' w0.heap.size, ?_, ?_⟩
  . exact ⟨N, a, [], Z.keep U3, hkeep _ _ _ _ _ hI U3 (fun _ _ h => h), fun b h => .inl h, RowAt.nil _ _ _, fun b hb => (no_in b hb).elim, U3.no, Nat.zero_le _, Nat.le_refl _, ha⟩
  rintro p n c b w11 ⟨N2, a2, vs, Z11, I11, sub2, row, rowN, U11, hvs, haa, ha2l⟩ _; have z11 := U11.size
  have gv : ∀ {w1 : World} {S : Nat -> Prop}, Upd S w11 w1 -> (∀ b, b < w11.heap.size -> S b -> b = w0.heap.size \/ N2 b \/ w.heap.size <= b) -> Upd (fun b => b = w0.heap.size \/ N b) w w1 := fun u h => U11.trans u fun y hy hs => by
    rcases h y (by omega) hs with h | h | h
    . exact .inl h
    . rcases sub2 y h with h | h
      . exact .inr h
      . omega
    . omega
  refine brC_intro (fun hb => ?_) fun hb => ?_
  . refine hone N2 a2 w11 _ _ Z11 I11 haa ha2l (fun q15 w14 a1 N3 ha1 hq1 Z14 I14 sub3 u14 => ⟨q15, rfl, newC_mk fun w17 B17 u17 s17 => ?_⟩) fun v w' g => hr v w' ⟨g.v, g.z, gv g.u fun b _ h => h.imp id .inl⟩; have hq : toks[a1]? = some toks[a1] := List.getElem?_eq_getElem hq1; have z14 := u14.size; have hN3 := hN _ _ _ I14
    have nr : ∀ b, InRow (.slice p n c) b -> ¬ (b = w0.heap.size \/ N2 b) := fun b hb h => by
      have := rowN b hb; rcases h with h | h
      . omega
      . exact this.2 h
    have row17 := (row.upd u14 nr).upd u17 fun _ _ h => h; have hnl := row_cap row; have O17 : Own w.heap.size w17 52 p n c vs := ⟨row17, fun b hb => (rowN b hb).1, hnl.1, hnl.2⟩; refine grow_row elemEx O17 (by omega) (row_one B17) (by intro u hu; simp at hu; subst hu; rfl) (by omega) (by simp; omega) fun p' n' c' w19 o19 _ hin19 u19 => newC_mk fun w24 B24 u24 _ => ?_; have nk : ¬ InRow (.slice p n c) w0.heap.size := fun h => by have := (rowN _ h).1; omega
    have Z19 : Pz w0 tv w19 a1 d := ⟨(Z14.keep u17).up.trans u19 fun y hy h => by have := (rowN y h).1; omega, (Z14.keep u17).blk.upd u19 nk⟩
    have dis : ∀ b, N3 b -> ¬ InRow (.slice p n c) b := fun b hb h => by
      rcases sub3 b hb with h2 | h2
      . exact (rowN b h).2 h2
      . have := row.lt h; omega
    have I24 : I a1 N3 w24 := hkeep _ _ _ _ _ (hkeep _ _ _ _ _ (hkeep _ _ _ _ _ I14 u17 fun _ _ h => h) u19 dis) u24 fun _ _ h => h; have Z24 := Z19.keep u24
    have U24 : Upd (fun b => b = w0.heap.size \/ N b) w w24 := by
      refine ((((U11.trans u14 fun y hy h => ?_).trans u17 fun _ _ h => h.elim).trans u19 fun y hy h => ?_).trans u24 fun _ _ h => h.elim)
      . rcases h with h | h
        . exact .inl h
        . rcases sub2 y h with h | h
          . exact .inr h
          . omega
      . have := (rowN y h).1; omega
    have row24 := o19.row.upd u24 fun _ _ h => h
    have rowN24 : ∀ b, InRow (.slice p' n' c') b -> w.heap.size <= b /\ ¬ N3 b := fun b hb => by
      refine ⟨o19.own b hb, fun h => ?_⟩; rcases hin19 b hb with h2 | h2
      . exact dis b h h2
      . have := (hN3 b h).1; omega
    have sub4 : ∀ b, N3 b -> N b \/ w.heap.size <= b := fun b h => by
      rcases sub3 b h with h | h
      . exact sub2 b h
      . exact .inr (by omega)
    have hmeas : ∀ {w' a3}, Pz w0 tv w' a3 d -> a2 < a3 -> toks.length + 1 - atOf w' w0.heap.size < toks.length + 1 - atOf w11 w0.heap.size := fun h1 h2 => by
      rw [h1.at_, Z11.at_]; omega
    exact may_c P Z24 hq (by omega) (one_str B24) rfl (by decide) (fun hy w26 Z26 u26 => ⟨_, rfl, ⟨N3, a1 + 1, vs ++ [.pointer q15], Z26, hup _ _ _ _ (hkeep _ _ _ _ _ I24 u26 (fun b hb e => by have := (hN3 b hb).2; omega)) (by omega), sub4, row24.upd u26 (fun b hb e => by have := (rowN24 b hb).1; omega), rowN24,
      U24.trans u26 (fun y hy e => .inl e), by simp; omega, by omega, G _ _ hq (isW_kind hy)⟩, hmeas Z26 (by omega)⟩)
      fun hno w26 u26 => ⟨_, rfl, ⟨N3, a1, vs ++ [.pointer q15], Z24.keep u26, hkeep _ _ _ _ _ I24 u26 (fun _ _ h => h), sub4, row24.upd u26 (fun _ _ h => h), rowN24, U24.trans u26 (fun _ _ h => h.elim), by simp; omega, by omega, hq1⟩, hmeas (Z24.keep u26) ha1⟩
  . have hq : toks[a2]? = some toks[a2] := List.getElem?_eq_getElem ha2l; exact must_x P Z11 hq (by omega) (fun hen w29 Z29 u29 => ⟨rfl, hk w29 (a2 + 1) p n c N2 (by omega) (G _ _ hq (isW_kind hen)) Z29 (hup _ _ _ _ (hkeep _ _ _ _ _ I11 u29 (fun b hb e => by have := (hN _ _ _ I11 b hb).2; omega)) (by omega)) sub2 (U11.trans u29 fun y hy e => .inl e)⟩) fun hen v w' g => hr v w' (g.from U11 fun y hy e => .inl e)
theorem listT_w {w : World} {a d : Nat} {K R : KV} (P : P0 w0 tv toks) (Z : Pz w0 tv w a d) (hl : toks.length <= 900000) (G : Good toks) (ha : a < toks.length) {en : ByteArray} {fn : Fn} {fa fc : Array Value} {I : Nat -> (Nat -> Prop) -> WP} {N : Nat -> Prop}
    (hkeep : ∀ a N w w' S, I a N w -> Upd S w w' -> (∀ b, N b -> ¬ S b) -> I a N w') (hup : ∀ a a' N w, I a N w -> a <= a' -> I a' N w) (hN : ∀ a N w, I a N w -> ∀ b, N b -> b < w.heap.size /\ w0.heap.size < b)
    (hone : ∀ (N : Nat -> Prop) (a' : Nat) (w : World) (K R : KV), Pz w0 tv w a' d -> I a' N w -> a <= a' -> a' < toks.length ->
      (∀ (q : Option Addr) w' a1 N', a' < a1 -> a1 < toks.length -> Pz w0 tv w' a1 d -> I a1 N' w' -> (∀ b, N' b -> N b \/ w.heap.size <= b) -> Upd (fun b => b = w0.heap.size \/ N b) w w' -> K (.pointer q) w') ->
      (∀ v w', Gave w0 tv (fun b => b = w0.heap.size \/ N b) w d v w' -> R v w') -> invB Tryz.prog pxT (.func fn fa fc) #[] w K R)
    (hI : I a N w)
    (hk : ∀ w' a' p n c N', a < a' -> a' < toks.length -> Pz w0 tv w' a' d -> I a' N' w' -> (∀ b, N' b -> N b \/ w.heap.size <= b) -> Upd (fun b => b = w0.heap.size \/ N b) w w' -> K (.slice p n c) w')
    (hr : ∀ v w', Gave w0 tv (fun b => b = w0.heap.size \/ N b) w d v w' -> R v w') :
    callX Tryz.prog 145 #[.pointer (some ⟨w0.heap.size, 0, none⟩), .string en, .func fn fa fc] w K R := by
  have ht : toks[a]? = some toks[a] := List.getElem?_eq_getElem ha; have hwl := Z.lt; refine listT_text _ _ _ _ _ _ _ _ (newC_mk fun w1 B1 u1 _ => is_c P (Z.keep u1) ht (one_str B1) rfl (by decide) fun w3 u3 => ⟨_, rfl, ?_⟩); have U3 := up u1 u3; have z3 := U3.size
  refine ⟨fun p n c _ w' => ∃ N2 a2 vs, Pz w0 tv w' a2 d /\ I a2 N2 w' /\ (∀ b, N2 b -> N b \/ w.heap.size <= b) /\ RowAt w' 27 1 (.slice p n c) vs /\ (∀ b, InRow (.slice p n c) b -> w.heap.size <= b /\ ¬ N2 b) /\
      Upd (fun b => b = w0.heap.size \/ N b) w w' /\ vs.length <= a2 /\ a <= a2 /\ a2 < toks.length, fun _ _ _ _ w' => toks.length + 1 - atOf w' w0.heap.size, ?_, ?_⟩
  . exact ⟨N, a, [], Z.keep U3, hkeep _ _ _ _ _ hI U3 (fun _ _ h => h), fun b h => .inl h, RowAt.nil _ _ _, fun b hb => (no_in b hb).elim, U3.no, Nat.zero_le _, Nat.le_refl _, ha⟩
  rintro p n c b w11 ⟨N2, a2, vs, Z11, I11, sub2, row, rowN, U11, hvs, haa, ha2l⟩ _; have z11 := U11.size
  have gv : ∀ {w1 : World} {S : Nat -> Prop}, Upd S w11 w1 -> (∀ b, b < w11.heap.size -> S b -> b = w0.heap.size \/ N2 b \/ w.heap.size <= b) -> Upd (fun b => b = w0.heap.size \/ N b) w w1 := fun u h => U11.trans u fun y hy hs => by
    rcases h y (by omega) hs with h | h | h
    . exact .inl h
    . rcases sub2 y h with h | h
      . exact .inr h
      . omega
    . omega
  refine brC_intro (fun hb => ?_) fun hb => ?_
  . refine hone N2 a2 w11 _ _ Z11 I11 haa ha2l (fun q15 w14 a1 N3 ha1 hq1 Z14 I14 sub3 u14 => ⟨q15, rfl, newC_mk fun w17 B17 u17 s17 => ?_⟩) fun v w' g => hr v w' ⟨g.v, g.z, gv g.u fun b _ h => h.imp id .inl⟩; have hq : toks[a1]? = some toks[a1] := List.getElem?_eq_getElem hq1; have z14 := u14.size; have hN3 := hN _ _ _ I14
    have nr : ∀ b, InRow (.slice p n c) b -> ¬ (b = w0.heap.size \/ N2 b) := fun b hb h => by
      have := rowN b hb; rcases h with h | h
      . omega
      . exact this.2 h
    have row17 := (row.upd u14 nr).upd u17 fun _ _ h => h; have hnl := row_cap row; have O17 : Own w.heap.size w17 27 p n c vs := ⟨row17, fun b hb => (rowN b hb).1, hnl.1, hnl.2⟩; refine grow_row elemWt O17 (by omega) (row_one B17) (by intro u hu; simp at hu; subst hu; rfl) (by omega) (by simp; omega) fun p' n' c' w19 o19 _ hin19 u19 => newC_mk fun w24 B24 u24 _ => ?_; have nk : ¬ InRow (.slice p n c) w0.heap.size := fun h => by have := (rowN _ h).1; omega
    have Z19 : Pz w0 tv w19 a1 d := ⟨(Z14.keep u17).up.trans u19 fun y hy h => by have := (rowN y h).1; omega, (Z14.keep u17).blk.upd u19 nk⟩
    have dis : ∀ b, N3 b -> ¬ InRow (.slice p n c) b := fun b hb h => by
      rcases sub3 b hb with h2 | h2
      . exact (rowN b h).2 h2
      . have := row.lt h; omega
    have I24 : I a1 N3 w24 := hkeep _ _ _ _ _ (hkeep _ _ _ _ _ (hkeep _ _ _ _ _ I14 u17 fun _ _ h => h) u19 dis) u24 fun _ _ h => h; have Z24 := Z19.keep u24
    have U24 : Upd (fun b => b = w0.heap.size \/ N b) w w24 := by
      refine ((((U11.trans u14 fun y hy h => ?_).trans u17 fun _ _ h => h.elim).trans u19 fun y hy h => ?_).trans u24 fun _ _ h => h.elim)
      . rcases h with h | h
        . exact .inl h
        . rcases sub2 y h with h | h
          . exact .inr h
          . omega
      . have := (rowN y h).1; omega
    have row24 := o19.row.upd u24 fun _ _ h => h
    have rowN24 : ∀ b, InRow (.slice p' n' c') b -> w.heap.size <= b /\ ¬ N3 b := fun b hb => by
      refine ⟨o19.own b hb, fun h => ?_⟩; rcases hin19 b hb with h2 | h2
      . exact dis b h h2
      . have := (hN3 b h).1; omega
    have sub4 : ∀ b, N3 b -> N b \/ w.heap.size <= b := fun b h => by
      rcases sub3 b h with h | h
      . exact sub2 b h
      . exact .inr (by omega)
    have hmeas : ∀ {w' a3}, Pz w0 tv w' a3 d -> a2 < a3 -> toks.length + 1 - atOf w' w0.heap.size < toks.length + 1 - atOf w11 w0.heap.size := fun h1 h2 => by
      rw [h1.at_, Z11.at_]; omega
    exact may_c P Z24 hq (by omega) (one_str B24) rfl (by decide) (fun hy w26 Z26 u26 => ⟨_, rfl, ⟨N3, a1 + 1, vs ++ [.pointer q15], Z26, hup _ _ _ _ (hkeep _ _ _ _ _ I24 u26 (fun b hb e => by have := (hN3 b hb).2; omega)) (by omega), sub4, row24.upd u26 (fun b hb e => by have := (rowN24 b hb).1; omega), rowN24,
      U24.trans u26 (fun y hy e => .inl e), by simp; omega, by omega, G _ _ hq (isW_kind hy)⟩, hmeas Z26 (by omega)⟩)
      fun hno w26 u26 => ⟨_, rfl, ⟨N3, a1, vs ++ [.pointer q15], Z24.keep u26, hkeep _ _ _ _ _ I24 u26 (fun _ _ h => h), sub4, row24.upd u26 (fun _ _ h => h), rowN24, U24.trans u26 (fun _ _ h => h.elim), by simp; omega, by omega, hq1⟩, hmeas (Z24.keep u26) ha1⟩
  . have hq : toks[a2]? = some toks[a2] := List.getElem?_eq_getElem ha2l; exact must_x P Z11 hq (by omega) (fun hen w29 Z29 u29 => ⟨rfl, hk w29 (a2 + 1) p n c N2 (by omega) (G _ _ hq (isW_kind hen)) Z29 (hup _ _ _ _ (hkeep _ _ _ _ _ I11 u29 (fun b hb e => by have := (hN _ _ _ I11 b hb).2; omega)) (by omega)) sub2 (U11.trans u29 fun y hy e => .inl e)⟩) fun hen v w' g => hr v w' (g.from U11 fun y hy e => .inl e)
end
structure Nm1 (w0 : World) (n0 k2 k0 : Nat) (a : Nat) (N : Nat -> Prop) (w : World) : Prop where
  ex : ∃ (nv : Value) (ns : List ByteArray), (∀ b, N b ↔ b = k2 \/ b = k0 \/ InRow nv b) /\ Blk w k2 #[nv] 53 /\ Blk w k0 #[.pointer (some ⟨w0.heap.size, 0, none⟩)] 110 /\ RowAt w idx.str 1 nv (ns.map Value.string) /\ (∀ b, InRow nv b -> n0 <= b /\ b ≠ k0 /\ b ≠ k2) /\ ns.length <= a
  d : w0.heap.size < n0 /\ n0 <= k0 /\ k0 < k2
theorem Nm1.keep {w0 : World} {n0 k2 k0 a : Nat} {N : Nat -> Prop} {w w' : World} {S : Nat -> Prop} (h : Nm1 w0 n0 k2 k0 a N w) (u : Upd S w w') (hs : ∀ b, N b -> ¬ S b) : Nm1 w0 n0 k2 k0 a N w' := by
  obtain ⟨nv, ns, h1, h2, h3, h4, h5, h6⟩ := h.ex; exact ⟨⟨nv, ns, h1, h2.upd u (hs _ ((h1 _).2 (.inl rfl))), h3.upd u (hs _ ((h1 _).2 (.inr (.inl rfl)))), h4.upd u fun b hb => hs _ ((h1 _).2 (.inr (.inr hb))), h5, h6⟩, h.d⟩
theorem Nm1.up {w0 : World} {n0 k2 k0 a a' : Nat} {N : Nat -> Prop} {w : World} (h : Nm1 w0 n0 k2 k0 a N w) (ha : a <= a') : Nm1 w0 n0 k2 k0 a' N w := by
  obtain ⟨nv, ns, h1, h2, h3, h4, h5, h6⟩ := h.ex; exact ⟨⟨nv, ns, h1, h2, h3, h4, h5, by omega⟩, h.d⟩
theorem Nm1.own {w0 : World} {n0 k2 k0 a : Nat} {N : Nat -> Prop} {w : World} (h : Nm1 w0 n0 k2 k0 a N w) : ∀ b, N b -> b < w.heap.size /\ w0.heap.size < b := fun b hb => by
  obtain ⟨nv, ns, h1, h2, h3, h4, h5, h6⟩ := h.ex; have := h.d; rcases (h1 b).1 hb with rfl | rfl | h
  . exact ⟨h2.lt, by omega⟩
  . exact ⟨h3.lt, by omega⟩
  . exact ⟨h4.lt h, by have := (h5 b h).1; omega⟩
section
variable {w0 : World} {tv : Value} {toks : List Tok}
theorem params1_w (P : P0 w0 tv toks) (G : Good toks) (hl : toks.length <= 900000) {d : Nat} (hd : d <= 1000) {n0 k2 k0 : Nat} {w : World} {a : Nat} {N : Nat -> Prop} {K R : KV} (Z : Pz w0 tv w a d) (ha : a < toks.length) (h : Nm1 w0 n0 k2 k0 a N w)
    (hk : ∀ (q : Option Addr) w' a1 N', a < a1 -> a1 < toks.length -> Pz w0 tv w' a1 d -> Nm1 w0 n0 k2 k0 a1 N' w' -> (∀ b, N' b -> N b \/ w.heap.size <= b) -> Upd (fun b => b = w0.heap.size \/ N b) w w' -> K (.pointer q) w')
    (hr : ∀ v w', Gave w0 tv (fun b => b = w0.heap.size \/ N b) w d v w' -> R v w') :
    callX Tryz.prog 146 #[.pointer (some ⟨k2, 0, none⟩), .pointer (some ⟨k0, 0, none⟩)] w K R := by
  have ht : toks[a]? = some toks[a] := List.getElem?_eq_getElem ha; obtain ⟨nv, ns, hN, b2, b0, row, own, hns⟩ := h.ex; obtain ⟨hd0, hd1, hd2⟩ := h.d; obtain ⟨p, n, cp, rfl, hn, hnc, hcm⟩ := row.shape; rw [List.length_map, Nat.mul_one] at hn; refine params1_text _ _ _ _ _ _ _ ⟨fun w' => a + 1 < toks.length /\ ∃ N', Pz w0 tv w' (a + 1) d /\ Nm1 w0 n0 k2 k0 (a + 1) N' w' /\ (∀ b, N' b -> N b \/ w.heap.size <= b) /\ Upd (fun b => b = w0.heap.size \/ N b) w w', ?_, drawC_mk fun w7 u7 _ => ?_⟩
  . rintro w1 ⟨ha1, N', Z1, I1, sub, u1⟩ _; obtain ⟨nv1, ns1, hN1, c2, c0, _⟩ := I1.ex; refine ⟨_, c0.cell rfl, maybe_w P G hl hd Z1 ha1 (fun q w5 a5 h1 h2 Z5 u5 => ⟨_, rfl, hk q w5 a5 N' (by omega) h2 Z5 ((I1.keep u5 fun b hb e => by have := (I1.own b hb).2; omega).up h1) sub (u1.trans u5 fun _ _ e => .inl e)⟩) fun v w' g => hr v w' (g.from u1 fun _ _ e => .inl e)⟩
  have c2 := b2.upd u7 id; have c0 := b0.upd u7 id; refine ⟨fun w' => Blk w' k2 #[.slice p n cp] 53 /\ Blk w' k0 #[.pointer (some ⟨w0.heap.size, 0, none⟩)] 110, p, n, cp, c2.cell rfl, fun w' h => lds_strs (h.1.cell rfl), _, c0.cell rfl, fun w' h => lds_px (h.2.cell rfl), ?_, trivial⟩; refine name_x P (Z.keep u7) ht (by omega) (fun h1 w16 Z16 u16 => ⟨_, rfl, ⟨c2.upd u16 (by omega), c0.upd u16 (by omega)⟩, newC_mk fun w19 B19 u19 s19 => ⟨⟨(c2.upd u16 (by omega)).upd u19 id, (c0.upd u16 (by omega)).upd u19 id⟩, ?_, trivial⟩, trivial⟩) fun _ v w' g => hr v w' (g.from u7.no fun _ _ e => .inl e); have d2 := (c2.upd u16 (by omega)).upd u19 id; have d0 := (c0.upd u16 (by omega)).upd u19 id; have r19 := ((row.upd u7 fun _ _ h => h).upd u16 fun b hb e => by have := (own b hb).1; omega).upd u19 fun _ _ h => h; have hnr := row_cap r19; have b0lt := b0.lt; have b2lt := b2.lt; have z7 := u7.size; have z16 := u16.size; refine grow_row elemStr (n0 := n0) ⟨r19, fun b hb => (own b hb).1, hnr.1, hnr.2⟩ (by omega) (row_one B19) (by intro u hu; simp at hu; subst hu; rfl) (by omega) (by simp; omega) fun p' n' c' w21 o21 _ hin21 u21 => ?_; have e2 := d2.upd u21 (fun h => (own _ h).2.2 rfl); have e0 := d0.upd u21 (fun h => (own _ h).2.1 rfl); have nk : ¬ InRow (.slice p n cp) w0.heap.size := fun h => by have := (own _ h).1; omega
  refine ⟨⟨e2, e0⟩, stC_mk e2 (by simp) fun w25 B25 u25 _ => ⟨G _ _ ht (by omega), fun b => b = k2 \/ b = k0 \/ InRow (.slice p' n' c') b, ?_, ⟨⟨_, ns ++ [toks[a].text], fun b => Iff.rfl, B25, e0.upd u25 (by omega), ?_, ?_, by simp; omega⟩, hd0, hd1, hd2⟩, ?_, ?_⟩, trivial⟩
  . exact ⟨((Z16.keep u19).up.trans u21 fun y hy h => by have := (own y h).1; omega).trans u25 fun y hy (e : y = _) => by omega, ((Z16.keep u19).blk.upd u21 nk).upd u25 (by omega)⟩
  . have := o21.row.upd u25 fun b hb (e : b = k2) => by
      subst e; rcases hin21 _ hb with h | h
      . exact (own _ h).2.2 rfl
      . omega
    simpa using this
  . intro b hb; refine ⟨o21.own b hb, ?_, ?_⟩ <;> rintro rfl
    . rcases hin21 _ hb with h | h
      . exact (own _ h).2.1 rfl
      . omega
    . rcases hin21 _ hb with h | h
      . exact (own _ h).2.2 rfl
      . omega
  . rintro b (rfl | rfl | hb)
    . exact .inl ((hN _).2 (.inl rfl))
    . exact .inl ((hN _).2 (.inr (.inl rfl)))
    . rcases hin21 _ hb with h | h
      . exact .inl ((hN _).2 (.inr (.inr h)))
      . exact .inr (by omega)
  . exact (((u7.no.trans u16 fun _ _ e => Or.inl e).trans u19 fun _ _ h => h.elim).trans u21 fun y _ h => .inr ((hN y).2 (.inr (.inr h)))).trans u25 fun y _ e => .inr ((hN y).2 (.inl e))
theorem params_w (P : P0 w0 tv toks) (G : Good toks) (hl : toks.length <= 900000) {d : Nat} (hd : d <= 1000) {w : World} {a : Nat} {K R : KV} (Z : Pz w0 tv w a d) (ha : a < toks.length)
    (hk : ∀ p n c p' n' c' w' a', a < a' -> a' < toks.length -> Pz w0 tv w' a' d -> Upd (· = w0.heap.size) w w' -> K (.tuple #[.slice p n c, .slice p' n' c']) w') (hr : ∀ v w', Gave w0 tv (· = w0.heap.size) w d v w' -> R v w') :
    callX Tryz.prog 89 #[.pointer (some ⟨w0.heap.size, 0, none⟩)] w K R := by
  have ht : toks[a]? = some toks[a] := List.getElem?_eq_getElem ha; have hwl := Z.lt; refine params_text _ _ _ _ (newC_mk fun w1 B1 u1 s1 => newC_mk fun w3 B3 u3 s3 => ⟨_, (B1.upd u3 id).cell rfl, ?_⟩); have U3 := up u1 u3; refine must_x P (Z.keep U3) ht (by omega) (fun hy w6 Z6 u6 => ⟨rfl, ?_⟩) fun _ v w' g => hr v w' (g.from U3.no fun _ _ e => e); have ha1 := G _ _ ht (isW_kind hy); have c0 := (B1.upd u3 id).upd u6 (by omega); have c2 := B3.upd u6 (by omega); have z6 := u6.size; have I6 : Nm1 w0 w.heap.size w1.heap.size w.heap.size (a + 1) (fun b => b = w1.heap.size \/ b = w.heap.size) w6 := ⟨⟨.slice none 0 0, [], fun b => ⟨fun h => h.imp id .inl, fun h => h.elim .inl fun h => h.elim .inr fun h => (no_in b h).elim⟩, c2, c0, RowAt.nil _ _ _, fun b hb => (no_in b hb).elim, Nat.zero_le _⟩, by omega, Nat.le_refl _, by omega⟩; have U6 : Upd (· = w0.heap.size) w w6 := U3.no.trans u6 fun _ _ e => e; have cl : ∀ {w7 : World}, Upd (fun b => b = w0.heap.size \/ (b = w1.heap.size \/ b = w.heap.size)) w6 w7 -> Upd (· = w0.heap.size) w w7 := fun u => U6.trans u fun y hy h => by rcases h with h | h | h <;> omega
  refine ⟨_, c0.cell rfl, listT_w (I := Nm1 w0 w.heap.size w1.heap.size w.heap.size) P Z6 hl G ha1 (fun a N w w' S h u hs => h.keep u hs) (fun a a' N w h ha => h.up ha) (fun a N w h => h.own) (fun N a' w' K R Z' h _ ha' hk hr => ?_) I6 (fun w9 a9 p n c N9 h1 h2 Z9 I9 _ u9 => ?_) fun v w' g => hr v w' ⟨g.v, g.z, cl g.u⟩⟩
  . exact of_eq (params1_w P G hl hd Z' ha' h hk hr) (by kernel_rfl)
  . obtain ⟨nv, ns, hN, e2, e0, row, own, _⟩ := I9.ex; obtain ⟨q, m, cq, rfl, _⟩ := row.shape; refine ⟨_, _, _, rfl, q, m, cq, e2.cell rfl, stC_mk e2 (by simp) fun w16 B16 u16 _ => ⟨_, _, _, B16.cell rfl, hk _ _ _ _ _ _ w16 a9 (by omega) h2 ?_ ((cl u9).trans u16 fun y hy (e : y = _) => by omega)⟩⟩; exact ⟨Z9.up.trans u16 fun y hy (e : y = _) => by omega, Z9.blk.upd u16 (by omega)⟩
end
def wTrue : ByteArray := ByteArray.mk #[116, 114, 117, 101]
def wFalse : ByteArray := ByteArray.mk #[102, 97, 108, 115, 101]
def litL : List ByteArray := [wTrue, wFalse, wNil]
def litF (s : ByteArray) : Int := if s = wTrue then 3 else if s = wFalse then 4 else if s = wNil then 5 else 0
def litV : Value -> Value | .string s => .int .i64 (litF s) | _ => undef
theorem litL_nodup : litL.Nodup := by decide +kernel
section
variable {w0 : World} {tv : Value} {toks : List Tok}
theorem ptoken_w (P : P0 w0 tv toks) (hl : toks.length <= 900000) {d : Nat} {w : World} {a : Nat} {K : KV} (Z : Pz w0 tv w a d) (ha : a < toks.length)
    (hk : ∀ (q : Addr) w', toks[a].kind ≠ 0 -> Pz w0 tv w' (a + 1) d -> Upd (· = w0.heap.size) w w' -> K (.pointer (some q)) w') (hno : ∀ w', Upd No w w' -> K (.pointer none) w') :
    callC Tryz.prog 246 #[.pointer (some ⟨w0.heap.size, 0, none⟩)] w K := by
  have ht : toks[a]? = some toks[a] := List.getElem?_eq_getElem ha; generalize toks[a] = t at ht hk; have hwl := Z.lt; refine ptoken_text _ _ _ (next_c P Z ht fun w1 u1 => ⟨_, _, _, _, rfl, newC_mk fun w7 B7 u7 s7 => ?_⟩); have hlt : ∀ x, x < w1.heap.size -> x = w1.heap.size -> No x := fun x hx e => by omega
  refine stC_mk B7 (by simp) fun w8 B8 u8 _ => stC_mk B8 (by simp) fun w9 B9 u9 _ => stC_mk B9 (by simp) fun w10 B10 u10 _ => stC_mk B10 (by simp) fun w11 B11 u11 _ => ?_; have U11 : Upd No w w11 := up u1 ((((u7.trans u8 hlt).trans u9 hlt).trans u10 hlt).trans u11 hlt); refine ⟨_, B11.cell rfl, _, B11.cell rfl, _, B11.cell rfl, newC_mk fun w16 B16 u16 s16 => ?_⟩; have U16 := up U11 u16; have B6 := B11.upd u16 id; have z11 := U11.size; have z16 := u16.size; have hlt2 : ∀ x, x < w.heap.size -> x = w11.heap.size -> No x := fun x hx e => by omega
  refine ⟨fun w' => t.kind ≠ 0 /\ Upd No w w', fun w18 ⟨hkk, u18⟩ _ => ?_, ⟨_, B6.cell rfl, brC_intro (fun h3 => ?_) fun _ => ⟨_, B6.cell rfl, brC_intro (fun h4 => ?_) fun _ => ⟨_, B6.cell rfl, brC_intro (fun h1 => ?_) fun _ => ?_⟩⟩⟩⟩
  . have Z18 := Z.keep u18; refine ptrC_some ⟨_, by rw [add_mk]; exact Z18.blk.cell rfl, ptrC_some ?_⟩; rw [add_mk, wrap_succ (by omega)]; exact stC_mk Z18.blk (by simp) fun w23 B23 u23 _ => hk _ w23 hkk ⟨Z18.up.trans u23 fun y hy (e : y = _) => by omega, B23⟩ (u18.no.trans u23 fun _ _ e => e)
  . have h3 : t.kind = 3 := by simpa using h3
    exact stC_mk B16 (by simp) fun w25 B25 u25 _ => ⟨by omega, U16.trans u25 fun x hx e => hlt2 x hx e⟩
  . have h4 : t.kind = 4 := by simpa using h4
    exact stC_mk B16 (by simp) fun w25 B25 u25 _ => ⟨by omega, U16.trans u25 fun x hx e => hlt2 x hx e⟩
  . have h1 : t.kind = 1 := by simpa using h1
    exact stC_mk B16 (by simp) fun w25 B25 u25 _ => ⟨by omega, U16.trans u25 fun x hx e => hlt2 x hx e⟩
  . refine newC_mk fun w31 B31 u31 s31 => is_c P (Z.keep (up U16 u31)) ht (l := litL) (strs_row (rowL' (l := litL) B31 3 (by decide) (by decide))) (by decide) (by decide) fun w33 u33 => ⟨_, rfl, brC_intro (fun hb => ?_) fun _ => hno w33 (up (up U16 u31) u33)⟩; have hkk := isW_kind hb; have U33 := up (up U16 u31) u33; have z33 := U33.size; have hlt3 : ∀ x, x < w33.heap.size -> x = w33.heap.size -> No x := fun x hx e => by omega
    refine newM_mk (d := .string) (f := litV) fun w36 M1 v1 _ => ?_; refine update_out (f' := litV) undPl undS (by simp [IsKey]) M1 (nodup_take_notin litL_nodup (i := 0) (by decide)) _ (congrArg (Value.int .i64) (show litF _ = 3 by decide +kernel)) (fun _ _ _ => rfl) fun w38 M3 v3 _ => ?_; refine update_out (f' := litV) undPl undS (by simp [IsKey]) M3 (nodup_take_notin litL_nodup (i := 1) (by decide)) _ (congrArg (Value.int .i64) (show litF _ = 4 by decide +kernel)) (fun _ _ _ => rfl) fun w40 M5 v5 _ => ?_; refine update_out (f' := litV) undPl undS (by simp [IsKey]) M5 (nodup_take_notin litL_nodup (i := 2) (by decide)) _ (congrArg (Value.int .i64) (show litF _ = 5 by decide +kernel)) (fun _ _ _ => rfl) fun w42 M7 v7 _ => ?_; have V := ((v1.trans v3 hlt3).trans v5 hlt3).trans v7 hlt3; have V2 : Upd No w16 w42 := up (up u31 u33) V; have C6 := B6.upd V2 id; have C16 := B16.upd V2 id
    have fin : ∀ n45 : Int, stC w42 ⟨w11.heap.size, 0, none⟩ (.int .i64 n45) fun w46 => stC w46 ⟨w11.heap.size, 3, none⟩ (.string (ByteArray.mk #[])) fun w47 => t.kind ≠ 0 /\ Upd No w w47 := fun n =>
      stC_mk C16 (by simp) fun w46 B46 u46 _ => stC_mk B46 (by simp) fun w47 B47 u47 _ => ⟨hkk, ((up U16 V2).trans u46 fun x hx e => hlt2 x hx e).trans u47 fun x hx e => hlt2 x hx e⟩
    refine ⟨_, C6.cell rfl, ?_⟩
    by_cases hs : t.text ∈ litL
    . have hr := run_lookup_in undPl undS (k := .string t.text) (by simp [IsKey]) M7 (by
        have : Value.string t.text ∈ litL.map Value.string := List.mem_map_of_mem hs; exact this) false
      exact ⟨litV (.string t.text), ⟨litF t.text, rfl, fin _⟩, fun w' e => by cases e; exact hr⟩
    . have hr := run_lookup_out undPl undS (k := .string t.text) (by simp [IsKey]) M7 (fun h => hs (by
        have h : Value.string t.text ∈ litL.map Value.string := h; obtain ⟨x, hx, e⟩ := List.mem_map.1 h; cases e; exact hx)) (run_zero (P := Tryz.prog) (e := 3) (s := 1) (b := 8) (z := .int .i64 0) (by kernel_rfl) w42) false
      exact ⟨.int .i64 0, ⟨0, rfl, fin _⟩, fun w' e => by cases e; exact hr⟩
abbrev exprC (w0 : World) : World -> (Value -> WP) -> (Value -> WP) -> Prop := fun w K R => callX Tryz.prog 92 #[.pointer (some ⟨w0.heap.size, 0, none⟩)] w K R
abbrev primC (w0 : World) : World -> (Value -> WP) -> (Value -> WP) -> Prop := fun w K R => callX Tryz.prog 230 #[.pointer (some ⟨w0.heap.size, 0, none⟩)] w K R
abbrev postC (w0 : World) : World -> (Value -> WP) -> (Value -> WP) -> Prop := fun w K R => callX Tryz.prog 211 #[.pointer (some ⟨w0.heap.size, 0, none⟩)] w K R
abbrev unaC (w0 : World) : World -> (Value -> WP) -> (Value -> WP) -> Prop := fun w K R => callX Tryz.prog 188 #[.pointer (some ⟨w0.heap.size, 0, none⟩)] w K R
abbrev levC (w0 : World) (k : Nat) : World -> (Value -> WP) -> (Value -> WP) -> Prop := fun w K R => callX Tryz.prog 149 #[.pointer (some ⟨w0.heap.size, 0, none⟩), .int .i64 (k : Int)] w K R
theorem inside_w (P : P0 w0 tv toks) (G : Good toks) (hl : toks.length <= 900000) {n d : Nat} (hE : Ew w0 tv toks n d (exprC w0)) {w : World} {a : Nat} {K R : KV} (Z : Pz w0 tv w a d) (ha : a < toks.length) (hn : toks.length <= n + a + 1)
    (hk : ∀ (q : Option Addr) w' a', a < a' -> a' < toks.length -> Pz w0 tv w' a' d -> Upd (· = w0.heap.size) w w' -> K (.pointer q) w') (hr : ∀ v w', Gave w0 tv (· = w0.heap.size) w d v w' -> R v w') :
    callX Tryz.prog 248 #[.pointer (some ⟨w0.heap.size, 0, none⟩)] w K R := by
  have ht : toks[a]? = some toks[a] := List.getElem?_eq_getElem ha; refine inside_text _ _ _ _ (must_x P Z ht (by omega) (fun hy w1 Z1 u1 => ⟨rfl, hE w1 (a + 1) _ _ Z1 (G _ _ ht (isW_kind hy)) (by omega) (fun q w3 a3 h1 h2 Z3 u3 => ⟨_, rfl, ?_⟩) fun v w' g => hr v w' (g.from u1 fun _ _ e => e)⟩) fun _ => hr); have hq : toks[a3]? = some toks[a3] := List.getElem?_eq_getElem h2; have U3 := u1.trans u3 fun _ _ e => e; exact must_x P Z3 hq (by omega) (fun hy w6 Z6 u6 => ⟨rfl, hk q w6 (a3 + 1) (by omega) (G _ _ hq (isW_kind hy)) Z6 (U3.trans u6 fun _ _ e => e)⟩) fun _ v w' g => hr v w' (g.from U3 fun _ _ e => e)
theorem postfix_w (P : P0 w0 tv toks) (G : Good toks) (hl : toks.length <= 900000) {n d : Nat} (hE : Ew w0 tv toks n d (exprC w0)) (hP : Ew w0 tv toks (n + 1) d (primC w0)) : Ew w0 tv toks (n + 1) d (postC w0) := by
  intro w a K R Z ha hn hk hr; refine postfix_text _ _ _ _ (hP w a _ _ Z ha hn (fun q w1 a1 h1 h2 Z1 u1 => ⟨_, rfl, fun _ w' => ∃ a2, a < a2 /\ a2 < toks.length /\ Pz w0 tv w' a2 d /\ Upd (· = w0.heap.size) w w', fun _ w' => toks.length - atOf w' w0.heap.size, ⟨a1, h1, h2, Z1, u1⟩, ?_⟩) hr); rintro p5 w6 ⟨a2, ha2, hl2, Z6, U6⟩ _; have ht : toks[a2]? = some toks[a2] := List.getElem?_eq_getElem hl2; have hwl := Z.lt
  have ms : ∀ {w' a3}, Pz w0 tv w' a3 d -> a2 < a3 -> toks.length - atOf w' w0.heap.size < toks.length - atOf w6 w0.heap.size := fun h1 h2 => by
    rw [h1.at_, Z6.at_]; omega
  refine next_c P Z6 ht fun w9 u9 => ⟨_, _, _, _, rfl, newC_mk fun w15 B15 u15 _ => may_c P (Z6.keep (up u9 u15)) ht (by omega) (one_str B15) rfl (by decide) (fun hy w17 Z17 u17 => ⟨_, rfl, brC_tt rfl ?_⟩) fun _ w17 u17 => ⟨_, rfl, brC_ff rfl ?_⟩⟩
  . have U17 : Upd (· = w0.heap.size) w w17 := (U6.trans (up u9 u15) fun _ _ e => e.elim).trans u17 fun _ _ e => e; have hq1 := G _ _ ht (isW_kind hy); have hq : toks[a2 + 1]? = some toks[a2 + 1] := List.getElem?_eq_getElem hq1; refine name_x P Z17 hq (by omega) (fun h1 w20 Z20 u20 => ⟨_, rfl, newC_mk fun w23 B23 u23 _ => ⟨⟨a2 + 2, by omega, G _ _ hq (by omega), Z20.keep u23, (U17.trans u20 fun _ _ e => e).trans u23 fun _ _ e => e.elim⟩, ms (Z20.keep u23) (by omega)⟩⟩) fun _ v w' g => hr v w' (g.from U17 fun _ _ e => e)
  . have V17 := up (up u9 u15) u17; refine newC_mk fun w25 B25 u25 _ => may_c P (Z6.keep (up V17 u25)) ht (by omega) (one_str B25) rfl (by decide) (fun hy w27 Z27 u27 => ⟨_, rfl, brC_tt rfl ?_⟩) fun _ w27 u27 => ⟨_, rfl, brC_ff rfl (hk _ w27 a2 ha2 hl2 (Z6.keep (up (up V17 u25) u27)) (U6.trans (up (up V17 u25) u27) fun _ _ e => e.elim))⟩; have U27 : Upd (· = w0.heap.size) w w27 := (U6.trans (up V17 u25) fun _ _ e => e.elim).trans u27 fun _ _ e => e; have hq1 := G _ _ ht (isW_kind hy); have cl : ∀ {w7 : World}, Upd (fun b => b = w0.heap.size \/ False) w27 w7 -> Upd (· = w0.heap.size) w w7 := fun u => U27.trans u fun y hy h => by rcases h with h | h; exact h; exact h.elim
    refine listE_w (I := fun _ N _ => ∀ b, ¬ N b) (N := fun _ => False) P Z27 hl G hq1 (fun a N w w' S h u hs => h) (fun a a' N w h ha => h) (fun a N w h b hb => (h b hb).elim) (fun N a' w' K' R' Z' h ha1 ha' hk' hr' => ?_) (fun b h => h) (fun w30 a30 p n c N9 h1 h2 Z30 I30 _ u30 => ⟨_, _, _, rfl, newC_mk fun w35 B35 u35 _ => ⟨⟨a30, by omega, h2, Z30.keep u35, (cl u30).trans u35 fun _ _ e => e.elim⟩, ms (Z30.keep u35) (by omega)⟩⟩) fun v w' g => hr v w' ⟨g.v, g.z, cl g.u⟩; refine of_eq (hE w' a' K' R' Z' ha' (by omega) (fun q w2 a3 h1 h2 Z2 u2 => hk' q w2 a3 N h1 h2 Z2 h (fun b hb => (h b hb).elim) (u2.mono fun _ _ e => .inl e)) fun v w2 g => hr' v w2 ⟨g.v, g.z, g.u.mono fun _ _ e => .inl e⟩) (by kernel_rfl)
end
theorem int64R : Tryz.prog.underlying 3 = some (.int .i64) := by kernel_rfl
theorem mapRow : Tryz.prog.underlying 248 = some (.map 3 53) := by kernel_rfl
abbrev iR (k : Nat) : Value := .int .i64 (k : Int)
open Classical in
noncomputable def setV (f : Value -> Value) (k v : Value) : Value -> Value := fun x => if x = k then v else f x
theorem setV_in (f : Value -> Value) (k v : Value) : setV f k v k = v := by unfold setV; rw [if_pos rfl]
theorem setV_out (f : Value -> Value) {k x : Value} (v : Value) (h : x ≠ k) : setV f k v x = f x := by unfold setV; rw [if_neg h]
def Rows_ (w : World) (b n : Nat) : Prop := ∃ f, MapF (.int .i64) w b ((List.range n).map iR) f /\ ∀ i, i < n -> ∃ q m l, f (iR i) = .slice (some ⟨q, 0, none⟩) m m /\ StrsAt w (some ⟨q, 0, none⟩) l /\ m = l.length /\ m <= 1000 /\ b < q
theorem rows_step {w : World} {b n : Nat} (h : Rows_ w b n) {l : List ByteArray} {m : Nat} (hm : l.length = m) (hm3 : m <= 1000) {cs : Array Value} (hcs : cs = (l.map Value.string).toArray) {i : Int} (hi : i = (n : Int)) {K : WP}
    (hk : ∀ w', Rows_ w' b (n + 1) -> Upd (· = b) w w' -> K w') :
    newC w (Obj.cells cs 9) fun k w1 => runC Tryz.prog (Instr.mapUpdate 248 (.map (some b)) (.int .i64 i) (.slice (some (Addr.mk k 0 none)) m m)) w1 fun (_ : PUnit) w2 => K w2 := by
  subst hcs hi; obtain ⟨f, hM, hr⟩ := h; have hlt := hM.lt; refine newC_mk fun w1 B1 u1 s1 => ?_
  have hne : ∀ x ∈ (List.range n).map iR, x ≠ iR n := fun x hx e => by
    obtain ⟨j, hj, rfl⟩ := List.mem_map.1 hx; have := List.mem_range.1 hj; have e : (.int .i64 (j : Int) : Value) = .int .i64 (n : Int) := e; injection e with _ e; omega
  refine update_out (f' := setV f (iR n) (.slice (some ⟨w.heap.size, 0, none⟩) m m)) mapRow int64R (k := iR n) rfl (hM.upd u1 id) (fun h => hne _ h rfl) _ (setV_in _ _ _) (fun x hx _ => setV_out _ _ (hne x hx)) fun w2 M2 u2 _ => ?_; refine hk w2 ⟨setV f (iR n) (.slice (some ⟨w.heap.size, 0, none⟩) m m), ?_, fun i hi => ?_⟩ (u1.no.trans u2 fun _ _ e => e)
  . rw [List.range_succ, List.map_append]; exact M2
  . rcases Nat.lt_or_ge i n with h | h
    . obtain ⟨q, m', l', e, hs, h1, h2, h3⟩ := hr i h; refine ⟨q, m', l', by rw [setV_out _ _ (hne _ (List.mem_map_of_mem (List.mem_range.2 h)))]; exact e, ?_, h1, h2, h3⟩; intro j hj; obtain ⟨a, ea, hc⟩ := hs j hj; cases ea; have hc1 := cell_keep hc u1; refine ⟨_, rfl, ?_⟩; have hb := World.block_lt_of_cell? w1 _ hc1
      have hnb : (Addr.add ⟨q, 0, none⟩ (j * 1) : Addr).block ≠ b := fun e => by
        rw [add_mk] at e hc1; have e : q = b := e; subst e; obtain ⟨es, _, he, _⟩ := hM.upd u1 id; unfold World.cell? at hc1; dsimp only at hc1; rw [he] at hc1; cases hc1
      unfold World.cell? at hc1 ⊢; rw [u2.block _ hb hnb]; exact hc1
    . have : i = n := by omega
      subst this; exact ⟨w.heap.size, m, l, setV_in _ _ _, strs_row (rowL' (B1.upd u2 (by omega)) m hm hm3), hm.symm, hm3, hlt⟩
theorem Rows_.upd {w w' : World} {b n : Nat} (h : Rows_ w b n) {S : Nat -> Prop} (u : Upd S w w') (hs' : ∀ y, b <= y -> ¬ S y) : Rows_ w' b n := by
  obtain ⟨f, hM, hr⟩ := h; refine ⟨f, hM.upd u (hs' _ (Nat.le_refl _)), fun i hi => ?_⟩; obtain ⟨q, m', l', e, hs, h1, h2, h3⟩ := hr i hi; refine ⟨q, m', l', e, fun j hj => ?_, h1, h2, h3⟩; obtain ⟨a, ea, hc⟩ := hs j hj; cases ea; have hb := World.block_lt_of_cell? w _ hc; refine ⟨_, rfl, ?_⟩; rw [add_mk] at hc hb ⊢; unfold World.cell? at hc ⊢; rw [u.block _ hb (hs' q (Nat.le_of_lt h3))]; exact hc
section
variable {w0 : World} {tv : Value} {toks : List Tok}
theorem unary_w (P : P0 w0 tv toks) (hl : toks.length <= 900000) (G : Good toks) {n : Nat} {d : Nat} (hd : d <= 1000) (hU : ∀ d, d <= 1000 -> Ew w0 tv toks n d (unaC w0)) (hP : Ew w0 tv toks (n + 1) d (postC w0)) : Ew w0 tv toks (n + 1) d (unaC w0) := by
  intro w a K R Z ha hn hk hr; have ht : toks[a]? = some toks[a] := List.getElem?_eq_getElem ha; have hwl := Z.lt; refine unary_text _ _ _ _ (next_c P Z ht fun w1 u1 => ⟨_, _, _, _, rfl, newC_mk fun w7 B7 u7 s7 => ?_⟩); have hlt : ∀ x, x < w1.heap.size -> x = w1.heap.size -> No x := fun x hx e => by omega
  refine stC_mk B7 (by simp) fun w8 B8 u8 _ => stC_mk B8 (by simp) fun w9 B9 u9 _ => stC_mk B9 (by simp) fun w10 B10 u10 _ => stC_mk B10 (by simp) fun w11 B11 u11 _ => ?_; have U11 : Upd No w w11 := up u1 ((((u7.trans u8 hlt).trans u9 hlt).trans u10 hlt).trans u11 hlt); have z1 := u1.size; refine newC_mk fun w13 B13 u13 s13 => may_c P (Z.keep (up U11 u13)) ht (by omega) (l := [ByteArray.mk #[110, 111, 116], ByteArray.mk #[45]]) (strs_row (rowL' (l := [ByteArray.mk #[110, 111, 116], ByteArray.mk #[45]]) B13 2 rfl (by decide))) rfl (by decide) (fun hy w15 Z15 u15 => ⟨_, rfl, brC_ff rfl (drawC_mk fun w20 u20 _ => ?_)⟩) fun _ w15 u15 => ⟨_, rfl, brC_tt rfl ?_⟩
  . have U15 : Upd (· = w0.heap.size) w w15 := (up U11 u13).no.trans u15 fun _ _ e => e; have B20 := ((B11.upd u13 id).upd u15 (by omega)).upd u20 id; have Z20 := Z15.keep u20; have U20 := U15.trans u20 fun _ _ e => e.elim; have ha1 := G _ _ ht (isW_kind hy); refine ⟨fun w' => Blk w' w1.heap.size #[.int .i64 toks[a].kind, .string toks[a].text, .int .i64 toks[a].n, .int .i64 (toks[a].at_ : Int)] 114, _, B20.cell rfl, fun w' h => lds_i (h.cell rfl), _, B20.cell rfl, fun w' h => lds_str (h.cell rfl), ?_, trivial⟩; refine within_w P hd Z20 ha1 (fun w6 K' R' Z6 h40 U6 hk' hr' => of_eq (hU (d + 1) (by omega) w6 (a + 1) K' R' Z6 ha1 (by omega) hk' hr') (by kernel_rfl)) (fun q w27 a27 h1 h2 Z27 u27 => ?_) fun v w' g => hr v w' (g.from U20 fun _ _ e => e); have B27 := B20.upd u27 (by omega); exact ⟨_, rfl, B27, newC_mk fun w30 B30 u30 _ => ⟨B27.upd u30 id, hk _ w30 a27 (by omega) h2 (Z27.keep u30) ((U20.trans u27 fun _ _ e => e).trans u30 fun _ _ e => e.elim)⟩, trivial⟩
  . have V := up (up U11 u13) u15; exact hP w15 a _ _ (Z.keep V) ha hn (fun q w' a' h1 h2 Z' u' => ⟨_, rfl, hk q w' a' h1 h2 Z' (V.no.trans u' fun _ _ e => e)⟩) fun v w' g => hr v w' (g.from V.no fun _ _ e => e)
theorem level_w (P : P0 w0 tv toks) (hl : toks.length <= 900000) (G : Good toks) {n : Nat} {d : Nat} (hU : Ew w0 tv toks n d (unaC w0)) : ∀ k, k <= 5 -> (k < 5 -> Ew w0 tv toks n d (levC w0 (k + 1))) -> Ew w0 tv toks n d (levC w0 k) := by
  intro k hk5 hL w a K R Z ha hn hk hr; have hwl := Z.lt; refine level_text _ _ _ _ _ (newM_mk (d := .int .i64) (f := fun _ => undef) fun w1 M1 u1 s1 => ?_); have hlt : ∀ x, x < w.heap.size -> x = w.heap.size -> No x := fun x hx e => by omega
  refine rows_step (n := 0) (l := [ByteArray.mk #[111, 114]]) ⟨_, M1, fun i hi => by omega⟩ rfl (by decide) rfl rfl fun w5 M5 u5 => ?_; refine rows_step (n := 1) (l := [ByteArray.mk #[97, 110, 100]]) M5 rfl (by decide) rfl rfl fun w9 M9 u9 => ?_; refine rows_step (n := 2) (l := [ByteArray.mk #[61, 61], ByteArray.mk #[60]]) M9 rfl (by decide) rfl rfl fun w13 M13 u13 => ?_; refine rows_step (n := 3) (l := [ByteArray.mk #[43], ByteArray.mk #[45], ByteArray.mk #[46, 46]]) M13 rfl (by decide) rfl rfl fun w17 M17 u17 => ?_; refine rows_step (n := 4) (l := [ByteArray.mk #[42]]) M17 rfl (by decide) rfl rfl fun w21 M21 u21 => ?_; have U21 : Upd No w w21 := ((((u1.trans u5 hlt).trans u9 hlt).trans u13 hlt).trans u17 hlt).trans u21 hlt; have klt : w.heap.size < w21.heap.size := by obtain ⟨f, hM, _⟩ := M21; exact hM.lt
  generalize hk0 : w.heap.size = k0 at M21 klt ⊢; clear u1 u5 u9 u13 u17 u21 M1 M5 M9 M13 M17; have hlen := M21; obtain ⟨f0, hM0, _⟩ := hlen; refine ⟨.int .i64 (5 : Nat), ⟨5, rfl, brC_intro (fun h5 => ?_) fun h5 => ?_⟩, fun w' e => by cases e; exact run_len mapRow hM0 _⟩
  . exact hU w21 a _ _ (Z.keep U21) ha hn (fun q w' a' h1 h2 Z' u' => ⟨_, rfl, hk q w' a' h1 h2 Z' (U21.no.trans u' fun _ _ e => e)⟩) fun v w' g => hr v w' (g.from U21.no fun _ _ e => e)
  have hk4 : k < 5 := by
    have : ¬ (k : Int) = 5 := by simpa using h5
    omega
  have nP : ∀ y, k0 <= y -> ¬ y = w0.heap.size := fun y hy e => by omega
  rw [wrap_succ (by omega)]; refine hL hk4 w21 a _ _ (Z.keep U21) ha hn (fun q w28 a28 h1 h2 Z28 u28 => ⟨_, rfl, fun _ w' => ∃ a2, a < a2 /\ a2 < toks.length /\ Pz w0 tv w' a2 d /\ Rows_ w' k0 5 /\ Upd (· = w0.heap.size) w w', fun _ w' => toks.length - atOf w' w0.heap.size, ⟨a28, h1, h2, Z28, M21.upd u28 nP, U21.no.trans u28 fun _ _ e => e⟩, ?_⟩) fun v w' g => hr v w' (g.from U21.no fun _ _ e => e); rintro p32 w33 ⟨a2, ha2, hl2, Z33, M33, U33⟩ _; have ht : toks[a2]? = some toks[a2] := List.getElem?_eq_getElem hl2; have z33 := U33.size; refine next_c P Z33 ht fun w36 u36 => ⟨_, _, _, _, rfl, newC_mk fun w42 B42 u42 s42 => ?_⟩; have z36 := u36.size; have hlt2 : ∀ x, x < w33.heap.size -> x = w36.heap.size -> No x := fun x hx e => by omega
  have nR : ∀ y, k0 <= y -> ¬ No y := fun _ _ h => h; refine stC_mk B42 (by simp) fun w43 B43 u43 _ => stC_mk B43 (by simp) fun w44 B44 u44 _ => stC_mk B44 (by simp) fun w45 B45 u45 _ => stC_mk B45 (by simp) fun w46 B46 u46 _ => ?_; have U46 : Upd No w33 w46 := ((((up u36 u42).trans u43 hlt2).trans u44 hlt2).trans u45 hlt2).trans u46 hlt2; have M46 := M33.upd U46 nR; obtain ⟨f, hM, hrow⟩ := id M46; obtain ⟨q, m, l, hq, hs, hm1, hm2, _⟩ := hrow k hk4; have hr46 := run_lookup_in mapRow int64R (k := iR k) rfl hM (List.mem_map_of_mem (List.mem_range.2 hk4)) false; refine ⟨f (iR k), ?_, fun w' e => by cases e; exact hr46⟩; rw [hq]; refine ⟨_, _, _, rfl, may_c P (Z33.keep U46) ht (by omega) hs hm1 hm2 (fun hy w52 Z52 u52 => ⟨_, rfl, brC_ff rfl (drawC_mk fun w54 u54 _ => ?_)⟩) fun _ w52 u52 => ⟨_, rfl, brC_tt rfl (hk _ w52 a2 ha2 hl2 (Z33.keep (up U46 u52)) (U33.trans (up U46 u52) fun _ _ e => e.elim))⟩⟩; have U54 : Upd (· = w0.heap.size) w33 w54 := (U46.no.trans u52 fun _ _ e => e).trans u54 fun _ _ e => e.elim; have B54 := (B46.upd u52 (by omega)).upd u54 id; have M54 := M33.upd U54 nP; have ha3 := G _ _ ht (isW_kind hy); refine ⟨fun w' => Blk w' w36.heap.size #[.int .i64 toks[a2].kind, .string toks[a2].text, .int .i64 toks[a2].n, .int .i64 (toks[a2].at_ : Int)] 114, _, B54.cell rfl, fun w' h => lds_i (h.cell rfl), _, B54.cell rfl, fun w' h => lds_str (h.cell rfl), ?_, trivial⟩; refine hL hk4 w54 (a2 + 1) _ _ (Z52.keep u54) ha3 (by omega) (fun q w61 a61 h1 h2 Z61 u61 => ?_) fun v w' g => hr v w' (g.from (U33.trans U54 fun _ _ e => e) fun _ _ e => e); have B61 := B54.upd u61 (by omega); refine ⟨_, rfl, B61, newC_mk fun w64 B64 u64 _ => ⟨B61.upd u64 id, ⟨a61, by omega, h2, Z61.keep u64, (M54.upd u61 nP).upd u64 nR, ((U33.trans U54 fun _ _ e => e).trans u61 fun _ _ e => e).trans u64 fun _ _ e => e.elim⟩, ?_⟩, trivial⟩; show toks.length - atOf w64 w0.heap.size < toks.length - atOf w33 w0.heap.size; rw [(Z61.keep u64).at_, Z33.at_]; omega
end
theorem lds_ex {w : World} {a : Addr} {p : Option Addr} (h : w.cell? a = some (.pointer p)) : Lds Tryz.prog 52 w a (.pointer p) := by
  have key : (∃ p', w.cell? a = some (.pointer p') /\ .pointer p' = Value.pointer p) = ldVC Tryz.prog 52 w a (fun v => v = .pointer p) := by kernel_rfl
  obtain ⟨v, rfl, hr⟩ := semR_out (ldVC_sound (of_eq ⟨_, h, rfl⟩ key)); exact hr w rfl
structure Nm2 (w0 : World) (n0 k13 k15 k0 : Nat) (p : Int) (a : Nat) (N : Nat -> Prop) (w : World) : Prop where
  ex : ∃ (nv : Value) (ns : List ByteArray), (∀ b, N b ↔ b = k13 \/ b = k15 \/ b = k0 \/ InRow nv b) /\ Blk w k13 #[.int .i64 8, .int .i64 p, .int .i64 0, .string (ByteArray.mk #[]), .pointer none, .pointer none, .pointer none, .pointer none, nv, .slice none 0 0, .slice none 0 0] 214 /\
    Blk w k15 #[.pointer (some ⟨k13, 0, none⟩)] 52 /\ Blk w k0 #[.pointer (some ⟨w0.heap.size, 0, none⟩)] 110 /\ RowAt w idx.str 1 nv (ns.map Value.string) /\ (∀ b, InRow nv b -> n0 <= b /\ b ≠ k0 /\ b ≠ k13 /\ b ≠ k15) /\ ns.length <= a
  d : w0.heap.size < n0 /\ n0 <= k0 /\ k0 < k13 /\ k13 < k15
theorem Nm2.keep {w0 : World} {n0 k13 k15 k0 a : Nat} {p : Int} {N : Nat -> Prop} {w w' : World} {S : Nat -> Prop} (h : Nm2 w0 n0 k13 k15 k0 p a N w) (u : Upd S w w') (hs : ∀ b, N b -> ¬ S b) : Nm2 w0 n0 k13 k15 k0 p a N w' := by
  obtain ⟨nv, ns, h1, h2, h3, h4, h5, h6, h7⟩ := h.ex; exact ⟨⟨nv, ns, h1, h2.upd u (hs _ ((h1 _).2 (.inl rfl))), h3.upd u (hs _ ((h1 _).2 (.inr (.inl rfl)))), h4.upd u (hs _ ((h1 _).2 (.inr (.inr (.inl rfl))))), h5.upd u fun b hb => hs _ ((h1 _).2 (.inr (.inr (.inr hb)))), h6, h7⟩, h.d⟩
theorem Nm2.up {w0 : World} {n0 k13 k15 k0 a a' : Nat} {p : Int} {N : Nat -> Prop} {w : World} (h : Nm2 w0 n0 k13 k15 k0 p a N w) (ha : a <= a') : Nm2 w0 n0 k13 k15 k0 p a' N w := by
  obtain ⟨nv, ns, h1, h2, h3, h4, h5, h6, h7⟩ := h.ex; exact ⟨⟨nv, ns, h1, h2, h3, h4, h5, h6, by omega⟩, h.d⟩
theorem Nm2.own {w0 : World} {n0 k13 k15 k0 a : Nat} {p : Int} {N : Nat -> Prop} {w : World} (h : Nm2 w0 n0 k13 k15 k0 p a N w) : ∀ b, N b -> b < w.heap.size /\ w0.heap.size < b := fun b hb => by
  obtain ⟨nv, ns, h1, h2, h3, h4, h5, h6, h7⟩ := h.ex; have := h.d; rcases (h1 b).1 hb with rfl | rfl | rfl | h
  . exact ⟨h2.lt, by omega⟩
  . exact ⟨h3.lt, by omega⟩
  . exact ⟨h4.lt, by omega⟩
  . exact ⟨h5.lt h, by have := (h6 b h).1; omega⟩
section
variable {w0 : World} {tv : Value} {toks : List Tok}
theorem primary1_w (P : P0 w0 tv toks) (G : Good toks) (hl : toks.length <= 900000) {n d : Nat} (hE : Ew w0 tv toks n d (exprC w0)) {n0 k13 k15 k0 : Nat} {pp : Int} {w : World} {a : Nat} {N : Nat -> Prop} {K R : KV} (Z : Pz w0 tv w a d) (ha : a < toks.length) (hna : toks.length <= n + a) (h : Nm2 w0 n0 k13 k15 k0 pp a N w)
    (hk : ∀ (q : Option Addr) w' a1 N', a < a1 -> a1 < toks.length -> Pz w0 tv w' a1 d -> Nm2 w0 n0 k13 k15 k0 pp a1 N' w' -> (∀ b, N' b -> N b \/ w.heap.size <= b) -> Upd (fun b => b = w0.heap.size \/ N b) w w' -> K (.pointer q) w')
    (hr : ∀ v w', Gave w0 tv (fun b => b = w0.heap.size \/ N b) w d v w' -> R v w') :
    callX Tryz.prog 247 #[.pointer (some ⟨k15, 0, none⟩), .pointer (some ⟨k0, 0, none⟩)] w K R := by
  have ht : toks[a]? = some toks[a] := List.getElem?_eq_getElem ha; obtain ⟨nv, ns, hN, b13, b15, b0, row, own, hns⟩ := h.ex; obtain ⟨hd0, hd1, hd2, hd3⟩ := h.d; obtain ⟨p, m, cp, rfl, hn, hnc, hcm⟩ := row.shape; rw [List.length_map, Nat.mul_one] at hn; refine primary1_text _ _ _ _ _ _ _ ⟨fun w' => a + 1 < toks.length /\ ∃ N', Pz w0 tv w' (a + 1) d /\ Nm2 w0 n0 k13 k15 k0 pp (a + 1) N' w' /\ (∀ b, N' b -> N b \/ w.heap.size <= b) /\ Upd (fun b => b = w0.heap.size \/ N b) w w', ?_, drawC_mk fun w10 u10 _ => ?_⟩
  . rintro w1 ⟨ha1, N', Z1, I1, sub, u1⟩ _; obtain ⟨nv1, ns1, hN1, c13, c15, c0, _⟩ := I1.ex; have hq : toks[a + 1]? = some toks[a + 1] := List.getElem?_eq_getElem ha1; refine ⟨_, c0.cell rfl, must_x P Z1 hq (by omega) (fun hy w5 Z5 u5 => ⟨rfl, _, (c0.upd u5 (by omega)).cell rfl, ?_⟩) fun _ v w' g => hr v w' (g.from u1 fun _ _ e => .inl e)⟩; have I5 : Nm2 w0 n0 k13 k15 k0 pp (a + 2) N' w5 := (I1.keep u5 fun b hb e => by have := (I1.own b hb).2; omega).up (by omega); have U5 : Upd (fun b => b = w0.heap.size \/ N b) w w5 := u1.trans u5 fun _ _ e => .inl e; exact hE w5 (a + 2) _ _ Z5 (G _ _ hq (isW_kind hy)) (by omega) (fun q w8 a8 h1 h2 Z8 u8 => ⟨_, rfl, hk q w8 a8 N' (by omega) h2 Z8 ((I5.keep u8 fun b hb e => by have := (I5.own b hb).2; omega).up (by omega)) sub (U5.trans u8 fun _ _ e => .inl e)⟩) fun v w' g => hr v w' (g.from U5 fun _ _ e => .inl e)
  have c13 := b13.upd u10 id; have c15 := b15.upd u10 id; have c0 := b0.upd u10 id
  refine ⟨fun w' => Blk w' k15 #[.pointer (some ⟨k13, 0, none⟩)] 52 /\ Blk w' k0 #[.pointer (some ⟨w0.heap.size, 0, none⟩)] 110 /\ Blk w' k13 #[.int .i64 8, .int .i64 pp, .int .i64 0, .string (ByteArray.mk #[]), .pointer none, .pointer none, .pointer none, .pointer none, .slice p m cp, .slice none 0 0, .slice none 0 0] 214,
    _, c15.cell rfl, fun w' h => lds_ex (h.1.cell rfl), _, c15.cell rfl, fun w' h => lds_ex (h.1.cell rfl), ptrC_some ⟨p, m, cp, by rw [add_mk]; exact c13.cell rfl, fun w' h => lds_strs (by rw [add_mk]; exact h.2.2.cell rfl), _, c0.cell rfl, fun w' h => lds_px (h.2.1.cell rfl), ?_, trivial⟩⟩
  refine name_x P (Z.keep u10) ht (by omega) (fun h1 w24 Z24 u24 => ⟨_, rfl, ⟨c15.upd u24 (by omega), c0.upd u24 (by omega), c13.upd u24 (by omega)⟩, newC_mk fun w27 B27 u27 s27 => ⟨⟨(c15.upd u24 (by omega)).upd u27 id, (c0.upd u24 (by omega)).upd u27 id, (c13.upd u24 (by omega)).upd u27 id⟩, ?_, trivial⟩, trivial⟩) fun _ v w' g => hr v w' (g.from u10.no fun _ _ e => .inl e); have d15 := (c15.upd u24 (by omega)).upd u27 id; have d0 := (c0.upd u24 (by omega)).upd u27 id; have d13 := (c13.upd u24 (by omega)).upd u27 id; have r27 := ((row.upd u10 fun _ _ h => h).upd u24 fun b hb e => by have := (own b hb).1; omega).upd u27 fun _ _ h => h; have hnr := row_cap r27; have b0lt := b0.lt; have b13lt := b13.lt; have b15lt := b15.lt; have z10 := u10.size; have z24 := u24.size; refine grow_row elemStr (n0 := n0) ⟨r27, fun b hb => (own b hb).1, hnr.1, hnr.2⟩ (by omega) (row_one B27) (by intro u hu; simp at hu; subst hu; rfl) (by omega) (by simp; omega) fun p' n' c' w29 o29 _ hin29 u29 => ?_; have e15 := d15.upd u29 (fun h => (own _ h).2.2.2 rfl); have e0 := d0.upd u29 (fun h => (own _ h).2.1 rfl); have e13 := d13.upd u29 (fun h => (own _ h).2.2.1 rfl); have nk : ¬ InRow (.slice p m cp) w0.heap.size := fun h => by have := (own _ h).1; omega
  refine ⟨⟨e15, e0, e13⟩, ptrC_some ⟨?_, trivial⟩⟩; rw [add_mk]
  have own' : ∀ b, InRow (.slice p' n' c') b -> n0 <= b /\ b ≠ k0 /\ b ≠ k13 /\ b ≠ k15 := fun b hb => by
    rcases hin29 _ hb with h | h
    . exact own b h
    . exact ⟨by omega, by omega, by omega, by omega⟩
  refine stC_mk e13 (by simp) fun w34 B34 u34 _ => ⟨G _ _ ht (by omega), fun b => b = k13 \/ b = k15 \/ b = k0 \/ InRow (.slice p' n' c') b, ?_, ⟨⟨_, ns ++ [toks[a].text], fun b => Iff.rfl, B34, e15.upd u34 (by omega), e0.upd u34 (by omega), ?_, own', by simp; omega⟩, hd0, hd1, hd2, hd3⟩, ?_, ?_⟩
  . exact ⟨((Z24.keep u27).up.trans u29 fun y hy h => by have := (own y h).1; omega).trans u34 fun y hy (e : y = _) => by omega, ((Z24.keep u27).blk.upd u29 nk).upd u34 (by omega)⟩
  . have := o29.row.upd u34 fun b hb (e : b = k13) => (own' b hb).2.2.1 e; simpa using this
  . rintro b (rfl | rfl | rfl | hb)
    . exact .inl ((hN _).2 (.inl rfl))
    . exact .inl ((hN _).2 (.inr (.inl rfl)))
    . exact .inl ((hN _).2 (.inr (.inr (.inl rfl))))
    . rcases hin29 _ hb with h | h
      . exact .inl ((hN _).2 (.inr (.inr (.inr h))))
      . exact .inr (by omega)
  . exact (((u10.no.trans u24 fun _ _ e => Or.inl e).trans u27 fun _ _ h => h.elim).trans u29 fun y _ h => .inr ((hN y).2 (.inr (.inr (.inr h))))).trans u34 fun y _ e => .inr ((hN y).2 (.inl e))
end
theorem namedF_at {ts : List Tok} {a : Nat} {x : Wt} {a1 : Nat} (e : namedF ts a = some (x, a1)) : a < a1 /\ a1 < ts.length := by
  unfold namedF at e; split at e
  case h_2 => cases e
  rename_i t q ht hq; have := (List.getElem?_eq_some_iff.1 hq).1; split at e
  case isFalse => cases e
  split at e
  . split at e
    case h_2 => cases e
    rename_i u v hu hv; have := (List.getElem?_eq_some_iff.1 hv).1; split at e
    . cases e; exact ⟨by omega, by omega⟩
    . cases e
  . cases e; exact ⟨by omega, by omega⟩
section
variable {w0 : World} {tv : Value} {toks : List Tok}
theorem named_w (P : P0 w0 tv toks) (G : Good toks) (hl : toks.length <= 900000) {d : Nat} {w : World} {a : Nat} {K R : KV} (Z : Pz w0 tv w a d) (ha : a < toks.length)
    (hk : ∀ (q : Option Addr) w' a', a < a' -> a' < toks.length -> Pz w0 tv w' a' d -> Upd (· = w0.heap.size) w w' -> K (.pointer q) w') (hr : ∀ v w', Gave w0 tv (· = w0.heap.size) w d v w' -> R v w') :
    callX Tryz.prog 186 #[.pointer (some ⟨w0.heap.size, 0, none⟩)] w K R :=
  named_x P G Z (List.getElem?_eq_getElem ha) hl (fun x a' e w' q Z' _ u => hk q w' a' (namedF_at e).1 (namedF_at e).2 Z' u) fun _ => hr
structure PQ (w0 : World) (tv : Value) (toks : List Tok) (w : World) (k0 k13 k15 d a a' : Nat) (w' : World) : Prop where
  z : Pz w0 tv w' a' d
  b0 : Blk w' k0 #[.pointer (some ⟨w0.heap.size, 0, none⟩)] 110
  b15 : Blk w' k15 #[.pointer (some ⟨k13, 0, none⟩)] 52
  b13 : ∃ cs : Array Value, Blk w' k13 cs 214 /\ cs.size = 11
  u : Upd (· = w0.heap.size) w w'
  at_ : a <= a' /\ a' < toks.length
  d : w0.heap.size < w.heap.size /\ w.heap.size <= k0 /\ k0 < k13 /\ k13 < k15
section
variable {w w1 w2 : World} {k0 k13 k15 d a a' : Nat}
theorem PQ.keep (h : PQ w0 tv toks w k0 k13 k15 d a a' w1) (u : Upd No w1 w2) : PQ w0 tv toks w k0 k13 k15 d a a' w2 := by
  obtain ⟨cs, c1, c2⟩ := h.b13; exact ⟨h.z.keep u, h.b0.upd u id, h.b15.upd u id, ⟨cs, c1.upd u id, c2⟩, h.u.trans u fun _ _ e => e.elim, h.at_, h.d⟩
theorem PQ.step (h : PQ w0 tv toks w k0 k13 k15 d a a' w1) {a2 : Nat} (z : Pz w0 tv w2 a2 d) (u : Upd (· = w0.heap.size) w1 w2) (h1 : a' <= a2) (h2 : a2 < toks.length) : PQ w0 tv toks w k0 k13 k15 d a a2 w2 := by
  obtain ⟨cs, c1, c2⟩ := h.b13; have := h.d; exact ⟨z, h.b0.upd u (by omega), h.b15.upd u (by omega), ⟨cs, c1.upd u (by omega), c2⟩, h.u.trans u fun _ _ e => e, ⟨by have := h.at_; omega, h2⟩, h.d⟩
theorem PQ.st (h : PQ w0 tv toks w k0 k13 k15 d a a' w1) {i : Nat} (hi : i < 11) {v : Value} {K : WP} (hk : ∀ w2, PQ w0 tv toks w k0 k13 k15 d a a' w2 -> K w2) : stC w1 ⟨k13, i, none⟩ v K := by
  obtain ⟨cs, c1, c2⟩ := h.b13; have := h.d; exact stC_mk c1 (by omega) fun w2 B u _ => hk w2 ⟨⟨h.z.up.trans u fun y hy (e : y = _) => by omega, h.z.blk.upd u (by omega)⟩, h.b0.upd u (by omega), h.b15.upd u (by omega), ⟨_, B, by simp [c2]⟩, h.u.trans u fun y hy (e : y = _) => by omega, h.at_, h.d⟩
def PR (w0 : World) (k0 k13 k15 : Nat) (w' : World) : Prop := Blk w' k0 #[.pointer (some ⟨w0.heap.size, 0, none⟩)] 110 /\ Blk w' k15 #[.pointer (some ⟨k13, 0, none⟩)] 52
theorem PQ.r (h : PQ w0 tv toks w k0 k13 k15 d a a' w1) : PR w0 k0 k13 k15 w1 := ⟨h.b0, h.b15⟩
theorem PQ.tok (h : PQ w0 tv toks w k0 k13 k15 d a a' w1) : toks[a']? = some (toks[a']'h.at_.2) := List.getElem?_eq_getElem h.at_.2
end
theorem primary_w (P : P0 w0 tv toks) (G : Good toks) (hl : toks.length <= 900000) {n d : Nat} (hd : d <= 1000) (hE : Ew w0 tv toks n d (exprC w0)) : Ew w0 tv toks (n + 1) d (primC w0) := by
  intro w a K R Z ha hn hk hr; have ht : toks[a]? = some toks[a] := List.getElem?_eq_getElem ha; have hwl := Z.lt; refine primary_text _ _ _ _ (newC_mk fun w1 B1 u1 s1 => ⟨_, B1.cell rfl, ptoken_w P hl (Z.keep u1) ha (fun q w' hkk Z' u' => ⟨_, rfl, brC_tt rfl (hk _ w' (a + 1) (by omega) (G _ _ ht hkk) Z' (u1.no.trans u' fun _ _ e => e))⟩) fun w4 u4 => ⟨none, rfl, brC_ff rfl ?_⟩⟩); have U4 := up u1 u4; refine ⟨_, (B1.upd u4 id).cell rfl, next_c P (Z.keep U4) ht fun w8 u8 => ⟨_, _, _, _, rfl, newC_mk fun w14 B14 u14 s14 => newC_mk fun w16 B16 u16 s16 => ?_⟩⟩; have z4 := U4.size; have z41 := u4.size; have z8 := u8.size; have hlt : ∀ x, x < w.heap.size -> x = w14.heap.size -> No x := fun x hx e => by omega
  refine stC_mk B16 (by simp) fun w17 B17 u17 s17 => ?_; have U17 : Upd No w w17 := (up (up U4 u8) (up u14 u16)).trans u17 fun x hx e => hlt x hx e; have c13 := (B14.upd u16 id).upd u17 (by omega); have c0 := (((B1.upd u4 id).upd u8 id).upd (up u14 u16) id).upd u17 (by omega); have Q17 : PQ w0 tv toks w w.heap.size w8.heap.size w14.heap.size d a a w17 := ⟨Z.keep U17, c0, B17, ⟨_, c13, rfl⟩, U17.no, ⟨Nat.le_refl _, ha⟩, hwl, Nat.le_refl _, by omega, by omega⟩; have L15 : ∀ w', PR w0 w.heap.size w8.heap.size w14.heap.size w' -> Lds Tryz.prog 52 w' ⟨w14.heap.size, 0, none⟩ (.pointer (some ⟨w8.heap.size, 0, none⟩)) := fun w' h => lds_ex (h.2.cell rfl); have L0 : ∀ w', PR w0 w.heap.size w8.heap.size w14.heap.size w' -> Lds Tryz.prog 110 w' ⟨w.heap.size, 0, none⟩ (.pointer (some ⟨w0.heap.size, 0, none⟩)) := fun w' h => lds_px (h.1.cell rfl); have gv : ∀ {a' w1 S} {v w'}, PQ w0 tv toks w w.heap.size w8.heap.size w14.heap.size d a a' w1 -> Gave w0 tv S w1 d v w' -> (∀ x, x < w.heap.size -> S x -> x = w0.heap.size) -> R v w' := fun q g hs => hr _ _ (g.from q.u hs); refine ⟨fun w' => ∃ a', a < a' /\ PQ w0 tv toks w w.heap.size w8.heap.size w14.heap.size d a a' w', fun w19 ⟨a', h1, q⟩ _ => ⟨_, q.b15.cell rfl, hk _ w19 a' h1 q.at_.2 q.z q.u⟩, ⟨_, Q17.b0.cell rfl, ?_⟩⟩; refine newC_mk fun w24 B24 u24 _ => may_c P (Q17.keep u24).z ht (by omega) (one_str B24) rfl (by decide) (fun hy w26 Z26 u26 => ⟨_, rfl, brC_tt rfl ?_⟩) fun _ w26 u26 => ⟨_, rfl, brC_ff rfl ?_⟩
  . -- a record
    have ha1 := G _ _ ht (isW_kind hy); have c13' := (c13.upd u24 id).upd u26 (by omega); have Q26 := (Q17.keep u24).step Z26 u26 (by omega) ha1; refine ⟨_, Q26.b15.cell rfl, ptrC_some (stC_mk c13' (by simp) fun w30 B30 u30 _ => drawC_mk fun w31 u31 _ => ?_)⟩; have Z30 : Pz w0 tv w30 (a + 1) d := ⟨Z26.up.trans u30 fun y hy (e : y = _) => by omega, Z26.blk.upd u30 (by omega)⟩; have Q31 : PQ w0 tv toks w w.heap.size w8.heap.size w14.heap.size d a (a + 1) w31 := PQ.keep ⟨Z30, Q26.b0.upd u30 (by omega), Q26.b15.upd u30 (by omega), ⟨_, B30, rfl⟩, Q26.u.trans u30 fun y hy (e : y = _) => by omega, Q26.at_, Q26.d⟩ u31; refine ⟨PR w0 w.heap.size w8.heap.size w14.heap.size, _, Q31.b15.cell rfl, L15, _, Q31.b0.cell rfl, L0, ?_, trivial⟩; have I31 : Nm2 w0 w.heap.size w8.heap.size w14.heap.size w.heap.size (toks[a].at_ : Int) (a + 1) (fun b => b = w8.heap.size \/ b = w14.heap.size \/ b = w.heap.size) w31 := ⟨⟨.slice none 0 0, [], fun b => ⟨fun h => h.imp id fun h => h.imp id .inl, fun h => h.imp id fun h => h.imp id fun h => h.elim id fun h => (no_in b h).elim⟩, B30.upd u31 id, Q31.b15, Q31.b0, RowAt.nil _ _ _, fun b hb => (no_in b hb).elim, Nat.zero_le _⟩, hwl, Nat.le_refl _, by omega, by omega⟩; have cl : ∀ {w7 : World}, Upd (fun b => b = w0.heap.size \/ (b = w8.heap.size \/ b = w14.heap.size \/ b = w.heap.size)) w31 w7 -> Upd (· = w0.heap.size) w w7 := fun u => Q31.u.trans u fun y hy h => by rcases h with h | h | h | h <;> omega
    refine listE_w (I := Nm2 w0 w.heap.size w8.heap.size w14.heap.size w.heap.size (toks[a].at_ : Int)) P Q31.z hl G ha1 (fun a N w w' S h u hs => h.keep u hs) (fun a a' N w h ha => h.up ha) (fun a N w h => h.own) (fun N a' w' K' R' Z' h h1 ha' hk' hr' => ?_) I31 (fun w9 a9 p m c N9 h1 h2 Z9 I9 _ u9 => ?_) fun v w' g => hr v w' ⟨g.v, g.z, cl g.u⟩
    . exact of_eq (primary1_w P G hl hE Z' ha' (by omega) h hk' hr') (by kernel_rfl)
    . obtain ⟨nv, ns, hN, e13, e15, e0, row, own, _⟩ := I9.ex; have Q9 : PQ w0 tv toks w w.heap.size w8.heap.size w14.heap.size d a a9 w9 := ⟨Z9, e0, e15, ⟨_, e13, rfl⟩, cl u9, ⟨by omega, h2⟩, hwl, Nat.le_refl _, by omega, by omega⟩; refine ⟨_, _, _, rfl, Q9.r, ptrC_some ⟨?_, trivial⟩⟩; rw [add_mk]; exact Q9.st (by omega) fun w43 Q43 => ⟨a9, by omega, Q43⟩
  have Q26 := Q17.keep (up u24 u26); refine ⟨_, Q26.b0.cell rfl, newC_mk fun w46 B46 u46 _ => may_c P (Q26.keep u46).z ht (by omega) (one_str B46) rfl (by decide) (fun hy w48 Z48 u48 => ⟨_, rfl, brC_tt rfl ?_⟩) fun _ w48 u48 => ⟨_, rfl, brC_ff rfl ?_⟩⟩
  . -- in parentheses
    have ha1 := G _ _ ht (isW_kind hy); have Q48 := (Q26.keep u46).step Z48 u48 (by omega) ha1; refine ⟨_, Q48.b0.cell rfl, hE w48 (a + 1) _ _ Q48.z ha1 (by omega) (fun q w52 a52 h1 h2 Z52 u52 => ⟨_, rfl, ?_⟩) fun v w' g => gv Q48 g fun _ _ e => e⟩; have Q52 := Q48.step Z52 u52 (by omega) h2; refine ⟨_, Q52.b0.cell rfl, newC_mk fun w56 B56 u56 _ => may_c P (Q52.keep u56).z Q52.tok (by omega) (one_str B56) rfl (by decide) (fun hy w58 Z58 u58 => ⟨_, rfl, brC_tt rfl ?_⟩) fun _ w58 u58 => ⟨_, rfl, brC_ff rfl ?_⟩⟩
    . have Q58 := (Q52.keep u56).step Z58 u58 (by omega) (G _ _ Q52.tok (isW_kind hy)); exact hk _ w58 (a52 + 1) (by omega) Q58.at_.2 Q58.z Q58.u
    have Q58 := Q52.keep (up u56 u58); refine ⟨fun w' => PQ w0 tv toks w w.heap.size w8.heap.size w14.heap.size d a a52 w', fun w61 Q61 _ => ⟨fun w' => ∃ a', a < a' /\ PQ w0 tv toks w w.heap.size w8.heap.size w14.heap.size d a a' w', fun w64 ⟨a6, h6, Q64⟩ _ => ⟨fun w' => ∃ a', a < a' /\ PQ w0 tv toks w w.heap.size w8.heap.size w14.heap.size d a a' w', fun w67 ⟨a7, h7, Q67⟩ _ => ?_, drawC_mk fun w72 u72 _ => ?_⟩, ?_⟩, drawC_mk fun w92 u92 _ => ?_⟩
    . exact ⟨_, Q67.b0.cell rfl, must_x P Q67.z Q67.tok (by have := Q67.at_; omega) (fun hy w71 Z71 u71 => ⟨rfl, a7 + 1, by omega, Q67.step Z71 u71 (by omega) (G _ _ Q67.tok (isW_kind hy))⟩) fun _ v w' g => gv Q67 g fun _ _ e => e⟩
    . have Q72 := Q64.keep u72; refine ⟨PR w0 w.heap.size w8.heap.size w14.heap.size, _, Q72.b15.cell rfl, L15, _, Q72.b0.cell rfl, L0, ?_, trivial⟩; refine typ_w P G hl hd (n := toks.length) w72 a6 _ _ Q72.z Q72.at_.2 (by omega) (fun q w79 a79 h1 h2 Z79 u79 => ?_) fun v w' g => gv Q72 g fun _ _ e => e; have Q79 := Q72.step Z79 u79 (by omega) h2; refine ⟨_, rfl, Q79.r, ptrC_some ⟨?_, trivial⟩⟩; rw [add_mk]; exact Q79.st (by omega) fun w82 Q82 => ⟨a79, by omega, Q82⟩
    . refine ⟨_, Q61.b0.cell rfl, newC_mk fun w85 B85 u85 _ => may_c P (Q61.keep u85).z Q61.tok (by omega) (one_str B85) rfl (by decide) (fun hy w87 Z87 u87 => ⟨_, rfl, brC_ff rfl ⟨a52 + 1, by omega, (Q61.keep u85).step Z87 u87 (by omega) (G _ _ Q61.tok (isW_kind hy))⟩⟩) fun _ w87 u87 => ⟨_, rfl, brC_tt rfl ?_⟩⟩; have Q87 := Q61.keep (up u85 u87); exact ⟨_, Q87.b0.cell rfl, fail_x P Q87.z Q87.tok fun v w' g => gv Q87 g fun _ _ e => e⟩
    . have Q92 := Q58.keep u92; refine ⟨PR w0 w.heap.size w8.heap.size w14.heap.size, _, Q92.b15.cell rfl, L15, _, Q92.b15.cell rfl, L15, ptrC_some ⟨?_, trivial⟩⟩; refine Q92.st (by omega) fun w99 Q99 => ⟨Q99.r, ptrC_some ⟨?_, trivial⟩⟩; rw [add_mk]; exact Q99.st (by omega) fun w101 Q101 => Q101
  have Q48 := Q26.keep (up u46 u48); refine ⟨_, Q48.b0.cell rfl, newC_mk fun w104 B104 u104 _ => may_c P (Q48.keep u104).z ht (by omega) (one_str B104) rfl (by decide) (fun hy w106 Z106 u106 => ⟨_, rfl, brC_tt rfl ?_⟩) fun _ w106 u106 => ⟨_, rfl, brC_ff rfl ?_⟩⟩
  . -- roll
    have ha1 := G _ _ ht (isW_kind hy); have Q106 := (Q48.keep u104).step Z106 u106 (by omega) ha1; refine ⟨fun w' => ∃ a', a + 1 < a' /\ PQ w0 tv toks w w.heap.size w8.heap.size w14.heap.size d a a' w', fun w109 ⟨a9, h9, Q109⟩ _ => drawC_mk fun w111 u111 _ => ?_, drawC_mk fun w122 u122 _ => ?_⟩
    . have Q111 := Q109.keep u111; refine ⟨PR w0 w.heap.size w8.heap.size w14.heap.size, _, Q111.b15.cell rfl, L15, _, Q111.b0.cell rfl, L0, ?_, trivial⟩; refine inside_w P G hl hE Q111.z Q111.at_.2 (by omega) (fun q w118 a118 h1 h2 Z118 u118 => ?_) fun v w' g => gv Q111 g fun _ _ e => e; have Q118 := Q111.step Z118 u118 (by omega) h2; refine ⟨_, rfl, Q118.r, ptrC_some ⟨?_, trivial⟩⟩; rw [add_mk]; exact Q118.st (by omega) fun w121 Q121 => ⟨a118, by omega, Q121⟩
    . have Q122 := Q106.keep u122; refine ⟨PR w0 w.heap.size w8.heap.size w14.heap.size, _, Q122.b15.cell rfl, L15, _, Q122.b15.cell rfl, L15, _, Q122.b0.cell rfl, L0, ?_, trivial⟩; refine named_w P G hl Q122.z Q122.at_.2 (fun q w131 a131 h1 h2 Z131 u131 => ?_) fun v w' g => gv Q122 g fun _ _ e => e; have Q131 := Q122.step Z131 u131 (by omega) h2; refine ⟨_, rfl, Q131.r, ptrC_some ⟨Q131.st (by omega) fun w134 Q134 => ⟨Q134.r, ptrC_some ⟨?_, trivial⟩⟩, trivial⟩⟩; rw [add_mk]; exact Q134.st (by omega) fun w136 Q136 => ⟨a131, by omega, Q136⟩
  have Q106 := Q48.keep (up u104 u106); refine ⟨_, Q106.b0.cell rfl, newC_mk fun w139 B139 u139 _ => may_c P (Q106.keep u139).z ht (by omega) (one_str B139) rfl (by decide) (fun hy w141 Z141 u141 => ⟨_, rfl, brC_tt rfl (drawC_mk fun w143 u143 _ => ?_)⟩) fun _ w141 u141 => ⟨_, rfl, brC_ff rfl ?_⟩⟩
  . -- unroll
    have ha1 := G _ _ ht (isW_kind hy); have Q143 := ((Q106.keep u139).step Z141 u141 (by omega) ha1).keep u143; refine ⟨PR w0 w.heap.size w8.heap.size w14.heap.size, _, Q143.b15.cell rfl, L15, _, Q143.b15.cell rfl, L15, _, Q143.b0.cell rfl, L0, ?_, trivial⟩; refine inside_w P G hl hE Q143.z Q143.at_.2 (by omega) (fun q w152 a152 h1 h2 Z152 u152 => ?_) fun v w' g => gv Q143 g fun _ _ e => e; have Q152 := Q143.step Z152 u152 (by omega) h2; refine ⟨_, rfl, Q152.r, ptrC_some ⟨Q152.st (by omega) fun w155 Q155 => ⟨Q155.r, ptrC_some ⟨?_, trivial⟩⟩, trivial⟩⟩; rw [add_mk]; exact Q155.st (by omega) fun w157 Q157 => ⟨a152, by omega, Q157⟩
  . have Q141 := Q106.keep (up u139 u141); exact ⟨_, Q141.b0.cell rfl, fail_x P Q141.z ht fun v w' g => gv Q141 g fun _ _ e => e⟩
end
section
variable {w0 : World} {tv : Value} {toks : List Tok}
structure PE (w0 : World) (tv : Value) (toks : List Tok) (w : World) (k0 k13 d a a' : Nat) (w' : World) : Prop where
  z : Pz w0 tv w' a' d
  b0 : Blk w' k0 #[.pointer (some ⟨w0.heap.size, 0, none⟩)] 110
  b13 : ∃ cs : Array Value, Blk w' k13 cs 214 /\ cs.size = 11
  u : Upd (· = w0.heap.size) w w'
  at_ : a <= a' /\ a' < toks.length
  d : w0.heap.size < w.heap.size /\ w0.heap.size < k0 /\ k0 < k13 /\ w.heap.size <= k13
section
variable {w w1 w2 : World} {k0 k13 d a a' : Nat}
theorem PE.keep (h : PE w0 tv toks w k0 k13 d a a' w1) (u : Upd No w1 w2) : PE w0 tv toks w k0 k13 d a a' w2 := by
  obtain ⟨cs, c1, c2⟩ := h.b13; exact ⟨h.z.keep u, h.b0.upd u id, ⟨cs, c1.upd u id, c2⟩, h.u.trans u fun _ _ e => e.elim, h.at_, h.d⟩
theorem PE.step (h : PE w0 tv toks w k0 k13 d a a' w1) {a2 : Nat} (z : Pz w0 tv w2 a2 d) (u : Upd (· = w0.heap.size) w1 w2) (h1 : a' <= a2) (h2 : a2 < toks.length) : PE w0 tv toks w k0 k13 d a a2 w2 := by
  obtain ⟨cs, c1, c2⟩ := h.b13; have := h.d; exact ⟨z, h.b0.upd u (by omega), ⟨cs, c1.upd u (by omega), c2⟩, h.u.trans u fun _ _ e => e, ⟨by have := h.at_; omega, h2⟩, h.d⟩
theorem PE.st (h : PE w0 tv toks w k0 k13 d a a' w1) {i : Nat} (hi : i < 11) {v : Value} {K : WP} (hk : ∀ w2, PE w0 tv toks w k0 k13 d a a' w2 -> K w2) : stC w1 ⟨k13, i, none⟩ v K := by
  obtain ⟨cs, c1, c2⟩ := h.b13; have := h.d; exact stC_mk c1 (by omega) fun w2 B u _ => hk w2 ⟨⟨h.z.up.trans u fun y hy (e : y = _) => by omega, h.z.blk.upd u (by omega)⟩, h.b0.upd u (by omega), ⟨_, B, by simp [c2]⟩, h.u.trans u fun y hy (e : y = _) => by omega, h.at_, h.d⟩
theorem PE.tok (h : PE w0 tv toks w k0 k13 d a a' w1) : toks[a']? = some (toks[a']'h.at_.2) := List.getElem?_eq_getElem h.at_.2
end
theorem expr1_w (P : P0 w0 tv toks) (G : Good toks) (hl : toks.length <= 900000) {n d : Nat} (hd : d <= 1000) (hE : Ew w0 tv toks n d (exprC w0)) (hL : Ew w0 tv toks (n + 1) d (levC w0 0)) {w : World} {a k0 : Nat} {K R : KV} (Z : Pz w0 tv w a d) (ha : a < toks.length) (hn : toks.length <= n + 1 + a)
    (b0 : Blk w k0 #[.pointer (some ⟨w0.heap.size, 0, none⟩)] 110) (hk0 : w0.heap.size < k0)
    (hk : ∀ (q : Option Addr) w' a', a < a' -> a' < toks.length -> Pz w0 tv w' a' d -> Upd (· = w0.heap.size) w w' -> K (.pointer q) w') (hr : ∀ v w', Gave w0 tv (· = w0.heap.size) w d v w' -> R v w') :
    callX Tryz.prog 148 #[.pointer (some ⟨k0, 0, none⟩)] w K R := by
  have ht : toks[a]? = some toks[a] := List.getElem?_eq_getElem ha; have hwl := Z.lt; have b0lt := b0.lt; refine expr1_text _ _ _ _ _ ⟨_, b0.cell rfl, next_c P Z ht fun w2 u2 => ⟨_, _, _, _, rfl, newC_mk fun w8 B8 u8 s8 => ?_⟩⟩; have z2 := u2.size; have U8 := up u2 u8; have Q8 : PE w0 tv toks w k0 w2.heap.size d a a w8 := ⟨Z.keep U8, b0.upd U8 id, ⟨_, B8, rfl⟩, U8.no, ⟨Nat.le_refl _, ha⟩, hwl, hk0, by omega, z2⟩; have gv : ∀ {a' w1} {v w'}, PE w0 tv toks w k0 w2.heap.size d a a' w1 -> Gave w0 tv (· = w0.heap.size) w1 d v w' -> R v w' := fun q g => hr _ _ (g.from q.u fun _ _ e => e)
  have sub : ∀ {a' w1 K'}, PE w0 tv toks w k0 w2.heap.size d a a' w1 -> a < a' -> (∀ (q : Option Addr) w3 a3, a' < a3 -> PE w0 tv toks w k0 w2.heap.size d a a3 w3 -> K' (.pointer q) w3) -> exprC w0 w1 K' R := fun {a' w1 K'} q h hk' =>
    hE w1 a' K' R q.z q.at_.2 (by omega) (fun q3 w3 a3 h1 h2 Z3 u3 => hk' q3 w3 a3 h1 (q.step Z3 u3 (by omega) h2)) fun v w' g => gv q g
  have mst : ∀ {a' w1 K'} (s : ByteArray), PE w0 tv toks w k0 w2.heap.size d a a' w1 -> (∀ w3, PE w0 tv toks w k0 w2.heap.size d a (a' + 1) w3 -> K' (.tuple #[]) w3) -> callX Tryz.prog 86 #[.pointer (some ⟨w0.heap.size, 0, none⟩), .string s] w1 K' R := fun {a' w1 K'} s q hk' =>
    must_x P q.z q.tok (by have := q.at_; omega) (fun hy w3 Z3 u3 => hk' w3 (q.step Z3 u3 (by omega) (G _ _ q.tok (isW_kind hy)))) fun _ v w' g => gv q g
  refine ⟨fun w' => ∃ a', a < a' /\ PE w0 tv toks w k0 w2.heap.size d a a' w', fun w10 ⟨a', h1, q⟩ _ => hk _ w10 a' h1 q.at_.2 q.z q.u, ⟨_, Q8.b0.cell rfl, ?_⟩⟩; refine newC_mk fun w14 B14 u14 _ => may_c P (Q8.keep u14).z ht (by omega) (one_str B14) rfl (by decide) (fun hy w16 Z16 u16 => ⟨_, rfl, brC_tt rfl ?_⟩) fun _ w16 u16 => ⟨_, rfl, brC_ff rfl ?_⟩
  . -- if
    have Q16 := (Q8.keep u14).step Z16 u16 (by omega) (G _ _ ht (isW_kind hy)); refine ⟨_, Q16.b0.cell rfl, sub Q16 (by omega) fun q w20 a20 h20 Q20 => ⟨_, rfl, Q20.st (by omega) fun w22 Q22 => Q22.st (by omega) fun w23 Q23 => ⟨_, Q23.b0.cell rfl, mst _ Q23 fun w26 Q26 => ⟨rfl, _, Q26.b0.cell rfl, ?_⟩⟩⟩⟩; refine sub Q26 (by omega) fun q w29 a29 h29 Q29 => ⟨_, rfl, Q29.st (by omega) fun w31 Q31 => ⟨_, Q31.b0.cell rfl, mst _ Q31 fun w34 Q34 => ⟨rfl, _, Q34.b0.cell rfl, ?_⟩⟩⟩; exact sub Q34 (by omega) fun q w37 a37 h37 Q37 => ⟨_, rfl, Q37.st (by omega) fun w39 Q39 => ⟨a37, by omega, Q39⟩⟩
  have Q16 := Q8.keep (up u14 u16); refine ⟨_, Q16.b0.cell rfl, newC_mk fun w42 B42 u42 _ => may_c P (Q16.keep u42).z ht (by omega) (one_str B42) rfl (by decide) (fun hy w44 Z44 u44 => ⟨_, rfl, brC_tt rfl ?_⟩) fun _ w44 u44 => ⟨_, rfl, brC_ff rfl ?_⟩⟩
  . -- let
    have Q44 := (Q16.keep u42).step Z44 u44 (by omega) (G _ _ ht (isW_kind hy)); refine ⟨_, Q44.b0.cell rfl, name_x P Q44.z Q44.tok (by have := Q44.at_; omega) (fun h1 w48 Z48 u48 => ⟨_, rfl, ?_⟩) fun _ v w' g => gv Q44 g⟩; have Q48 := Q44.step Z48 u48 (by omega) (G _ _ Q44.tok (by omega)); refine Q48.st (by omega) fun w50 Q50 => Q50.st (by omega) fun w51 Q51 => ⟨_, Q51.b0.cell rfl, maybe_w P G hl hd Q51.z Q51.at_.2 (fun q w54 a54 h1 h2 Z54 u54 => ⟨_, rfl, ?_⟩) fun v w' g => gv Q51 g⟩; have Q54 := Q51.step Z54 u54 h1 h2; refine Q54.st (by omega) fun w56 Q56 => ⟨_, Q56.b0.cell rfl, mst _ Q56 fun w59 Q59 => ⟨rfl, _, Q59.b0.cell rfl, ?_⟩⟩; refine sub Q59 (by omega) fun q w62 a62 h62 Q62 => ⟨_, rfl, Q62.st (by omega) fun w64 Q64 => ⟨_, Q64.b0.cell rfl, mst _ Q64 fun w67 Q67 => ⟨rfl, _, Q67.b0.cell rfl, ?_⟩⟩⟩; exact sub Q67 (by omega) fun q w70 a70 h70 Q70 => ⟨_, rfl, Q70.st (by omega) fun w72 Q72 => ⟨a70, by omega, Q72⟩⟩
  have Q44 := Q16.keep (up u42 u44); refine ⟨_, Q44.b0.cell rfl, newC_mk fun w75 B75 u75 _ => may_c P (Q44.keep u75).z ht (by omega) (one_str B75) rfl (by decide) (fun hy w77 Z77 u77 => ⟨_, rfl, brC_tt rfl ?_⟩) fun _ w77 u77 => ⟨_, rfl, brC_ff rfl ?_⟩⟩
  . -- fn
    have Q77 := (Q44.keep u75).step Z77 u77 (by omega) (G _ _ ht (isW_kind hy)); refine Q77.st (by omega) fun w79 Q79 => ⟨_, Q79.b0.cell rfl, params_w P G hl hd Q79.z Q79.at_.2 (fun p m c p' m' c' w82 a82 h1 h2 Z82 u82 => ⟨_, _, _, _, _, _, rfl, ?_⟩) fun v w' g => gv Q79 g⟩; have Q82 := Q79.step Z82 u82 (by omega) h2; refine Q82.st (by omega) fun w89 Q89 => Q89.st (by omega) fun w90 Q90 => ⟨_, Q90.b0.cell rfl, mst _ Q90 fun w93 Q93 => ⟨rfl, _, Q93.b0.cell rfl, ?_⟩⟩; exact sub Q93 (by omega) fun q w96 a96 h96 Q96 => ⟨_, rfl, Q96.st (by omega) fun w98 Q98 => ⟨a96, by omega, Q98⟩⟩
  . have Q77 := Q44.keep (up u75 u77); exact ⟨_, Q77.b0.cell rfl, hL w77 a _ _ Q77.z ha hn (fun q w' a' h1 h2 Z' u' => ⟨_, rfl, hk q w' a' h1 h2 Z' (Q77.u.trans u' fun _ _ e => e)⟩) fun v w' g => gv Q77 g⟩
theorem expr_w (P : P0 w0 tv toks) (G : Good toks) (hl : toks.length <= 900000) {n : Nat} (hE : ∀ d, d <= 1000 -> Ew w0 tv toks n d (exprC w0)) (hL : ∀ d, d <= 1000 -> Ew w0 tv toks (n + 1) d (levC w0 0)) : ∀ d, d <= 1000 -> Ew w0 tv toks (n + 1) d (exprC w0) := by
  intro d hd w a K R Z ha hn hk hr; have hwl := Z.lt; refine expr_text _ _ _ _ (newC_mk fun w1 B1 u1 s1 => ⟨_, B1.cell rfl, ?_⟩); refine within_w P hd (Z.keep u1) ha (fun w6 K' R' Z6 h40 U6 hk' hr' => ?_) (fun q w' a' h1 h2 Z' u' => ⟨_, rfl, hk q w' a' h1 h2 Z' (u1.no.trans u' fun _ _ e => e)⟩) fun v w' g => hr v w' (g.from u1.no fun _ _ e => e); exact of_eq (expr1_w P G hl (by omega) (hE (d + 1) (by omega)) (hL (d + 1) (by omega)) Z6 ha hn (B1.upd U6 (by omega)) hwl hk' hr') (by kernel_rfl)
theorem exprs_w (P : P0 w0 tv toks) (G : Good toks) (hl : toks.length <= 900000) : ∀ n d, d <= 1000 -> Ew w0 tv toks n d (exprC w0) /\ Ew w0 tv toks n d (unaC w0)
  | 0, d, _ => ⟨fun w a K R Z ha hn => by omega, fun w a K R Z ha hn => by omega⟩
  | n + 1, d, hd => by
    have ih := exprs_w P G hl n; have hP : ∀ d, d <= 1000 -> Ew w0 tv toks (n + 1) d (unaC w0) := fun d hd => unary_w P hl G hd (fun d hd => (ih d hd).2) (postfix_w P G hl (ih d hd).1 (primary_w P G hl hd (ih d hd).1))
    have hL : ∀ d, d <= 1000 -> ∀ j, j <= 5 -> Ew w0 tv toks (n + 1) d (levC w0 (5 - j)) := by
      intro d hd j
      induction j with
      | zero => exact fun _ => level_w P hl G (hP d hd) 5 (by omega) fun h => by omega
      | succ j ih' =>
        intro hj; refine level_w P hl G (hP d hd) (5 - (j + 1)) (by omega) fun _ => ?_; have e : 5 - (j + 1) + 1 = 5 - j := by omega
        rw [e]; exact ih' (by omega)
    exact ⟨expr_w P G hl (fun d hd => (ih d hd).1) (fun d hd => hL d hd 5 (by omega)) d hd, hP d hd⟩
end
section
variable {w0 : World} {tv : Value} {toks : List Tok}
structure PD (w0 : World) (tv : Value) (toks : List Tok) (w : World) (k13 d a a' : Nat) (w' : World) : Prop where
  z : Pz w0 tv w' a' d
  b13 : ∃ cs : Array Value, Blk w' k13 cs 56 /\ cs.size = 8
  u : Upd (· = w0.heap.size) w w'
  at_ : a <= a' /\ a' < toks.length
  d : w0.heap.size < w.heap.size /\ w.heap.size <= k13
section
variable {w w1 w2 : World} {k13 d a a' : Nat}
theorem PD.keep (h : PD w0 tv toks w k13 d a a' w1) (u : Upd No w1 w2) : PD w0 tv toks w k13 d a a' w2 := by
  obtain ⟨cs, c1, c2⟩ := h.b13; exact ⟨h.z.keep u, ⟨cs, c1.upd u id, c2⟩, h.u.trans u fun _ _ e => e.elim, h.at_, h.d⟩
theorem PD.step (h : PD w0 tv toks w k13 d a a' w1) {a2 : Nat} (z : Pz w0 tv w2 a2 d) (u : Upd (· = w0.heap.size) w1 w2) (h1 : a' <= a2) (h2 : a2 < toks.length) : PD w0 tv toks w k13 d a a2 w2 := by
  obtain ⟨cs, c1, c2⟩ := h.b13; have := h.d; exact ⟨z, ⟨cs, c1.upd u (by omega), c2⟩, h.u.trans u fun _ _ e => e, ⟨by have := h.at_; omega, h2⟩, h.d⟩
theorem PD.st (h : PD w0 tv toks w k13 d a a' w1) {i : Nat} (hi : i < 8) {v : Value} {K : WP} (hk : ∀ w2, PD w0 tv toks w k13 d a a' w2 -> K w2) : stC w1 ⟨k13, i, none⟩ v K := by
  obtain ⟨cs, c1, c2⟩ := h.b13; have := h.d; exact stC_mk c1 (by omega) fun w2 B u _ => hk w2 ⟨⟨h.z.up.trans u fun y hy (e : y = _) => by omega, h.z.blk.upd u (by omega)⟩, ⟨_, B, by simp [c2]⟩, h.u.trans u fun y hy (e : y = _) => by omega, h.at_, h.d⟩
theorem PD.tok (h : PD w0 tv toks w k13 d a a' w1) : toks[a']? = some (toks[a']'h.at_.2) := List.getElem?_eq_getElem h.at_.2
end
theorem decl_w (P : P0 w0 tv toks) (G : Good toks) (hl : toks.length <= 900000) {d : Nat} (hd : d <= 1000) {w : World} {a : Nat} {K R : KV} (Z : Pz w0 tv w a d) (ha : a < toks.length)
    (hk : ∀ (q : Option Addr) w' a', a < a' -> a' < toks.length -> Pz w0 tv w' a' d -> Upd (· = w0.heap.size) w w' -> (isW toks[a] [wType] = true -> ∃ c, declF toks toks.length a d = some (c, a') /\ DcAt (From w.heap.size) w' (.pointer q) c) -> K (.pointer q) w') (hr : ∀ v w', Gave w0 tv (· = w0.heap.size) w d v w' -> R v w') :
    callX Tryz.prog 43 #[.pointer (some ⟨w0.heap.size, 0, none⟩)] w K R := by
  have ht : toks[a]? = some toks[a] := List.getElem?_eq_getElem ha
  have hni : isW toks[a] [wType] = true -> isW toks[a] [wImport] = false := fun hty => by
    cases h : isW toks[a] [wImport] with
    | false => rfl
    | true =>
      unfold isW memB at h hty; simp only [List.any_cons, List.any_nil, Bool.or_false, Bool.and_eq_true, decide_eq_true_eq] at h hty; exact absurd (h.2.symm.trans hty.2) (by decide)
  by_cases hF : isW toks[a] [wType] = true /\ ∃ c a1, declF toks toks.length a d = some (c, a1)
  . obtain ⟨hty, c, a1, hF⟩ := hF; have h1 := declF_inc hF; refine decl_c P hl Z hF fun w' q Z' hD u' => hk q w' a1 h1 ?_ Z' u' fun _ => ⟨c, hF, hD⟩; unfold declF at hF; rw [ht] at hF; dsimp only at hF; rw [if_neg (by rw [hni hty]; simp), if_pos hty] at hF; split at hF
    case h_2 => cases hF
    split at hF
    case isFalse => cases hF
    split at hF
    case isFalse => cases hF
    split at hF
    . rename_i x a2 hx; simp only [Option.some.injEq, Prod.mk.injEq] at hF; have := typF_in toks _ _ _ _ _ hx; omega
    . cases hF
  generalize htt : toks[a] = t at *; have hwl := Z.lt; refine decl_text _ _ _ _ (next_c P Z ht fun w1 u1 => ⟨_, _, _, _, rfl, newC_mk fun w7 B7 u7 s7 => ?_⟩); have z1 := u1.size; have U7 := up u1 u7; have Q7 : PD w0 tv toks w w1.heap.size d a a w7 := ⟨Z.keep U7, ⟨_, B7, rfl⟩, U7.no, ⟨Nat.le_refl _, ha⟩, hwl, z1⟩; have gv : ∀ {a' w1'} {v w'}, PD w0 tv toks w w1.heap.size d a a' w1' -> Gave w0 tv (· = w0.heap.size) w1' d v w' -> R v w' := fun q g => hr _ _ (g.from q.u fun _ _ e => e)
  have mst : ∀ {a' w1' K'} (s : ByteArray), PD w0 tv toks w w1.heap.size d a a' w1' -> (∀ w3, PD w0 tv toks w w1.heap.size d a (a' + 1) w3 -> isW (toks[a']?.getD ⟨0, .empty, 0, 0⟩) [s] = true -> K' (.tuple #[]) w3) -> callX Tryz.prog 86 #[.pointer (some ⟨w0.heap.size, 0, none⟩), .string s] w1' K' R := fun {a' w1' K'} s q hk' =>
    must_x P q.z q.tok (by have := q.at_; omega) (fun hy w3 Z3 u3 => hk' w3 (q.step Z3 u3 (by omega) (G _ _ q.tok (isW_kind hy))) (by rw [q.tok]; exact hy)) fun _ v w' g => gv q g
  have nme : ∀ {a' w1' K'}, PD w0 tv toks w w1.heap.size d a a' w1' -> (∀ w3 s, PD w0 tv toks w w1.heap.size d a (a' + 1) w3 -> (toks[a']?.getD ⟨0, .empty, 0, 0⟩).kind = 1 -> K' (.string s) w3) -> callX Tryz.prog 87 #[.pointer (some ⟨w0.heap.size, 0, none⟩)] w1' K' R := fun {a' w1' K'} q hk' =>
    name_x P q.z q.tok (by have := q.at_; omega) (fun h1 w3 Z3 u3 => hk' w3 _ (q.step Z3 u3 (by omega) (G _ _ q.tok (by omega))) (by rw [q.tok]; exact h1)) fun _ v w' g => gv q g
  have fin : ∀ {a' w1'}, PD w0 tv toks w w1.heap.size d a a' w1' -> a < a' -> isW t [wType] = false -> K (.pointer (some ⟨w1.heap.size, 0, none⟩)) w1' := fun q h hf => hk _ _ _ h q.at_.2 q.z q.u fun hy => by rw [hf] at hy; cases hy
  refine ⟨fun w' => isW t [wType] = false /\ ∃ a', a < a' /\ PD w0 tv toks w w1.heap.size d a a' w', fun w9 ⟨hf, a9, h9, Q9⟩ _ => ?_, ?_⟩
  . refine maybe_w P G hl hd Q9.z Q9.at_.2 (fun q w12 a12 h1 h2 Z12 u12 => ⟨_, rfl, ?_⟩) fun v w' g => gv Q9 g; refine (Q9.step Z12 u12 h1 h2).st (by omega) fun w14 Q14 => mst _ Q14 fun w16 Q16 _ => ⟨rfl, ?_⟩; refine (exprs_w P G hl toks.length d hd).1 w16 _ _ _ Q16.z Q16.at_.2 (by omega) (fun q w18 a18 h1 h2 Z18 u18 => ⟨_, rfl, ?_⟩) fun v w' g => gv Q16 g; exact (Q16.step Z18 u18 (by omega) h2).st (by omega) fun w20 Q20 => fin Q20 (by omega) hf
  refine newC_mk fun w22 B22 u22 _ => may_c P (Q7.keep u22).z ht (by omega) (one_str B22) rfl (by decide) (fun hy w24 Z24 u24 => ⟨_, rfl, brC_tt rfl ?_⟩) fun hn1 w24 u24 => ⟨_, rfl, brC_ff rfl ?_⟩
  . -- an import
    have hf : isW t [wType] = false := by
      cases h : isW t [wType] with
      | false => rfl
      | true => have := hni h; have hy : isW t [wImport] = true := hy; rw [this] at hy; cases hy
    have Q24 := (Q7.keep u22).step Z24 u24 (by omega) (G _ _ ht (isW_kind hy)); refine take_x P Q24.z Q24.tok (by have := Q24.at_; omega) (fun h4 w27 Z27 u27 => ⟨_, _, _, _, rfl, ?_⟩) fun _ v w' g => gv Q24 g; have Q27 := Q24.step Z27 u27 (by omega) (G _ _ Q24.tok (by omega)); refine Q27.st (by omega) fun w32 Q32 => Q32.st (by omega) fun w33 Q33 => mst _ Q33 fun w35 Q35 _ => ⟨rfl, nme Q35 fun w37 s Q37 _ => ⟨_, rfl, Q37.st (by omega) fun w39 Q39 => fin Q39 (by omega) hf⟩⟩
  have Q24 := Q7.keep (up u22 u24); refine newC_mk fun w41 B41 u41 _ => may_c P (Q24.keep u41).z ht (by omega) (one_str B41) rfl (by decide) (fun hy w43 Z43 u43 => ⟨_, rfl, brC_tt rfl ?_⟩) fun hf w43 u43 => ⟨_, rfl, brC_ff rfl ?_⟩
  . -- a type that is none
    have hy : isW t [wType] = true := hy; have Q43 := (Q24.keep u41).step Z43 u43 (by omega) (G _ _ ht (isW_kind hy)); refine nme Q43 fun w46 s Q46 h46 => ⟨_, rfl, Q46.st (by omega) fun w48 Q48 => Q48.st (by omega) fun w49 Q49 => mst _ Q49 fun w51 Q51 h51 => ⟨rfl, ?_⟩⟩; refine typF_no P G hl toks.length w51 _ d _ _ Q51.z hd Q51.at_.2 (by omega) ?_ fun v w' g => gv Q51 g
    cases hx : typF toks toks.length (a + 1 + 1 + 1) d with
    | none => rfl
    | some r =>
      refine absurd ⟨hy, ?_⟩ hF; obtain ⟨x, a1⟩ := r; obtain ⟨q1, hq1⟩ : ∃ q1, toks[a + 1]? = some q1 := ⟨_, Q43.tok⟩; obtain ⟨q2, hq2⟩ : ∃ q2, toks[a + 2]? = some q2 := ⟨_, Q46.tok⟩; have h46 : q1.kind = 1 := by rw [hq1] at h46; exact h46
      have h51 : isW q2 [wEq] = true := by
        rw [show toks[a + 1 + 1]? = some q2 from hq2] at h51; exact h51
      refine ⟨⟨2, t.at_, q1.text, .empty, x⟩, a1, ?_⟩; unfold declF; rw [ht]; dsimp only; rw [if_neg (by rw [hni hy]; simp), if_pos hy, hq1, hq2]; dsimp only; rw [if_pos h46, if_pos h51, show typF toks toks.length (a + 3) d = some (x, a1) from hx]
  have hf : isW t [wType] = false := hf; have Q43 := Q24.keep (up u41 u43); refine newC_mk fun w57 B57 u57 _ => may_c P (Q43.keep u57).z ht (by omega) (one_str B57) rfl (by decide) (fun hy w59 Z59 u59 => ⟨_, rfl, brC_tt rfl ?_⟩) fun _ w59 u59 => ⟨_, rfl, brC_ff rfl ?_⟩
  . have Q59 := (Q43.keep u57).step Z59 u59 (by omega) (G _ _ ht (isW_kind hy)); exact nme Q59 fun w62 s Q62 _ => ⟨_, rfl, Q62.st (by omega) fun w64 Q64 => Q64.st (by omega) fun w65 Q65 => ⟨hf, _, by omega, Q65⟩⟩
  have Q59 := Q43.keep (up u57 u59); refine newC_mk fun w67 B67 u67 _ => may_c P (Q59.keep u67).z ht (by omega) (one_str B67) rfl (by decide) (fun hy w69 Z69 u69 => ⟨_, rfl, brC_tt rfl ?_⟩) fun _ w69 u69 => ⟨_, rfl, brC_ff rfl ?_⟩
  . have Q69 := (Q59.keep u67).step Z69 u69 (by omega) (G _ _ ht (isW_kind hy)); refine nme Q69 fun w72 s Q72 _ => ⟨_, rfl, Q72.st (by omega) fun w74 Q74 => Q74.st (by omega) fun w75 Q75 => ?_⟩; refine params_w P G hl hd Q75.z Q75.at_.2 (fun p m c p' m' c' w77 a77 h1 h2 Z77 u77 => ⟨_, _, _, _, _, _, rfl, ?_⟩) fun v w' g => gv Q75 g; exact (Q75.step Z77 u77 (by omega) h2).st (by omega) fun w84 Q84 => Q84.st (by omega) fun w85 Q85 => ⟨hf, _, by omega, Q85⟩
  . have Q69 := Q59.keep (up u67 u69); exact fail_x P Q69.z ht fun v w' g => gv Q69 g
end
theorem lds_fl {w : World} {a : Addr} {p : Option Addr} (h : w.cell? a = some (.pointer p)) : Lds Tryz.prog 106 w a (.pointer p) := by
  have key : (∃ p', w.cell? a = some (.pointer p') /\ .pointer p' = Value.pointer p) = ldVC Tryz.prog 106 w a (fun v => v = .pointer p) := by kernel_rfl
  obtain ⟨v, rfl, hr⟩ := semR_out (ldVC_sound (of_eq ⟨_, h, rfl⟩ key)); exact hr w rfl
theorem parseD_rec {p q : Nat} {w : World} {s0 : Value} {n0 : Value} {q0 : Option Addr} (B0 : Blk w p #[s0] 57) (B1 : Blk w q #[n0] 71) (hpq : p ≠ q) :
    CallsD Tryz.prog 41 #[.pointer (some ⟨p, 0, none⟩), .pointer (some ⟨q, 0, none⟩)] (.panicking [{ v := .iface 108 (.agg #[.pointer q0]), recovered := false }]) w
      fun e u' w' => e = .returned (.tuple #[]) /\ u' = .panicking [{ v := .iface 108 (.agg #[.pointer q0]), recovered := true }] /\ Blk w' p #[.slice none 0 0] 57 /\ Blk w' q #[.iface 106 (.pointer q0)] 71 /\ Upd (fun b => b = p \/ b = q) w w' := by
  have p0lt := B0.lt; have q0lt := B1.lt; refine callsD_of_wpS Tryz.func41 rfl fun c₀ cs hu => ?_; apply wpS_seq; apply wpS_region; simp [wpOpsS, go_sem, recoverD, hu, Tryz.ntmps41, Exit.thenS]; apply wpS_seq; apply wpS_region; simp [wpOpsS, go_sem, Exit.thenS]; refine wpS_cond (t := true) (by simp [Act.eval, Array.replicate]) ?_; simp only [if_true]; have ta : ∀ w, (Instr.typeAssert (.iface 108 (.agg #[.pointer q0])) 20 108 true).run Tryz.prog w = .ok (.tuple #[.agg #[.pointer q0], .bool true]) w := fun w => by kernel_rfl
  have hv := vcFunX_out (g := thenC) rfl (parseR_text p q q0 w (fun _ w' => Blk w' p #[.slice none 0 0] 57 /\ Blk w' q #[.iface 106 (.pointer q0)] 71 /\ Upd (fun b => b = p \/ b = q) w w') (fun _ _ => False) ?_)
  rotate_left
  . refine ⟨_, _, ta w, q0, true, rfl, newC_mk fun w5 B5 u5 s5 => stC_mk B5 (by simp) fun w6 B6 u6 s6 => ⟨fun w' => Blk w' w.heap.size #[.pointer q0] 108 /\ Upd No w w', fun w8 ⟨B8, u8⟩ _ => drawC_mk fun w10 u10 _ => ?_, brC_ff rfl ⟨B6, u5.trans u6 fun x hx (e : x = _) => by omega⟩⟩⟩; have B10 := B8.upd u10 id; have U10 := up u8 u10; refine ⟨fun w' => Blk w' w.heap.size #[.pointer q0] 108, q0, B10.cell rfl, fun w13 h => lds_fl (h.cell rfl), stC_mk (B0.upd U10 id) (by simp) fun w14 B14 u14 _ => ⟨B10.upd u14 (by omega), stC_mk ((B1.upd U10 id).upd u14 (Ne.symm hpq)) (by simp) fun w15 B15 u15 _ => ⟨B14.upd u15 hpq, B15, (U10.no.trans u14 fun _ _ e => .inl e).trans u15 fun _ _ e => .inr e⟩, trivial⟩, trivial⟩
  refine wpS_of_wp (wp_mono (vc_sound _ _ _ _ _ (fit0 Tryz.f41 _) hv) fun e a w' h => ?_); have hres : (results Tryz.f41 a.tmps).run Tryz.prog w' = .ok (.tuple #[]) w' := by simp [results, Tryz.results41]
  rcases h with ⟨x, env', rfl, hf, _, hq⟩ | ⟨v, rfl, hk, hr⟩
  . cases x with
    | normal => exact ⟨hf.defers, _, rfl, _, hres, rfl, rfl, hq⟩
    | ret => exact ⟨hf.defers, _, rfl, _, hres, rfl, rfl, hq⟩
    | exit id => exact hq.elim
  . exact hr.elim
theorem neq_flt (n : Nat) (q : Option Addr) (w : World) : (eqSem .neq 71 (.tmp n) (.const .nilIface) (.iface 106 (.pointer q)) .nilIface).run Tryz.prog w = .ok (.bool true) w := by
  kernel_rfl
theorem good_end {ts : List Tok} {t : Tok} (ht : t.kind = 0) : Good (ts ++ [t]) := fun a x hx hk => by
  have hl := (List.getElem?_eq_some_iff.1 hx).1; simp at hl ⊢; rcases Nat.lt_or_ge a ts.length with h | h
  . omega
  . have : a = ts.length := by omega
    subst this; simp at hx; subst hx; exact absurd ht hk
end Go.Proofs.YtdbkclnlfibgdaaGreatDoor
