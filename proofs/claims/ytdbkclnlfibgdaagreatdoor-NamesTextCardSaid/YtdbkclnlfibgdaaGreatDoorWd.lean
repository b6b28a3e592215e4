/- Joined by program of: L1, L2, L3, L4, L5, L6, L7, L8, XAt, P1, P2, P3, P4, P5, P6, P7, P8. -/
import Derived.Test.YtdbkclnlfibgdaaGreatDoorWc
import Derived.Test.YtdbkclnlfibgdaaGreatDoorVb
import Derived.Lib.FrozenHead2
import Derived.Laws.RangeAny
import Derived.Test.YtdbkclnlfibgdaaGreatDoorEa
import Derived.Test.YtdbkclnlfibgdaaGreatDoorProg
import Derived.KernelRfl
import Derived.Tactics
import Derived.Tactics2
import Derived.Defers
import Derived.Recover
import Derived.Laws.Pointers
import Derived.Test.YtdbkclnlfibgdaaGreatDoorWa
set_option maxRecDepth 100000
set_option maxHeartbeats 4000000
namespace Go.Proofs.YtdbkclnlfibgdaaGreatDoor
open Go.SX Go.Ty Go.MapKept
structure Gl (w : World) : Prop where
  sp : Lib.TabIs Tryz.prog w "strings.asciiSpace" .u8 Lib.asciiSpaceTab
theorem var_keep {P : Program} {w w' : World} {nm : String} {cs : Array Value} (h : w.var? P nm = some cs) (u : Upd No w w') : w'.var? P nm = some cs := by
  unfold World.var? at *
  cases hg : P.globalNamed nm with
  | none => rw [hg] at h; cases h
  | some g =>
    rw [hg] at h; simp only [Option.bind_some] at h ⊢
    have hlt : g < w.heap.size := by
      rcases Nat.lt_or_ge g w.heap.size with hl | hl
      . exact hl
      . rw [Array.getElem?_eq_none hl] at h; cases h
    rw [u.block g hlt id]; exact h
theorem Gl.keep {w w' : World} (h : Gl w) (u : Upd No w w') : Gl w' := ⟨var_keep h.sp u⟩
theorem fields_c {w : World} (g : Gl w) {s : ByteArray} (hs : s.size < 4294967281) (ha : ∀ (j : Nat) b, s.data.toList[j]? = some b -> b.toNat < 128) {l : List ByteArray} (hl : (Lib.fields s.data.toList).map (fun l => (⟨l.toArray⟩ : ByteArray)) = l) {K : KV}
    (hk : ∀ w', Blk w' w.heap.size (l.map Value.string).toArray ids.str -> Upd No w w' -> w'.heap.size = w.heap.size + 1 -> K (.slice (some ⟨w.heap.size, 0, none⟩) l.length l.length) w') : callC Tryz.prog 129 #[.string s] w K := by
  refine callC_of_calls (Any.strings_Fields Tryz.fieldsL (by kernel_rfl) (by kernel_rfl) s w hs ha g.sp) fun e w' ⟨he, hw⟩ => ⟨_, he, ?_⟩; subst hw; have e1 : (Lib.fields s.data.toList).length = l.length := by rw [<- hl, List.length_map]
  have e2 : ((Lib.fields s.data.toList).map fun l => Value.string ⟨l.toArray⟩) = l.map Value.string := by rw [<- hl, List.map_map]; rfl
  rw [e1, e2]; exact hk _ (blk_alloc _ _ _) (upd_alloc _ _) (by simp)
def str (s : String) : ByteArray := ⟨(s.toList.map fun c => UInt8.ofNat c.toNat).toArray⟩
def signsL : List ByteArray := [bs [45, 62], bs [61, 62], bs [61, 61], bs [46, 46], bs [61], bs [58], bs [46], bs [44], bs [40], bs [41], bs [123], bs [125], bs [124], bs [60], bs [43], bs [45], bs [42]]
theorem signs_spec {w : World} (g : Gl w) : callC Tryz.prog 80 #[] w fun v w' => v = .slice (some ⟨w.heap.size, 0, none⟩) 17 17 /\ Blk w' w.heap.size (signsL.map Value.string).toArray ids.str /\ Upd No w w' := by
  refine signs_text _ _ (fields_c g (l := signsL) (by decide +kernel) ?_ (by decide +kernel) fun w' B u s => ⟨_, _, _, rfl, rfl, B, u⟩); intro j b h; have : ∀ b ∈ (ByteArray.mk #[45, 62, 32, 61, 62, 32, 61, 61, 32, 46, 46, 32, 61, 32, 58, 32, 46, 32, 44, 32, 40, 32, 41, 32, 123, 32, 125, 32, 124, 32, 60, 32, 43, 32, 45, 32, 42]).data.toList, b.toNat < 128 := by decide +kernel
  exact this b (List.mem_of_getElem? h)
def kwB : ByteArray := ByteArray.mk #[105, 109, 112, 111, 114, 116, 32, 97, 115, 32, 116, 121, 112, 101, 32, 108, 101, 116, 32, 102, 117, 110, 32, 102, 110, 32, 105, 102, 32, 116, 104, 101, 110, 32, 101, 108, 115, 101, 32, 105, 110, 32, 97, 110, 100, 32, 111, 114, 32, 110, 111, 116, 32, 114, 111, 108, 108, 32, 117, 110, 114, 111, 108, 108, 32, 116, 114, 117, 101, 32, 102, 97, 108, 115, 101, 32, 110, 105, 108, 32, 105, 110, 116, 32, 98, 111, 111, 108, 32, 115, 116, 114, 32, 97, 110, 121]
def kwL : List ByteArray := (Lib.fields kwB.data.toList).map fun l => ⟨l.toArray⟩
theorem kwL_len : kwL.length = 22 := by decide +kernel
theorem kwL_nodup : kwL.Nodup := by decide +kernel
theorem undWords : Tryz.prog.underlying 151 = some (.map 9 4) := by kernel_rfl
theorem nodup_take_notin {l : List ByteArray} (h : l.Nodup) {i : Nat} (hi : i < l.length) : Value.string l[i] ∉ (l.take i).map Value.string := by
  intro hm; obtain ⟨s, hs, e⟩ := List.mem_map.1 hm; cases e; obtain ⟨j, hj, e⟩ := List.mem_iff_getElem.1 hs; rw [List.length_take] at hj; rw [List.getElem_take] at e; have := (List.getElem_inj (h₀ := by omega) (h₁ := hi) h).1 e; omega
theorem reserved_spec {w : World} (g : Gl w) : callC Tryz.prog 79 #[] w fun v w' => v = .map (some w.heap.size) /\ MapF .string w' w.heap.size (kwL.map Value.string) (fun _ => .bool true) /\ Upd No w w' := by
  refine reserved_text _ _ (newM_mk (d := .string) (f := fun _ => .bool true) fun w1 M1 u1 s1 => ?_); refine fields_c (g.keep u1) (s := kwB) (l := kwL) (by decide +kernel) ?_ rfl fun w3 B3 u3 s3 => ⟨_, _, _, rfl, ?_⟩
  . intro j b h; have : ∀ b ∈ kwB.data.toList, b.toNat < 128 := by decide +kernel
    exact this b (List.mem_of_getElem? h)
  have M3 := M1.upd u3 id; have hlen := kwL_len; refine ⟨fun n w' => ∃ i : Nat, n = i /\ i <= kwL.length /\ MapF .string w' w.heap.size ((kwL.take i).map Value.string) (fun _ => .bool true) /\ Upd (· = w.heap.size) w3 w', fun n _ => (kwL.length - n).toNat, ⟨0, rfl, Nat.zero_le _, M3, Upd.refl _ _⟩, ?_⟩; rintro n w10 ⟨i, rfl, hi, M10, u10⟩ _; refine brC_intro (fun hlt => ?_) fun hge => ?_
  . have hlt : i < kwL.length := by have := of_decide_eq_true hlt; omega
    have hc : w10.cell? (Addr.add ⟨w1.heap.size, 0, none⟩ (Int.toNat (i : Int) * 1)) = some (.string kwL[i]) := by
      rw [add_mk, Int.toNat_natCast, Nat.mul_one, Nat.zero_add]; exact (B3.upd u10 (by omega)).cell (by simp [hlt])
    refine ⟨by omega, by omega, ptrC_some ⟨kwL[i], hc, ?_⟩⟩; refine update_out undWords undS (by simp [IsKey]) M10 (nodup_take_notin kwL_nodup hlt) (.bool true) rfl (fun _ _ _ => rfl) fun w15 M15 u15 s15 => ?_; rw [wrap_succ (by omega)]; refine ⟨⟨i + 1, rfl, hlt, ?_, u10.trans u15 fun _ _ x => x⟩, by dsimp only; omega⟩; rw [List.take_add_one, List.getElem?_eq_getElem hlt, Option.toList_some, List.map_append]; exact M15
  . have : i = kwL.length := by have := of_decide_eq_false hge; omega
    subst this; rw [List.take_length] at M10; exact ⟨rfl, M10, (up u1 u3).trans u10 fun x hx (e : x = _) => by omega⟩
theorem letter_spec (x : UInt8) (w : World) : callC Tryz.prog 132 #[.int .u8 (x.toNat : Int)] w fun v w' => v = .bool (letter x) /\ w' = w := by
  refine letter_text _ _ _ ?_; rw [<- lettI_eq]; unfold lettI; refine brC_intro (fun h1 => brC_intro (fun h2 => ⟨?_, rfl⟩) fun h2 => brC_intro (fun h3 => brC_intro (fun h4 => ⟨?_, rfl⟩) fun h4 => ⟨?_, rfl⟩) fun h3 => ⟨?_, rfl⟩) fun h1 => brC_intro (fun h3 => brC_intro (fun h4 => ⟨?_, rfl⟩) fun h4 => ⟨?_, rfl⟩) fun h3 => ⟨?_, rfl⟩ <;> (congr 1; rw [Bool.eq_iff_iff]; simp only [Bool.or_eq_true, Bool.and_eq_true, decide_eq_true_eq, decide_eq_false_iff_not, beq_iff_eq, eq_self, true_iff] at *; omega)
theorem digit_spec (x : UInt8) (w : World) : callC Tryz.prog 135 #[.int .u8 (x.toNat : Int)] w fun v w' => v = .bool (digit x) /\ w' = w := by
  refine digit_text _ _ _ (brC_intro (fun h1 => ⟨?_, rfl⟩) fun h1 => ⟨?_, rfl⟩)
  . congr 1
    unfold digit; have h1 := of_decide_eq_true h1; rw [Bool.eq_iff_iff]; simp only [decide_eq_true_eq, Bool.and_eq_true]; omega
  . congr 1
    unfold digit; have h1 := of_decide_eq_false h1
    symm
    rw [Bool.and_eq_false_iff]; left; exact decide_eq_false (by omega)
def memB (s : ByteArray) (l : List ByteArray) : Bool := l.any fun x => decide (s = x)
theorem memB_iff {s : ByteArray} {l : List ByteArray} : memB s l = true ↔ s ∈ l := by simp [memB]
theorem memB_not {s : ByteArray} {l : List ByteArray} (h : s ∉ l) : memB s l = false := by
  cases hb : memB s l with
  | false => rfl
  | true => exact (h (memB_iff.1 hb)).elim
theorem index_spec {w : World} {p : Option Addr} {n c : Nat} {l : List ByteArray} (h : StrsAt w p l) (hn : n = l.length) (hm : n <= 1000000) (s : ByteArray) :
    callC Tryz.prog 182 #[.slice p n c, .string s] w fun v w' => v = .bool (memB s l) /\ w' = w := by
  subst hn; refine contains_text _ _ _ _ _ _ (index_text _ _ _ _ _ _ ⟨fun n w' => ∃ i : Nat, n = i /\ i <= l.length /\ w' = w /\ s ∉ l.take i, fun n _ => (l.length - n).toNat, ⟨0, rfl, Nat.zero_le _, rfl, by simp⟩, ?_⟩); rintro n w3 ⟨i, rfl, hi, rfl, hno⟩ _; refine brC_intro (fun hlt => ?_) fun hge => ⟨_, rfl, ?_, rfl⟩
  . have hlt : i < l.length := by have := of_decide_eq_true hlt; omega
    obtain ⟨a, rfl, hc⟩ := h i hlt; refine ⟨by omega, by omega, ptrC_some ⟨l[i], by rw [Int.toNat_natCast]; exact hc, ?_⟩⟩; rw [beq_bytes]; refine brC_intro (fun he => ⟨_, rfl, ?_, rfl⟩) fun he => ?_
    . have he := of_decide_eq_true he; rw [memB_iff.2 (he ▸ List.getElem_mem hlt), decide_eq_true (by omega)]
    . have he := of_decide_eq_false he; rw [wrap_succ (by omega)]; refine ⟨⟨i + 1, rfl, hlt, rfl, ?_⟩, by dsimp only; omega⟩; rw [List.take_add_one, List.getElem?_eq_getElem hlt, Option.toList_some, List.mem_append]; rintro (h | h)
      . exact hno h
      . exact he (by simpa using h)
  . have : i = l.length := by have := of_decide_eq_false hge; omega
    subst this; rw [List.take_length] at hno; rw [memB_not hno]; rfl
theorem ext_txt (s : ByteArray) (a b : Nat) : txt (s.extract a b) = ((txt s).drop a).take (b - a) := by
  unfold txt; rw [ByteArray.data_extract, Array.toList_extract, List.extract_eq_take_drop]
theorem ext_eq (s : ByteArray) (a b : Nat) : s.extract a b = bs (((txt s).drop a).take (b - a)) := by rw [<- ext_txt, bs_txt]
theorem takeWhile_len {f : UInt8 -> Bool} : ∀ {l : List UInt8} {n : Nat}, n <= l.length -> (∀ j, (h : j < l.length) -> j < n -> f l[j] = true) -> (∀ h : n < l.length, f l[n] = false) -> (l.takeWhile f).length = n
  | [], n, hn, _, _ => by simp at hn; subst hn; rfl
  | x :: l, 0, _, _, h => by
    have := h (by simp); simp at this; simp [this]
  | x :: l, n + 1, hn, h1, h2 => by
    have hx : f x = true := h1 0 (by simp) (by omega); have := takeWhile_len (f := f) (l := l) (n := n) (by simpa using hn) (fun j h hj => h1 (j + 1) (by simpa using h) (by omega)) (fun h => h2 (by simpa using h)); simp [hx, this]
theorem takeWhile_take (f : UInt8 -> Bool) : ∀ l : List UInt8, l.take (l.takeWhile f).length = l.takeWhile f
  | [] => rfl
  | x :: l => by
    simp only [List.takeWhile_cons]; split
    . simp [takeWhile_take f l]
    . rfl
def FnB (fv : Value) (f : UInt8 -> Bool) : Prop := ∀ (x : UInt8) (w : World) (K : KV), K (.bool (f x)) w -> invC Tryz.prog fv #[.int .u8 (x.toNat : Int)] w K
abbrev LxAt (w : World) (k : Nat) (s : ByteArray) (a : Nat) (m : Nat) (sg ou : Value) : Prop := Blk w k #[.string s, .int .i64 (a : Int), .map (some m), sg, ou] 155
theorem row_spec {w : World} {k m a : Nat} {s : ByteArray} {sg ou : Value} {fn : Fn} {fa fc : Array Value} {f : UInt8 -> Bool} (B : LxAt w k s a m sg ou) (ha : a <= s.size) (hs : s.size <= 1000000000000) (hf : FnB (.func fn fa fc) f) {K : KV}
    (hk : ∀ w', LxAt w' k s (a + ((txt s).drop a |>.takeWhile f).length) m sg ou -> Upd (· = k) w w' -> K (.string (bs ((txt s).drop a |>.takeWhile f))) w') :
    callC Tryz.prog 133 #[.pointer (some ⟨k, 0, none⟩), .func fn fa fc] w K := by
  have hsz := size_txt s; have hl : ((txt s).drop a).length = s.size - a := by rw [List.length_drop, <- hsz]
  have hle : ((txt s).drop a |>.takeWhile f).length <= s.size - a := by rw [<- hl]; exact (List.takeWhile_sublist f).length_le
  refine row_text _ _ _ _ _ _ (ptrC_some ⟨_, B.cell rfl, fun n w' => w' = w /\ n = ((a + ((txt s).drop a |>.takeWhile f).length : Nat) : Int), ?_, ?_⟩)
  . rintro n w4 ⟨rfl, rfl⟩ _; refine drawC_mk fun w6 u6 s6 => ptrC_some ⟨_, (B.upd u6 id).cell rfl, ptrC_some ⟨_, (B.upd u6 id).cell rfl, by omega, by omega, by omega, ptrC_some ?_⟩⟩; refine stC_mk (B.upd u6 id) (by simp) fun w12 B12 u12 s12 => ?_; have := hk w12 B12 (u6.no.trans u12 fun _ _ x => x); rw [Int.toNat_natCast, Int.toNat_natCast, ext_eq, show a + ((txt s).drop a |>.takeWhile f).length - a = ((txt s).drop a |>.takeWhile f).length by omega, takeWhile_take]; exact this
  refine ⟨fun n w' => ∃ i : Nat, n = i /\ a <= i /\ i <= s.size /\ w' = w /\ ∀ j, (h : j < ((txt s).drop a).length) -> j < i - a -> f ((txt s).drop a)[j] = true, fun n _ => (s.size - n).toNat, ⟨a, rfl, Nat.le_refl _, ha, rfl, fun j _ hj => by omega⟩, ?_⟩; rintro n w16 ⟨i, rfl, hai, his, rfl, hall⟩ _
  have stop : (∀ h : i - a < ((txt s).drop a).length, f ((txt s).drop a)[i - a] = false) -> ((i : Nat) : Int) = ((a + ((txt s).drop a |>.takeWhile f).length : Nat) : Int) := fun h => by
    have hh := takeWhile_len (by clear h; omega) hall h; clear h; rw [hh]; omega
  refine ⟨fun w' => w' = w16 /\ ∃ h : i - a < ((txt s).drop a).length, f ((txt s).drop a)[i - a] = true, ?_, ptrC_some ⟨_, B.cell rfl, brC_intro (fun hlt => ?_) fun hge => ⟨rfl, stop fun h => ?_⟩⟩⟩
  . rintro w19 ⟨rfl, hlt, hfx⟩ _; clear stop; rw [wrap_succ (by omega)]; refine ⟨⟨i + 1, rfl, by omega, by omega, rfl, fun j h hj => ?_⟩, by dsimp only; omega⟩; rcases Nat.lt_or_ge j (i - a) with h' | h'
    . exact hall j h h'
    . have : j = i - a := by omega
      subst this; exact hfx
  . have hlt : i < s.size := by have := of_decide_eq_true hlt; clear stop; omega
    refine ptrC_some ⟨_, B.cell rfl, Int.natCast_nonneg i, Int.ofNat_lt.2 hlt, ?_⟩; rw [Int.toNat_natCast, byteAt_txt hlt]
    have he : (txt s)[i]'(by rw [<- hsz]; exact hlt) = ((txt s).drop a)[i - a]'(by clear stop; omega) := by
      rw [List.getElem_drop]
      congr 1
      clear stop; omega
    rw [he]; refine hf _ _ _ ⟨_, rfl, brC_intro (fun hb => ⟨rfl, by clear stop; omega, hb⟩) fun hb => ⟨rfl, stop fun _ => hb⟩⟩
  . have := of_decide_eq_false hge; clear stop; omega
def lineF (l : List UInt8) : List UInt8 := (Lib.cut l [10]).1
theorem line_spec {w : World} {k m a : Nat} {s : ByteArray} {sg ou : Value} (g : Gl w) (B : LxAt w k s a m sg ou) (ha : a <= s.size) (hs : s.size < 4294967281) :
    callC Tryz.prog 130 #[.pointer (some ⟨k, 0, none⟩)] w fun v w' => v = .string (bs (lineF ((txt s).drop a))) /\ Upd No w w' := by
  refine line_text _ _ _ (drawC_mk fun w0 u0 s0 => ⟨fun w' => Upd No w0 w', ptrC_some ⟨_, (B.upd u0 id).cell rfl, fun w4 u4 => lds_str (cell_keep ((B.upd u0 id).cell rfl) u4), ptrC_some ⟨_, (B.upd u0 id).cell rfl, fun w7 u7 => lds_int (cell_keep ((B.upd u0 id).cell rfl) u7), by omega, by omega, by omega, ?_, trivial⟩⟩⟩); have hsz := size_txt s
  have hx : (ByteArray.extract s (Int.toNat (a : Int)) (Int.toNat (s.size : Int))).data.toList = (txt s).drop a := by
    have := ext_txt s (Int.toNat (a : Int)) (Int.toNat (s.size : Int)); unfold txt at this ⊢; rw [this, Int.toNat_natCast, Int.toNat_natCast]; exact List.take_of_length_le (by rw [List.length_drop]; unfold txt at hsz; omega)
  generalize hxx : ByteArray.extract s (Int.toNat (a : Int)) (Int.toNat (s.size : Int)) = x at hx; have hxz : x.size = ((txt s).drop a).length := by rw [<- hx]; exact size_txt x
  have hxl : x.size < 4294967281 := by rw [hxz, List.length_drop]; omega
  have hge := Lib.index_ge ((txt s).drop a) [10]; refine cut1_text _ _ _ _ (cut0_text _ _ _ _ (callC_of_calls (Any.stringslite_Index_one { Tryz.containsL with } x 10 w0) fun e w' ⟨he, hw⟩ => ⟨_, he, _, rfl, ?_⟩)); subst hw; rw [hx, <- Lib.index_one]
  have key : lineF ((txt s).drop a) = if 0 <= Lib.index ((txt s).drop a) [10] then ((txt s).drop a).take (Lib.index ((txt s).drop a) [10]).toNat else (txt s).drop a := by
    unfold lineF Lib.cut; split <;> rfl
  refine brC_intro (fun h => drawC_mk fun w3 u3 _ => ?_) fun h => ⟨_, _, _, rfl, _, _, _, rfl, Upd.refl _ _, ?_, u0⟩
  . have h := of_decide_eq_true h; have hroom := Lib.index_room ((txt s).drop a) [10] h; generalize Lib.index ((txt s).drop a) [10] = n at *; have h1 : (ByteArray.mk #[10]).size = 1 := rfl; have h2 : ([10] : List UInt8).length = 1 := rfl; have e : IntKind.wrap .i64 (n + (((ByteArray.mk #[10]).size : Nat) : Int)) = n + 1 := by rw [h1, Go.SX.wrap_small (by omega) (by omega)]; rfl
    rw [e]; refine ⟨by omega, h, by omega, by omega, by omega, by omega, _, _, _, rfl, _, _, _, rfl, u3, ?_, up u0 u3⟩; rw [key, if_pos h, ext_eq, <- hx]; unfold txt; simp
  . have h : ¬ 0 <= Lib.index ((txt s).drop a) [10] := of_decide_eq_false h; rw [key, if_neg h, <- hx]; show Value.string x = .string (bs (txt x)); rw [bs_txt]
end Go.Proofs.YtdbkclnlfibgdaaGreatDoor
namespace Go.Proofs.YtdbkclnlfibgdaaGreatDoor
open Go.SX Go.Ty Go.MapKept Go.RowKit
theorem wrap_u32 (x : UInt8) : IntKind.wrap .u32 (x.toNat : Int) = (x.toNat : Int) := by
  have := x.toNat_lt; show ((x.toNat : Int) % 4294967296) = _; omega
theorem wrap_u8 (x : UInt8) : IntKind.wrap .u8 (x.toNat : Int) = (x.toNat : Int) := by
  have := x.toNat_lt; show ((x.toNat : Int) % 256) = _; omega
theorem bwr_spec {n0 bb : Nat} {w : World} {l : List UInt8} (h : Bld n0 bb w l) (x : UInt8) (hx : x.toNat < 128) (hl : l.length + 1 <= 1000000) (hn : n0 <= w.heap.size) :
    callC Tryz.prog 180 #[.pointer (some ⟨bb, 0, none⟩), .int .i32 (x.toNat : Int)] w fun v w' => (∃ m : Int, v = .tuple #[.int .i64 m, .nilIface]) /\ Bld n0 bb w' (l ++ [x]) /\ BStep n0 bb w w' := by
  obtain ⟨i0, hi, hz0, hz1, hz2⟩ := info_parts Tryz.Builder_Extra_str.infoByte; have hu22 : Tryz.prog.underlying 128 = some (.slice 5) := by kernel_rfl
  refine wrune_text _ _ _ _ (callC_of (bcc_spec h) fun v w1 ⟨e, h1, s1⟩ => ⟨e, ?_⟩); obtain ⟨hB, v, hbk, hown, hne⟩ := h1; have hlen : (Lib.byteCells l).length = l.length := Lib.byteCells_length l
  obtain ⟨p3, k4, k5, rfl⟩ : ∃ p3 k4 k5, v = .slice p3 k4 k5 := by
    rcases hown.2 with ⟨hv, _⟩ | ⟨g, cap, cur, fz, hv, _⟩
    . exact ⟨_, _, _, hv⟩
    . exact ⟨_, _, _, hv⟩
  have hw1 := s1.below.size; have Bb : Blk w1 bb #[.pointer (some ⟨bb, 0, none⟩), .slice p3 k4 k5] 130 := hbk; refine ptrC_some ⟨p3, k4, k5, by rw [add_mk]; exact Bb.cell rfl, ptrC_some ⟨p3, k4, k5, by rw [add_mk]; exact Bb.cell rfl, ?_⟩⟩; refine appendRune_text _ _ _ _ _ _ (brC_tt (by rw [wrap_u32]; exact decide_eq_true (by omega)) ?_); rw [wrap_u8]; unfold newC; have B2 := blk_alloc w1 #[.int .u8 (x.toNat : Int)] 5; have u2 := upd_alloc w1 (.cells #[.int .u8 (x.toNat : Int)] 5); have d2 : w1.drawn <= (w1.alloc (.cells #[.int .u8 (x.toNat : Int)] 5)).drawn := Nat.le_refl _; generalize (w1.alloc (.cells #[.int .u8 (x.toNat : Int)] 5)) = w2 at B2 u2 d2; have hown2 : w2.ownsRowF n0 5 1 (.slice p3 k4 k5) (Lib.byteCells l).length (Lib.byteCells l) := hown.kept (row := none) ⟨u2.os, u2.tape, u2.output, u2.size, fun k hk _ => u2.block k hk id⟩ (by cases hv : (Value.slice p3 k4 k5).ownBlock <;> simp)
  obtain ⟨v', w3, hrun, hown', hgrow, _⟩ := run_append_ownF (P := Tryz.prog) (w := w2) n0 128 128 5 i0 (.int .u8 0) 1 1 hu22 hi hz0 hz1 hz2 rfl (by omega) _ _ _ hown2 ⟨w1.heap.size, 0, none⟩ 1 1 [.int .u8 (x.toNat : Int)] rfl
    (fun j u hj => by
      have : j = 0 := by
        rcases j with _ | j
        . rfl
        . simp at hj
      subst this; simp at hj; subst hj; rw [add_mk]; exact B2.cell rfl) (by simp [Value.oneCell']) (by simp only [maxLen]; omega) (by omega) (by have := u2.size; omega)
  have hlt : bb < w2.heap.size := (Bb.upd u2 id).lt
  have hb2 : w3.heap[bb]? = some (.cells #[.pointer (some ⟨bb, 0, none⟩), .slice p3 k4 k5] 130 (0, 0)) := by
    rw [hgrow.block bb hlt (fun e => hne e.symm)]; exact Bb.upd u2 id
  have B3 : Blk w3 bb #[.pointer (some ⟨bb, 0, none⟩), .slice p3 k4 k5] 130 := hb2
  obtain ⟨p8, k9, k10, rfl⟩ : ∃ p3 k4 k5, v' = .slice p3 k4 k5 := by
    rcases hown'.2 with ⟨hv, _⟩ | ⟨g, cap, cur, fz, hv, _⟩
    . exact ⟨_, _, _, hv⟩
    . exact ⟨_, _, _, hv⟩
  refine ⟨_, _, hrun, p8, k9, k10, rfl, p8, k9, k10, rfl, ptrC_some ?_⟩; rw [add_mk]; refine ⟨⟨_, B3.cell rfl⟩, B3.frozen _, ptrC_some ⟨p8, k9, k10, ?_, ⟨_, rfl⟩, .inr ?_, ?_⟩⟩
  . rw [add_mk]; exact (B3.set 1 (.slice p8 k9 k10)).cell rfl
  . have := Lib.BuilderAtF.put (T := 130) (e := 5) hB hb2 (bs' := Lib.byteCells l ++ Lib.byteCells [x]) (by rw [List.length_append]; exact hown') (by decide); rw [byteCells_append] at this; exact this
  . have hd := run_drawn _ _ _ _ hrun; have s2 : BStep n0 bb w1 w2 := BStep.upd u2 (by omega) d2; refine (s1.trans s2).trans ⟨?_, ?_, hd⟩
    . exact ((Below.refl n0 w2).grown hgrow (by omega) (fun k hk => (hown2.lt k hk).1)).setCell (p := ⟨bb, 1, none⟩) hB _
    . exact ((Lib.OthersKept.refl _ _ w2).grown hgrow (Lib.ownsRowF_kind hown2)).setCell ⟨bb, 1, none⟩ rfl _
def StrIt (w : World) (r : Nat) (s : ByteArray) (p : Nat) : Prop := w.heap[r]? = some (.stringIter s p)
theorem StrIt.lt {w : World} {r : Nat} {s : ByteArray} {p : Nat} (h : StrIt w r s p) : r < w.heap.size := (Array.getElem?_eq_some_iff.1 h).1
theorem StrIt.upd {w w' : World} {r : Nat} {s : ByteArray} {p : Nat} (h : StrIt w r s p) {S : Nat -> Prop} (u : Upd S w w') (hn : ¬ S r) : StrIt w' r s p := by
  unfold StrIt; rw [u.block r h.lt hn]; exact h
theorem range_str {w : World} {s : ByteArray} {K : KV} (hk : ∀ w', StrIt w' w.heap.size s 0 -> Upd No w w' -> w.drawn <= w'.drawn -> K (.pointer (some ⟨w.heap.size, 0, none⟩)) w') : runC Tryz.prog (Instr.range 9 (.string s)) w K :=
  ⟨_, _, run_range_string w 9 s (by kernel_rfl), hk _ (World.iter_heap w s 0) (upd_alloc _ _) (Nat.le_refl _)⟩
theorem next_str {w : World} {r p : Nat} {s : ByteArray} (h : StrIt w r s p) (hp : p < s.size) (ha : (s[p]'hp).toNat < 128) (ty : TypeId) {K : KV}
    (hk : ∀ w', StrIt w' r s (p + 1) -> Upd (· = r) w w' -> w.drawn <= w'.drawn -> K (.tuple #[.bool true, .int .i64 (p : Int), .int .i32 ((s[p]'hp).toNat : Int)]) w') : runC Tryz.prog (Instr.next (.pointer (some ⟨r, 0, none⟩)) true ty) w K := by
  refine ⟨_, { w with heap := w.heap.setIfInBounds r (.stringIter s (p + 1)) }, ?_, hk _ ?_ (upd_set w r _) (Nat.le_refl _)⟩
  . unfold StrIt at h; simp only [Instr.next, getObj, setObj, Sem.run_bind, Sem.run, h, Result.andThen, hp, if_true, decode_ascii s p hp ha]; simp [goInt]
  . have := h.lt; unfold StrIt; simp [this]
theorem next_end {w : World} {r p : Nat} {s : ByteArray} (h : StrIt w r s p) (hp : ¬ p < s.size) (ty : TypeId) {K : KV} (hk : K (.tuple #[.bool false]) w) : runC Tryz.prog (Instr.next (.pointer (some ⟨r, 0, none⟩)) true ty) w K := by
  refine ⟨_, w, ?_, hk⟩; unfold StrIt at h; simp [Instr.next, getObj, Sem.run, h, hp]
def posOf (w : World) (r : Nat) : Nat := match w.heap[r]? with | some (.stringIter _ p) => p | _ => 0
theorem StrIt.pos {w : World} {r : Nat} {s : ByteArray} {p : Nat} (h : StrIt w r s p) : posOf w r = p := by
  unfold posOf; rw [h]
theorem character_spec {w : World} {k m a : Nat} {s : ByteArray} {sg ou : Value} (B : LxAt w k s a m sg ou) {p : Nat} (hp : p < s.size) (ha : (s[p]'hp).toNat < 128) {K R : KV} (hk : K (.tuple #[]) w) :
    callX Tryz.prog 131 #[.pointer (some ⟨k, 0, none⟩), .int .i64 (p : Int), .int .i32 ((s[p]'hp).toNat : Int)] w K R := by
  refine character_text _ _ _ _ _ _ (ptrC_some ⟨_, B.cell rfl, by omega, by omega, by omega, ?_⟩); refine callC_of_calls (Any.utf8_DecodeRuneInString_ascii Tryz.drL (ByteArray.extract s (Int.toNat (p : Int)) (Int.toNat (s.size : Int))) (s[p]'hp) w ?_ ha) fun e w' ⟨he, hw⟩ => ⟨_, he, _, _, rfl, fun b w' => b = false /\ w' = w, ?_, ?_⟩
  . have := ext_txt s (Int.toNat (p : Int)) (Int.toNat (s.size : Int)); unfold txt at this; rw [this, Int.toNat_natCast, Int.toNat_natCast, List.getElem?_take, if_pos (by omega), List.getElem?_drop, Nat.add_zero]; rw [List.getElem?_eq_getElem (by have := size_txt s; unfold txt at this; omega)]; rfl
  . rintro b w8 ⟨rfl, rfl⟩ _; exact brC_ff rfl hk
  . subst hw; refine brC_ff ?_ ⟨rfl, rfl⟩; rw [beq_eq_false_iff_ne]; omega
theorem lineF_get {l : List UInt8} {n : Nat} (hn : n <= l.length) (h : ∀ i, (hi : i < l.length) -> i < n -> l[i] ≠ 10) : n <= (lineF l).length /\ ∀ i, i < n -> (lineF l)[i]? = l[i]? := by
  unfold lineF Lib.cut; split
  . rename_i h0; rcases Lib.index_spec l [10] with ⟨e, _⟩ | ⟨j, e, hj, ho, _⟩
    . rw [e] at h0; omega
    . have hroom := Lib.index_room l [10] h0; rw [e] at hroom ⊢; have hj' : j < l.length := by simp at hroom; omega
      have hl : l[j] = 10 := by
        have := ho; unfold Lib.occAt at this; rw [List.drop_eq_getElem_cons hj'] at this; have e : 10 = l[j] := by simpa [List.isPrefixOf] using this
        exact e.symm
      have hjn : n <= j := by
        rcases Nat.lt_or_ge j n with hx | hx
        . exact (h j hj' hx hl).elim
        . exact hx
      refine ⟨?_, fun i hi => ?_⟩
      . simp; omega
      . simp only [Int.toNat_natCast]; rw [List.getElem?_take, if_pos (by omega)]
  . exact ⟨hn, fun _ _ => rfl⟩
theorem bld_other {n0 bb r : Nat} {w w' : World} {l : List UInt8} (h : Bld n0 bb w l) (u : Upd (· = r) w w') (hne : r ≠ bb) (hr : ∀ c fz, w.heap[r]? ≠ some (.cells c 5 fz)) : Bld n0 bb w' l := by
  have key : ∀ p, Lib.BuilderAtF 130 5 n0 bb p (Lib.byteCells l) w -> Lib.BuilderAtF 130 5 n0 bb p (Lib.byteCells l) w' := fun p h => by
    have hlt := h.lt; obtain ⟨hB, v, hb, hown, hv⟩ := h; refine ⟨hB, v, (u.block bb hlt fun e => hne e.symm).trans hb, hown.kept (row := some r) ⟨u.os, u.tape, u.output, u.size, fun k hk e => u.block k hk fun e' => e (by rw [e'])⟩ ?_, hv⟩; rcases hown.2 with ⟨rfl, _⟩ | ⟨g, cap, cur, fz, rfl, _, hg, _⟩
    . exact .inl rfl
    . refine .inr fun e => ?_; have : g = r := by simpa [Value.ownBlock] using e
      subst this; exact hr _ _ hg
  exact h.elim (fun x => .inl (key _ x)) fun x => .inr (key _ x)
def qOk (c : UInt8) : Bool := decide (c.toNat < 128) && decide (c ≠ 34) && decide (c ≠ 92) && decide (c ≠ 10)
theorem qOk_out {c : UInt8} (h : qOk c = true) : c.toNat < 128 /\ c ≠ 34 /\ c ≠ 92 /\ c ≠ 10 := by
  simp only [qOk, Bool.and_eq_true, decide_eq_true_eq] at h; exact ⟨h.1.1.1, h.1.1.2, h.1.2, h.2⟩
theorem toNat_ne {c d : UInt8} (h : c ≠ d) : ((c.toNat : Int) == (d.toNat : Int)) = false := by
  rw [beq_eq_false_iff_ne]; intro e; exact h (UInt8.toNat_inj.1 (by omega))
theorem quoted_spec {w : World} {k m a : Nat} {s : ByteArray} {sg ou : Value} (g : Gl w) (B : LxAt w k s a m sg ou) (hs : s.size <= 100000) {body rest : List UInt8} (hq : (txt s).drop a = 34 :: (body ++ 34 :: rest)) (hb : body.all qOk = true) (hne : body ≠ []) {K R : KV}
    (hk : ∀ w', LxAt w' k s (a + (body.length + 2)) m sg ou -> Upd (· = k) w w' -> K (.string (bs body)) w') :
    callX Tryz.prog 138 #[.pointer (some ⟨k, 0, none⟩)] w K R := by
  have hsz := size_txt s
  have hlen : s.size - a = body.length + (rest.length + 2) := by
    have := congrArg List.length hq; simp only [List.length_drop, List.length_cons, List.length_append] at this; omega
  have hpos : 0 < body.length := List.length_pos_iff.2 hne; have klt := B.lt; refine quoted_text _ _ _ _ ?_; unfold newC; have Bb := bld_new (blk_alloc w #[.pointer none, .slice none 0 0] 130); have u1 := upd_alloc w (.cells #[.pointer none, .slice none 0 0] 130); have s1 : w.heap.size + 1 = (w.alloc (.cells #[.pointer none, .slice none 0 0] 130)).heap.size := by simp
  generalize w.alloc (.cells #[.pointer none, .slice none 0 0] 130) = w1 at Bb u1 s1; refine callC_of (line_spec (g.keep u1) (B.upd u1 id) (by omega) (by omega)) fun v w3 ⟨e, u3⟩ => ⟨_, e, ?_⟩; rw [hq]
  have hcs : ∀ i, i < body.length + 2 -> (lineF (34 :: (body ++ 34 :: rest)))[i]? = (34 :: (body ++ 34 :: rest))[i]? := by
    refine (lineF_get (n := body.length + 2) (by simp) fun i hi hin => ?_).2; rcases Nat.eq_zero_or_pos i with rfl | hp
    . rw [List.getElem_cons_zero]; decide
    . obtain ⟨j, rfl⟩ : ∃ j, i = j + 1 := ⟨i - 1, by omega⟩; rw [List.getElem_cons_succ]; rcases Nat.lt_or_ge j body.length with hj | hj
      . rw [List.getElem_append_left hj]; exact (qOk_out (List.all_eq_true.1 hb _ (List.getElem_mem hj))).2.2.2
      . have : j = body.length := by omega
        subst this; simp
  have hln : body.length + 2 <= (lineF (34 :: (body ++ 34 :: rest))).length := by
    rcases Nat.lt_or_ge (body.length + 1) (lineF (34 :: (body ++ 34 :: rest))).length with h | h
    . omega
    . have := hcs (body.length + 1) (by omega); rw [List.getElem?_eq_none h, List.getElem?_eq_getElem (by simp)] at this; cases this
  generalize lineF (34 :: (body ++ 34 :: rest)) = ln at hcs hln; have hlb : (bs ln).size = ln.length := by rw [size_txt, txt_bs]
  have hget : ∀ i, (hi : i < body.length + 2) -> (bs ln)[i]'(by omega) = (34 :: (body ++ 34 :: rest))[i]'(by simp; omega) := by
    intro i hi; have h1 := hcs i hi; rw [List.getElem?_eq_getElem (by omega), List.getElem?_eq_getElem (by simp; omega)] at h1
    have h2 : (bs ln)[i]'(by omega) = ln[i]'(by omega) := by
      show ((bs ln).data[i]'(by have := hlb; simp only [ByteArray.size] at this; omega)) = _; simp [bs]
    rw [h2]; exact Option.some.inj h1
  refine range_str fun w6 I6 u6 d6 => ?_; have U6 : Upd No w1 w6 := up u3 u6; have z3 := u3.size; have z6 := u6.size
  refine ⟨fun b w' => b = false /\ ∃ p, p <= body.length + 1 /\ StrIt w' w3.heap.size (bs ln) p /\ Bld w.heap.size w.heap.size w' (body.take (p - 1)) /\ Upd (From w.heap.size) w1 w', fun _ w' => (bs ln).size - posOf w' w3.heap.size,
    ⟨rfl, 0, by omega, I6, by simpa using bld_upd Bb U6, U6.no⟩, ?_⟩
  rintro b w10 ⟨rfl, p, hp, I10, Bl10, u10⟩ _; have z10 := u10.size; have hpl : p < (bs ln).size := by omega
  have hch := hget p (by omega)
  have hx : ((bs ln)[p]'hpl).toNat < 128 := by
    rw [hch]; rcases Nat.eq_zero_or_pos p with rfl | hp0
    . rw [List.getElem_cons_zero]; decide
    . obtain ⟨j, rfl⟩ : ∃ j, p = j + 1 := ⟨p - 1, by omega⟩; rw [List.getElem_cons_succ]; rcases Nat.lt_or_ge j body.length with hj | hj
      . rw [List.getElem_append_left hj]; exact (qOk_out (List.all_eq_true.1 hb _ (List.getElem_mem hj))).1
      . have : j = body.length := by omega
        subst this; simp
  refine next_str I10 hpl hx _ fun w13 I13 u13 d13 => .inr ⟨_, _, rfl, ?_⟩; have hit : w.heap.size <= w3.heap.size := by omega
  have u13' : Upd (From w.heap.size) w1 w13 := u10.trans u13 fun x _ (e : x = _) => by show w.heap.size <= x; omega
  have B13 : LxAt w13 k s a m sg ou := (B.upd u1 id).upd u13' (fun (h : w.heap.size <= k) => by omega); have Bl13 : Bld w.heap.size w.heap.size w13 (body.take (p - 1)) := bld_other Bl10 u13 (by omega) fun c fz e => by unfold StrIt at I10; rw [I10] at e; cases e
  refine ptrC_some ⟨_, B13.cell rfl, ?_⟩; have mu : ∀ w', StrIt w' w3.heap.size (bs ln) (p + 1) -> (bs ln).size - posOf w' w3.heap.size < (bs ln).size - posOf w10 w3.heap.size := fun w' h => by rw [h.pos, I10.pos]; omega
  rcases Nat.eq_zero_or_pos p with rfl | hp0
  . refine brC_tt rfl ⟨⟨rfl, 1, by omega, I13, by simpa using Bl13, u13'⟩, mu _ I13⟩
  refine brC_ff (by rw [beq_eq_false_iff_ne]; omega) (brC_ff rfl ?_); obtain ⟨j, rfl⟩ : ∃ j, p = j + 1 := ⟨p - 1, by omega⟩; rw [List.getElem_cons_succ] at hch; rw [Nat.add_sub_cancel] at Bl13; rcases Nat.lt_or_ge j body.length with hj | hj
  . rw [List.getElem_append_left hj] at hch; obtain ⟨c1, c2, c3, c4⟩ := qOk_out (List.all_eq_true.1 hb _ (List.getElem_mem hj)); rw [hch]; refine brC_ff (toNat_ne (d := 92) c3) (brC_ff (toNat_ne (d := 34) c2) ?_); have hpos' : a + (j + 1) < s.size := by omega
    have hsx : (s[a + (j + 1)]'hpos') = body[j] := by
      have h1 : (txt s)[a + (j + 1)]'(by omega) = ((txt s).drop a)[j + 1]'(by simp; omega) := by rw [List.getElem_drop]
      have h2 : ((txt s).drop a)[j + 1]'(by simp; omega) = body[j] := by
        simp only [hq]; rw [List.getElem_cons_succ, List.getElem_append_left hj]
      exact h1.trans h2
    have ew : IntKind.wrap .i64 ((a : Int) + ((j + 1 : Nat) : Int)) = ((a + (j + 1) : Nat) : Int) := by rw [Go.SX.wrap_small (by omega) (by omega)]; omega
    rw [ew, <- hsx]; refine character_spec B13 hpos' (by rw [hsx]; exact c1) ⟨rfl, ?_⟩; rw [hsx]; refine callC_of (bwr_spec Bl13 body[j] c1 (by simp; omega) (by have := u13'.size; omega)) fun v w52 ⟨⟨mm, e⟩, Bl52, st⟩ => ⟨_, _, e, ?_⟩; have I52 : StrIt w52 w3.heap.size (bs ln) (j + 1 + 1) := st.others w3.heap.size _ I13 (fun e => by have := Option.some.inj e; omega) fun c fz e => by cases e
    refine ⟨⟨rfl, j + 1 + 1, by omega, I52, ?_, u13'.trans st.upF fun _ _ x => x⟩, mu _ I52⟩; rw [Nat.add_sub_cancel, List.take_add_one, List.getElem?_eq_getElem hj]; exact Bl52
  . have : j = body.length := by omega
    subst this; have e34 : (body ++ 34 :: rest)[body.length]'(by simp) = 34 := by simp
    rw [hch, e34]; refine brC_ff (by decide) (brC_tt (by decide) (ptrC_some ?_)); rw [add_mk]; refine stC_mk B13 (by simp) fun w45 B45 u45 s45 => ?_; rw [List.take_length] at Bl13; have Bl45 : Bld w.heap.size w.heap.size w45 body := bld_other Bl13 u45 (by omega) fun c fz e => by have := B13; unfold LxAt Blk at this; rw [this] at e; cases e
    refine callC_of (bstr_spec Bl45 hne) fun v w47 ⟨e, bl, dl⟩ => ⟨_, e, hk w47 ?_ ?_⟩
    . have : IntKind.wrap .i64 (IntKind.wrap .i64 ((a : Int) + ((body.length + 1 : Nat) : Int)) + 1) = ((a + (body.length + 2) : Nat) : Int) := by
        rw [Go.SX.wrap_small (x := (a : Int) + ((body.length + 1 : Nat) : Int)) (by omega) (by omega), Go.SX.wrap_small (by omega) (by omega)]; omega
      rw [this] at B45; exact B45.upd (S := From w.heap.size) ⟨bl.os, bl.tape, bl.output, bl.size, fun b _ hb => bl.block b (Nat.lt_of_not_le hb)⟩ (fun (h : w.heap.size <= k) => by omega)
    . refine ((u1.no.trans u13' fun x hx (h : w.heap.size <= x) => by omega).trans u45 fun _ _ x => x).trans (T := From w.heap.size) ⟨bl.os, bl.tape, bl.output, bl.size, fun b _ hb => bl.block b (Nat.lt_of_not_le hb)⟩ fun x hx (h : w.heap.size <= x) => by omega
structure Tok where
  kind : Int
  text : ByteArray
  n : Int
  at_ : Nat
def Tok.cells (t : Tok) : List Value := [.int .i64 t.kind, .string t.text, .int .i64 t.n, .int .i64 (t.at_ : Int)]
def tokCells (l : List Tok) : List Value := l.flatMap Tok.cells
theorem tokCells_len : ∀ l : List Tok, (tokCells l).length = l.length * 4
  | [] => rfl
  | t :: l => by
    have := tokCells_len l; simp only [tokCells, List.flatMap_cons, List.length_append, List.length_cons] at this ⊢; rw [this]; show 4 + _ = _; omega
theorem tokCells_snoc (l : List Tok) (t : Tok) : tokCells (l ++ [t]) = tokCells l ++ t.cells := by simp [tokCells]
theorem tokCells_get : ∀ {l : List Tok} {i j : Nat} (hi : i < l.length), j < 4 -> (tokCells l)[i * 4 + j]? = (l[i].cells)[j]?
  | t :: l, 0, j, _, hj => by
    simp only [tokCells, List.flatMap_cons, Nat.zero_mul, Nat.zero_add, List.getElem_cons_zero]; rw [List.getElem?_append_left (by simp [Tok.cells]; omega)]
  | t :: l, i + 1, j, hi, hj => by
    have := tokCells_get (l := l) (i := i) (j := j) (by simpa using hi) hj; simp only [tokCells, List.flatMap_cons] at this ⊢; rw [List.getElem?_append_right (by simp [Tok.cells]; omega)]; have e : (i + 1) * 4 + j - t.cells.length = i * 4 + j := by simp [Tok.cells]; omega
    rw [e]; simpa using this
theorem lds_ptr150 {w : World} {a : Addr} {p : Option Addr} (h : w.cell? a = some (.pointer p)) : Lds Tryz.prog 150 w a (.pointer p) := by
  have key : (∃ p', w.cell? a = some (.pointer p') /\ .pointer p' = Value.pointer p) = ldVC Tryz.prog 150 w a (fun v => v = .pointer p) := by kernel_rfl
  obtain ⟨v, rfl, hr⟩ := semR_out (ldVC_sound (of_eq ⟨_, h, rfl⟩ key)); exact hr w rfl
theorem lds_toks {w : World} {a : Addr} {p : Option Addr} {n c : Nat} (h : w.cell? a = some (.slice p n c)) : Lds Tryz.prog 103 w a (.slice p n c) := by
  have key : (∃ p' n' c', w.cell? a = some (.slice p' n' c') /\ .slice p' n' c' = Value.slice p n c) = ldVC Tryz.prog 103 w a (fun v => v = .slice p n c) := by kernel_rfl
  obtain ⟨v, rfl, hr⟩ := semR_out (ldVC_sound (of_eq ⟨_, _, _, h, rfl⟩ key)); exact hr w rfl
theorem lds_tok {w : World} {b : Nat} {k n p : Int} {s : ByteArray} (h : Blk w b #[.int .i64 k, .string s, .int .i64 n, .int .i64 p] 114) : Lds Tryz.prog 114 w ⟨b, 0, none⟩ (.agg #[.int .i64 k, .string s, .int .i64 n, .int .i64 p]) := by
  have key : (∃ k', w.cell? ⟨b, 0, none⟩ = some (.int .i64 k') /\ ∃ s', w.cell? ⟨b, 1, none⟩ = some (.string s') /\ ∃ n', w.cell? ⟨b, 2, none⟩ = some (.int .i64 n') /\ ∃ p', w.cell? ⟨b, 3, none⟩ = some (.int .i64 p') /\ Value.agg #[.int .i64 k', .string s', .int .i64 n', .int .i64 p'] = Value.agg #[.int .i64 k, .string s, .int .i64 n, .int .i64 p]) =
      ldVC Tryz.prog 114 w ⟨b, 0, none⟩ (fun v => v = .agg #[.int .i64 k, .string s, .int .i64 n, .int .i64 p]) := by kernel_rfl
  obtain ⟨v, rfl, hr⟩ := semR_out (ldVC_sound (of_eq ⟨_, h.cell rfl, _, h.cell rfl, _, h.cell rfl, _, h.cell rfl, rfl⟩ key)); exact hr w rfl
structure Lx (w0 w : World) (s : ByteArray) (a m sb : Nat) (toks : List Tok) : Prop where
  up : Upd No w0 w
  ex : ∃ ou, LxAt w w0.heap.size s a m (.slice (some ⟨sb, 0, none⟩) 17 17) ou /\ RowAt w 114 4 ou (tokCells toks) /\ ∀ b, InRow ou b -> w0.heap.size < b
structure Lx0 (w0 : World) (m sb : Nat) : Prop where
  g : Gl w0
  words : MapF .string w0 m (kwL.map Value.string) fun _ => .bool true
  signs : Blk w0 sb (signsL.map Value.string).toArray ids.str
theorem first_spec {w : World} {p : Option Addr} {n c : Nat} {l : List ByteArray} {fv : Value} {f : ByteArray -> Bool} (h : StrsAt w p l) (hn : n = l.length) (hm : n <= 1000000) (hf : ∀ (w' : World) (s : ByteArray) (K : KV), Upd No w w' -> (∀ w2, Upd No w' w2 -> K (.bool (f s)) w2) -> invC Tryz.prog fv #[.string s] w' K)
    {K : KV} (hk : ∀ w' (i : Nat), Upd No w w' -> (h : i < l.length) -> f l[i] = true -> (∀ j, (hj : j < l.length) -> j < i -> f l[j] = false) -> K (.int .i64 i) w') (hnone : ∀ w', Upd No w w' -> (∀ x ∈ l, f x = false) -> K (.int .i64 (-1)) w') :
    callC Tryz.prog 100 #[.slice p n c, fv] w K := by
  subst hn; refine ixS_text _ _ _ _ _ _ ⟨fun n w' => ∃ i : Nat, n = i /\ i <= l.length /\ Upd No w w' /\ ∀ j, (hj : j < l.length) -> j < i -> f l[j] = false, fun n _ => (l.length - n).toNat, ⟨0, rfl, Nat.zero_le _, Upd.refl _ _, fun j _ h => by omega⟩, ?_⟩; rintro n w3 ⟨i, rfl, hi, u3, hall⟩ _; refine brC_intro (fun hlt => ?_) fun hge => hnone _ u3 fun x hx => ?_
  . have hlt : i < l.length := by have := of_decide_eq_true hlt; omega
    obtain ⟨a, rfl, hc⟩ := h i hlt; refine ⟨by omega, by omega, ptrC_some ⟨l[i], by rw [Int.toNat_natCast]; exact cell_keep hc u3, ?_⟩⟩; refine hf w3 l[i] _ u3 fun w8 u8 => ⟨_, rfl, brC_intro (fun hb => hk _ i (up u3 u8) hlt hb hall) fun hb => ?_⟩; rw [wrap_succ (by omega)]; refine ⟨⟨i + 1, rfl, hlt, up u3 u8, fun j hj hji => ?_⟩, by dsimp only; omega⟩; rcases Nat.lt_or_ge j i with h' | h'
    . exact hall j hj h'
    . have : j = i := by omega
      subst this; exact hb
  . have : i = l.length := by have := of_decide_eq_false hge; omega
    subst this; obtain ⟨j, hj, rfl⟩ := List.mem_iff_getElem.1 hx; exact hall j hj hj
theorem fnB_letter : FnB (.func (.func 134) #[] #[]) fun c => letter c || digit c := fun x w K h => by
  refine of_eq (p := callC Tryz.prog 134 #[.int .u8 (x.toNat : Int)] w K) ?_ (by kernel_rfl); refine token1_text _ _ _ (callC_of (letter_spec x w) fun v w1 ⟨e, ew⟩ => ⟨_, e, ?_⟩); subst ew; refine brC_intro (fun hl => ?_) fun hl => callC_of (digit_spec x w1) fun v w4 ⟨e, ew⟩ => ⟨_, e, ?_⟩
  . simp only [hl, Bool.true_or] at h; exact h
  . subst ew; simp only [hl, Bool.false_or] at h; exact h
def tokF (l : List UInt8) : Option (Int × ByteArray × Nat) :=
  match l with
  | [] => none
  | c :: r =>
    if letter c then
      if (l.takeWhile fun c => letter c || digit c).length <= 24 then some (if memB (bs (l.takeWhile fun c => letter c || digit c)) kwL then 2 else 1, bs (l.takeWhile fun c => letter c || digit c), (l.takeWhile fun c => letter c || digit c).length) else none
    else if digit c then none
    else if c = 34 then
      if (r.takeWhile qOk).isEmpty then none
      else if (r.drop (r.takeWhile qOk).length).head? = some 34 then some (4, bs (r.takeWhile qOk), (r.takeWhile qOk).length + 2) else none
    else match signsL.find? fun g => (txt g).isPrefixOf l with
      | some g => some (5, g, g.size)
      | none => none
structure Tk (w0 w : World) (k0 k5 : Nat) (s : ByteArray) (a' m sb : Nat) (toks : List Tok) (t : Tok) (ou : Value) : Prop where
  up : Upd No w0 w
  b0 : Blk w k0 #[.pointer (some ⟨w0.heap.size, 0, none⟩)] 150
  b5 : Blk w k5 #[.int .i64 t.kind, .string t.text, .int .i64 t.n, .int .i64 (t.at_ : Int)] 114
  lx : LxAt w w0.heap.size s a' m (.slice (some ⟨sb, 0, none⟩) 17 17) ou
  row : RowAt w 114 4 ou (tokCells toks)
  own : ∀ b, InRow ou b -> w0.heap.size < b /\ b ≠ k0 /\ b ≠ k5
  d : w0.heap.size < k0 /\ k0 < k5
section
variable {w0 w w' : World} {k0 k5 : Nat} {s : ByteArray} {a' m sb : Nat} {toks : List Tok} {t : Tok} {ou : Value}
theorem Tk.keep (h : Tk w0 w k0 k5 s a' m sb toks t ou) (u : Upd No w w') : Tk w0 w' k0 k5 s a' m sb toks t ou :=
  ⟨Go.Proofs.YtdbkclnlfibgdaaGreatDoor.up h.up u, h.b0.upd u id, h.b5.upd u id, h.lx.upd u id, h.row.upd u fun _ _ x => x, h.own, h.d⟩
theorem Tk.at5 (h : Tk w0 w k0 k5 s a' m sb toks t ou) {t' : Tok} (u : Upd (· = k5) w w') (B : Blk w' k5 #[.int .i64 t'.kind, .string t'.text, .int .i64 t'.n, .int .i64 (t'.at_ : Int)] 114) : Tk w0 w' k0 k5 s a' m sb toks t' ou :=
  ⟨h.up.trans u fun x hx (e : x = k5) => by have := h.d; omega, h.b0.upd u (fun e => by have := h.d; omega), B, h.lx.upd u (fun e => by have := h.d; omega), h.row.upd u fun b hb e => (h.own b hb).2.2 e, h.own, h.d⟩
theorem Tk.atL (h : Tk w0 w k0 k5 s a' m sb toks t ou) {a2 : Nat} (u : Upd (· = w0.heap.size) w w') (B : LxAt w' w0.heap.size s a2 m (.slice (some ⟨sb, 0, none⟩) 17 17) ou) : Tk w0 w' k0 k5 s a2 m sb toks t ou :=
  ⟨h.up.trans u fun x hx (e : x = _) => by omega, h.b0.upd u (fun e => by have := h.d; omega), h.b5.upd u (fun e => by have := h.d; omega), B, h.row.upd u fun b hb e => by have := (h.own b hb).1; omega, h.own, h.d⟩
theorem Tk.st0 (h : Tk w0 w k0 k5 s a' m sb toks t ou) (k : Int) {K : WP} (hk : ∀ w', Tk w0 w' k0 k5 s a' m sb toks { t with kind := k } ou -> K w') : stC w ⟨k5, 0, none⟩ (.int .i64 k) K :=
  stC_mk h.b5 (by simp) fun w' B u _ => hk w' (h.at5 u B)
theorem Tk.st1 (h : Tk w0 w k0 k5 s a' m sb toks t ou) (x : ByteArray) {K : WP} (hk : ∀ w', Tk w0 w' k0 k5 s a' m sb toks { t with text := x } ou -> K w') : stC w ⟨k5, 1, none⟩ (.string x) K :=
  stC_mk h.b5 (by simp) fun w' B u _ => hk w' (h.at5 u B)
end
theorem find_get {α : Type} {f : α -> Bool} {l : List α} {x : α} (h : l.find? f = some x) {i : Nat} (hi : i < l.length) (hf : f l[i] = true) (hno : ∀ j, (hj : j < l.length) -> j < i -> f l[j] = false) : l[i] = x := by
  obtain ⟨_, j, hj, e, hall⟩ := List.find?_eq_some_iff_getElem.1 h; rcases Nat.lt_trichotomy i j with hlt | rfl | hgt
  . have := hall i hlt; rw [hf] at this; cases this
  . exact e
  . have := hno j hj hgt; have hx : f x = true := List.find?_some h; rw [<- e, this] at hx; cases hx
theorem rowL' {w : World} {k : Nat} {l : List ByteArray} {e : TypeId} (h : Blk w k (l.map Value.string).toArray e) (n : Nat) (hn : l.length = n) (hm : n <= 1000) : RowAt w e 1 (.slice (some ⟨k, 0, none⟩) n n) (l.map Value.string) :=
  ⟨n, by simp [hn], .inr ⟨k, 0, n, _, rfl, h, Nat.le_refl _, by simp only [maxLen]; omega, by simp [hn], by rw [List.drop_zero, Nat.mul_one, List.take_of_length_le (by simp [hn])]⟩⟩
theorem token_spec {w0 w : World} {s : ByteArray} {a m sb : Nat} {toks : List Tok} {kind : Int} {tx : ByteArray} {len : Nat} (L0 : Lx0 w0 m sb) (L : Lx w0 w s a m sb toks) (hs : s.size <= 100000) (ht : toks.length <= 100000)
    (hF : tokF ((txt s).drop a) = some (kind, tx, len)) {K R : KV} (hk : ∀ w', Lx w0 w' s (a + len) m sb (toks ++ [⟨kind, tx, 0, a⟩]) -> K (.tuple #[]) w') :
    callX Tryz.prog 83 #[.pointer (some ⟨w0.heap.size, 0, none⟩)] w K R := by
  obtain ⟨ou, B, row, own⟩ := L.ex; have hsz := size_txt s; have klt := B.lt
  have hal : a < s.size := by
    rcases Nat.lt_or_ge a s.size with h | h
    . exact h
    . rw [List.drop_of_length_le (by omega)] at hF; cases hF
  obtain ⟨c, r, hcr⟩ : ∃ c r, (txt s).drop a = c :: r := by
    cases h : (txt s).drop a with
    | nil => have := congrArg List.length h; simp at this; omega
    | cons c r => exact ⟨c, r, rfl⟩
  have hca : (txt s)[a]'(by omega) = c := by
    have := List.drop_eq_getElem_cons (l := txt s) (i := a) (by omega); rw [hcr] at this; exact (List.cons.inj this).1.symm
  refine token_text _ _ _ _ (newC_mk fun w1 B1 u1 s1 => ⟨_, B1.cell rfl, ptrC_some ⟨_, (B.upd u1 id).cell rfl, newC_mk fun w6 B6 u6 s6 => ?_⟩⟩); have T6 : Tk w0 w6 w.heap.size w1.heap.size s a m sb toks ⟨0, .empty, 0, 0⟩ ou := ⟨up L.up (up u1 u6), B1.upd u6 id, B6, B.upd (up u1 u6) id, row.upd (up u1 u6) fun _ _ x => x, fun b hb => ⟨own b hb, by have := row.lt hb; omega, by have := row.lt hb; omega⟩, by omega, by omega⟩; refine T6.st0 0 fun w7 T7 => T7.st1 _ fun w8 T8 => ?_; refine stC_mk T8.b5 (by simp) fun w9 B9 u9 _ => ?_; have T9 : Tk w0 w9 w.heap.size w1.heap.size s a m sb toks ⟨0, .empty, 0, 0⟩ ou := T8.at5 (t' := ⟨0, .empty, 0, 0⟩) u9 B9; refine stC_mk T9.b5 (by simp) fun w10 B10 u10 _ => ?_; have T10 : Tk w0 w10 w.heap.size w1.heap.size s a m sb toks ⟨0, .empty, 0, a⟩ ou := T9.at5 (t' := ⟨0, .empty, 0, a⟩) u10 B10; clear T6 T7 T8 T9 B9 u9 B10 u10 B1 B6 u1 u6 B row own; generalize w.heap.size = k0 at T10; generalize w1.heap.size = k5 at T10; have G10 := L0.g.keep T10.up; refine ⟨fun w' => Tk w0 w' k0 k5 s (a + len) m sb toks ⟨kind, tx, 0, a⟩ ou, fun w12 T12 _ => ?_, ?_⟩
  . -- the token is taken up
    refine drawC_mk fun w14 u14 _ => ?_; have T14 := T12.keep u14; obtain ⟨p, n, cp, rfl, hn, hnc, hcm⟩ := T14.row.shape; have hnl : n = toks.length := by rw [tokCells_len] at hn; omega
    refine ⟨fun w' => Tk w0 w' k0 k5 s (a + len) m sb toks ⟨kind, tx, 0, a⟩ (.slice p n cp) \/ (Blk w' k0 #[.pointer (some ⟨w0.heap.size, 0, none⟩)] 150 /\ Blk w' k5 #[.int .i64 kind, .string tx, .int .i64 0, .int .i64 (a : Int)] 114 /\ LxAt w' w0.heap.size s (a + len) m (.slice (some ⟨sb, 0, none⟩) 17 17) (.slice p n cp)), ?_⟩
    have f0 : ∀ {w'}, (Tk w0 w' k0 k5 s (a + len) m sb toks ⟨kind, tx, 0, a⟩ (.slice p n cp) \/ (Blk w' k0 #[.pointer (some ⟨w0.heap.size, 0, none⟩)] 150 /\ Blk w' k5 #[.int .i64 kind, .string tx, .int .i64 0, .int .i64 (a : Int)] 114 /\ LxAt w' w0.heap.size s (a + len) m (.slice (some ⟨sb, 0, none⟩) 17 17) (.slice p n cp))) ->
        Blk w' k0 #[.pointer (some ⟨w0.heap.size, 0, none⟩)] 150 /\ Blk w' k5 #[.int .i64 kind, .string tx, .int .i64 0, .int .i64 (a : Int)] 114 /\ LxAt w' w0.heap.size s (a + len) m (.slice (some ⟨sb, 0, none⟩) 17 17) (.slice p n cp) := fun h => h.elim (fun h => ⟨h.b0, h.b5, h.lx⟩) id
    refine ⟨_, T14.b0.cell rfl, fun w17 h => lds_ptr150 ((f0 h).1.cell rfl), _, T14.b0.cell rfl, fun w19 h => lds_ptr150 ((f0 h).1.cell rfl), ptrC_some ⟨p, n, cp, by rw [add_mk]; exact T14.lx.cell rfl, fun w24 h => lds_toks (by rw [add_mk]; exact (f0 h).2.2.cell rfl),
      _, T14.b5.cell rfl, _, T14.b5.cell rfl, _, T14.b5.cell rfl, _, T14.b5.cell rfl, fun w29 h => lds_tok (f0 h).2.1, newC_mk fun w31 B31 u31 s31 => ⟨.inl (T14.keep u31), ?_, trivial⟩, trivial⟩⟩
    have T31 := T14.keep u31; obtain ⟨io, hj1, hj2, hj3, hj4⟩ := info_get (P := Tryz.prog) (e := 114) (s := 4) (b := 40) (z := .agg #[.int .i64 0, .string ByteArray.empty, .int .i64 0, .int .i64 0]) (by kernel_rfl)
    refine append_row (size := 4) (bytes := 40) (by kernel_rfl) hj1 hj2 hj3 hj4 rfl T31.row (n := n) hn ⟨w14.heap.size, 0, none⟩ 1 1 (Tok.cells ⟨kind, tx, 0, a⟩) (by omega) (by omega) rfl (fun j u hj => by rw [add_mk]; exact B31.cell (by rw [Nat.zero_add]; simpa [Tok.cells] using hj)) (by simp [Tok.cells, Value.oneCell']) (by simp only [maxLen]; omega) (by omega)
      fun v33 w33 r33 u33 h33 => ?_
    obtain ⟨p2, n2, c2, rfl, _⟩ := r33.shape; have hk33 : ∀ b, InRow (.slice p n cp) b -> w0.heap.size < b /\ b ≠ k0 /\ b ≠ k5 := T14.own; have b0 := T31.b0.upd u33 (fun h => (hk33 _ h).2.1 rfl); have b5 := T31.b5.upd u33 (fun h => (hk33 _ h).2.2 rfl); have lx := T31.lx.upd u33 (fun h => by have := (hk33 _ h).1; omega); refine ⟨p2, n2, c2, rfl, .inr ⟨b0, b5, lx⟩, ptrC_some ⟨?_, trivial⟩⟩; rw [add_mk]; refine stC_mk lx (by simp) fun w38 B38 u38 s38 => hk w38 ⟨?_, .slice p2 n2 c2, B38, ?_, fun b hb => ?_⟩
    . exact (T31.up.trans u33 fun x hx h => by have := (hk33 _ h).1; omega).trans u38 fun x hx (e : x = _) => by omega
    . rw [tokCells_snoc]
      exact r33.upd u38 fun b hb (e : b = _) => by
        rcases h33 b hb with h | h
        . have := (hk33 _ h).1; omega
        . have := T31.lx.lt; omega
    . rcases h33 b hb with h | h
      . exact (hk33 _ h).1
      . have := T31.lx.lt; omega
  refine drawC_mk fun w39 u39 _ => ?_; have T39 := T10.keep u39; refine ⟨_, T39.b0.cell rfl, ptrC_some ⟨_, T39.lx.cell rfl, _, T39.b0.cell rfl, ptrC_some ⟨_, T39.lx.cell rfl, by omega, by omega, ?_⟩⟩⟩; have hby : byteAt s (Int.toNat (a : Int)) = (c.toNat : Int) := by rw [Int.toNat_natCast, byteAt_txt hal, hca]
  rw [hby]; refine callC_of (letter_spec c w39) fun v w47 ⟨e, ew⟩ => ⟨_, e, ?_⟩; subst ew; rw [hcr] at hF; unfold tokF at hF; refine brC_intro (fun hl => ?_) fun hl => ?_
  . -- a word
    simp only [hl, if_true] at hF; split at hF
    case isFalse => cases hF
    rename_i h24; cases hF; refine ⟨_, T39.b0.cell rfl, row_spec T39.lx (by omega) (by omega) fnB_letter fun w51 B51 u51 => ⟨_, rfl, ?_⟩⟩; rw [hcr] at B51 ⊢; generalize htx : (c :: r).takeWhile (fun c => letter c || digit c) = wd at h24 B51 hk ⊢; have T51 := T39.atL u51 B51; refine T51.st0 1 fun w53 T53 => T53.st1 _ fun w54 T54 => ?_; refine ⟨fun w' => Tk w0 w' k0 k5 s (a + wd.length) m sb toks ⟨if memB (bs wd) kwL then 2 else 1, bs wd, 0, a⟩ ou, fun w56 T56 _ => ⟨_, T56.b5.cell rfl, brC_ff ?_ T56⟩, drawC_mk fun w62 u62 _ => ?_⟩
    . rw [size_txt, txt_bs]; exact decide_eq_false (by omega)
    have T62 := T54.keep u62; refine ⟨_, T62.b0.cell rfl, ptrC_some ⟨some m, by rw [add_mk]; exact T62.lx.cell rfl, _, T62.b5.cell rfl, ?_⟩⟩; have M62 := L0.words.upd T62.up id
    cases hm : memB (bs wd) kwL with
    | true =>
      have hr := run_lookup_in undWords undS (k := .string (bs wd)) (by simp [IsKey]) M62 (List.mem_map_of_mem (memB_iff.1 hm)) false; refine ⟨.bool true, ⟨true, rfl, brC_tt rfl (T62.st0 2 fun w69 T69 => ?_)⟩, fun w' e => by cases e; exact hr⟩; exact T69
    | false =>
      have hno : Value.string (bs wd) ∉ kwL.map Value.string := fun h => by
        obtain ⟨x, hx, e⟩ := List.mem_map.1 h; cases e; rw [memB_iff.2 hx] at hm; cases hm
      have hr := run_lookup_out undWords undS (k := .string (bs wd)) (by simp [IsKey]) M62 hno (run_zero (P := Tryz.prog) (e := 4) (s := 1) (b := 1) (z := .bool false) (by kernel_rfl) w62) false; exact ⟨.bool false, ⟨false, rfl, brC_ff rfl T62⟩, fun w' e => by cases e; exact hr⟩
  simp only [hl, Bool.false_eq_true, if_false] at hF; refine callC_of (digit_spec c w47) fun v w71 ⟨e, ew⟩ => ⟨_, e, ?_⟩; subst ew; split at hF
  . cases hF
  rename_i hd; refine brC_ff (by simpa using hd) ?_; split at hF
  . -- a text
    rename_i h34; subst h34; split at hF
    . cases hF
    rename_i hne; split at hF
    case isFalse => cases hF
    rename_i hq; cases hF
    obtain ⟨rest, hrest⟩ : ∃ rest, r.drop (r.takeWhile qOk).length = 34 :: rest := by
      cases h : r.drop (r.takeWhile qOk).length with
      | nil => rw [h] at hq; cases hq
      | cons x y => rw [h] at hq; cases hq; exact ⟨y, rfl⟩
    have hr : r = r.takeWhile qOk ++ 34 :: rest := by
      conv => lhs; rw [<- List.take_append_drop (r.takeWhile qOk).length r, takeWhile_take, hrest]
    refine brC_tt (by decide) ⟨_, T39.b0.cell rfl, quoted_spec (L0.g.keep T39.up) T39.lx hs (body := r.takeWhile qOk) (rest := rest) (by rw [hcr]; exact congrArg _ hr) (List.all_takeWhile) (by simpa using hne) fun w81 B81 u81 => ⟨_, rfl, ?_⟩⟩; exact (T39.atL u81 B81).st0 4 fun w83 T83 => T83.st1 _ fun w84 T84 => T84
  . rename_i h34; refine brC_ff (toNat_ne (d := 34) h34) ?_; split at hF
    case h_2 => cases hF
    rename_i g hg; simp only [Option.some.injEq, Prod.mk.injEq] at hF; obtain ⟨rfl, rfl, rfl⟩ := hF; have Sg := L0.signs.upd T39.up id; refine ⟨_, T39.b0.cell rfl, ptrC_some ⟨_, _, _, by rw [add_mk]; exact T39.lx.cell rfl, ?_⟩⟩; refine first_spec (l := signsL) (f := fun x => (txt x).isPrefixOf (c :: r)) (strs_row (rowL' Sg 17 (by decide) (by decide))) (by decide) (by decide) (fun w' x K u hK => ?_) (fun w91 i u91 hi hfi hno => ?_) fun w91 u91 hno => ?_
    . have Tw := T39.keep u; refine of_eq (p := callC Tryz.prog 139 #[.string x, .pointer (some ⟨k0, 0, none⟩)] w' K) ?_ (by kernel_rfl); refine token2_text _ _ _ _ _ (drawC_mk fun w0' u0' _ => ?_); have T0 := Tw.keep u0'; refine ⟨_, T0.b0.cell rfl, ptrC_some ⟨_, T0.lx.cell rfl, _, T0.b0.cell rfl, ptrC_some ⟨_, T0.lx.cell rfl, by omega, by omega, by omega, ?_⟩⟩⟩; refine callC_of_calls (Any.strings_HasPrefix Tryz.hpL _ x w0') fun e w2 ⟨he, hw⟩ => ⟨_, he, _, rfl, ?_⟩; subst hw
      have ee : (ByteArray.extract s (Int.toNat (a : Int)) (Int.toNat (s.size : Int))).data.toList = c :: r := by
        have := ext_txt s (Int.toNat (a : Int)) (Int.toNat (s.size : Int)); unfold txt at this; rw [this, Int.toNat_natCast, Int.toNat_natCast, List.take_of_length_le (by rw [List.length_drop]; unfold txt at hsz; omega)]; exact hcr
      rw [ee]; exact hK w2 u0'
    . have hgi : signsL[i] = g := find_get hg hi hfi hno; have T91 := T39.keep u91; refine ⟨_, rfl, fun w' => Tk w0 w' k0 k5 s a m sb toks ⟨0, .empty, 0, a⟩ ou, fun w94 T94 _ => ?_, brC_ff (decide_eq_false (by omega)) T91⟩; refine ⟨fun w' => Tk w0 w' k0 k5 s a m sb toks ⟨5, g, 0, a⟩ ou, fun w97 T97 _ => ?_, ?_⟩
      . refine drawC_mk fun w99 u99 _ => ?_; have T99 := T97.keep u99; refine ⟨_, T99.b0.cell rfl, ptrC_some ⟨_, by rw [add_mk]; exact T99.lx.cell rfl, _, T99.b5.cell rfl, ptrC_some ?_⟩⟩; rw [add_mk]
        have hg24 : g.size <= 2 := by
          have : ∀ x ∈ signsL, x.size <= 2 := by decide +kernel
          exact this g (List.mem_of_find?_eq_some hg)
        have ew : IntKind.wrap .i64 ((a : Int) + (g.size : Int)) = ((a + g.size : Nat) : Int) := by rw [Go.SX.wrap_small (by omega) (by omega)]; omega
        rw [ew]; exact stC_mk T99.lx (by simp) fun w105 B105 u105 _ => T99.atL u105 B105
      . refine drawC_mk fun w106 u106 _ => ?_; have T106 := T94.keep u106; have Sg2 := L0.signs.upd T106.up id
        have hc2 : ∀ {w'}, Blk w' sb (signsL.map Value.string).toArray ids.str -> w'.cell? (Addr.add ⟨sb, 0, none⟩ (Int.toNat (i : Int) * 1)) = some (.string g) := fun h => by
          rw [add_mk, Int.toNat_natCast, Nat.mul_one, Nat.zero_add]; exact h.cell (by rw [<- hgi]; simp [hi])
        have hi17 : i < 17 := hi
        refine ⟨fun w' => ∃ t, Tk w0 w' k0 k5 s a m sb toks t ou, _, T106.b0.cell rfl, fun w109 ⟨_, h⟩ => lds_ptr150 (h.b0.cell rfl), ptrC_some ⟨_, _, _, by rw [add_mk]; exact T106.lx.cell rfl, fun w114 ⟨_, h⟩ => lds_strs (by rw [add_mk]; exact h.lx.cell rfl), by omega, by omega,
          ptrC_some ⟨g, hc2 Sg2, fun w117 ⟨_, h⟩ => lds_str (hc2 (L0.signs.upd h.up id)), T106.st0 5 fun w118 T118 => ⟨⟨_, T118⟩, T118.st1 g fun w119 T119 => T119, trivial⟩, trivial⟩⟩⟩
    . have := hno g (List.mem_of_find?_eq_some hg); have hx := List.find?_some hg; rw [this] at hx; cases hx
end Go.Proofs.YtdbkclnlfibgdaaGreatDoor
namespace Go.Proofs.YtdbkclnlfibgdaaGreatDoor
open Go.SX
theorem lexD_idle (p q : Addr) (w : World) : CallsD Tryz.prog 81 #[.pointer (some p), .pointer (some q)] .returning w fun e u' w' => e = .returned (.tuple #[]) /\ u' = .returning /\ w' = w := by
  refine callsD_of_wpS Tryz.func81 rfl fun c₀ cs hu => ?_; apply wpS_seq; apply wpS_region; simp [wpOpsS, go_sem, recoverD, hu, Tryz.ntmps81, Exit.thenS]; apply wpS_seq; apply wpS_region; simp [wpOpsS, go_sem, Exit.thenS]; refine wpS_cond (t := false) (by simp [Act.eval, Array.replicate]) ?_; simp only [Bool.false_eq_true, if_false]; refine wpS_of_wp (wp_skip ?_); cases c₀
  simp_all [bodyPostS, results, Tryz.results81]
theorem parseD_idle (p q : Addr) (w : World) : CallsD Tryz.prog 41 #[.pointer (some p), .pointer (some q)] .returning w fun e u' w' => e = .returned (.tuple #[]) /\ u' = .returning /\ w' = w := by
  refine callsD_of_wpS Tryz.func41 rfl fun c₀ cs hu => ?_; apply wpS_seq; apply wpS_region; simp [wpOpsS, go_sem, recoverD, hu, Tryz.ntmps41, Exit.thenS]; apply wpS_seq; apply wpS_region; simp [wpOpsS, go_sem, Exit.thenS]; refine wpS_cond (t := false) (by simp [Act.eval, Array.replicate]) ?_; simp only [Bool.false_eq_true, if_false]; refine wpS_of_wp (wp_skip ?_); cases c₀
  simp_all [bodyPostS, results, Tryz.results41]
theorem cleanD_idle (p q : Addr) (w : World) : CallsD Tryz.prog 113 #[.pointer (some p), .pointer (some q)] .returning w fun e u' w' => e = .returned (.tuple #[]) /\ u' = .returning /\ w' = w := by
  refine callsD_of_wpS Tryz.func113 rfl fun c₀ cs hu => ?_; apply wpS_seq; apply wpS_region; simp [wpOpsS, go_sem, recoverD, hu, Tryz.ntmps113, Exit.thenS]; apply wpS_seq; apply wpS_region; simp [wpOpsS, go_sem, Exit.thenS]; refine wpS_cond (t := false) (by simp [Act.eval, Array.replicate]) ?_; simp only [Bool.false_eq_true, if_false]; refine wpS_of_wp (wp_skip ?_); cases c₀
  simp_all [bodyPostS, results, Tryz.results113]
theorem withinD (c0b c0o : Nat) (u : FrameMode) (w : World) (K : KV)
    (h : ∃ (p0 : Option Addr), World.cell? w (Addr.mk c0b c0o none) = some (.pointer p0) /\ ptrC p0 fun (a1 : Addr) ↦ ∃ (n2 : Int), World.cell? w (Addr.add a1 2) = some (.int .i64 n2) /\ ptrC p0 fun (a3 : Addr) ↦ stC w (Addr.add a3 2) (.int .i64 (IntKind.wrap IntKind.i64 (n2 - 1))) fun (w4 : World) ↦ K (.tuple #[]) w4) :
    CallsD Tryz.prog 183 #[.pointer (some (Addr.mk c0b c0o none))] u w fun e u' w' => ∃ v, e = .returned v /\ u' = u /\ K v w' :=
  callsD_of_vc ⟨[], [], []⟩ Tryz.func183 (of_eq h (by kernel_rfl))
end Go.Proofs.YtdbkclnlfibgdaaGreatDoor
namespace Go.Proofs.YtdbkclnlfibgdaaGreatDoor
open Go.SX Go.Ty Go.MapKept Go.RowKit
theorem takeWhile_le (f : UInt8 -> Bool) (l : List UInt8) : (l.takeWhile f).length <= l.length := (List.takeWhile_sublist f).length_le
theorem tokF_len {l : List UInt8} {k : Int} {x : ByteArray} {n : Nat} (h : tokF l = some (k, x, n)) : 1 <= n /\ n <= l.length := by
  cases l with
  | nil => cases h
  | cons c r =>
    unfold tokF at h; simp only at h; split at h
    . rename_i hl; split at h
      . simp only [Option.some.injEq, Prod.mk.injEq] at h; obtain ⟨_, _, rfl⟩ := h; refine ⟨?_, takeWhile_le _ _⟩; rw [List.takeWhile_cons, if_pos (by simp [hl])]; simp
      . cases h
    . split at h
      . cases h
      . split at h
        . split at h
          . cases h
          . split at h
            . rename_i hq; simp only [Option.some.injEq, Prod.mk.injEq] at h; obtain ⟨_, _, rfl⟩ := h; have hne : (r.drop (r.takeWhile qOk).length) ≠ [] := fun e => by rw [e] at hq; cases hq
              have := List.length_pos_iff.2 hne; rw [List.length_drop] at this; simp only [List.length_cons]; omega
            . cases h
        . split at h
          . rename_i g hg; simp only [Option.some.injEq, Prod.mk.injEq] at h; obtain ⟨_, _, rfl⟩ := h; have h1 : ∀ x ∈ signsL, 1 <= x.size := by decide +kernel
            refine ⟨h1 g (List.mem_of_find?_eq_some hg), ?_⟩; have hp := List.find?_some hg; have := (List.isPrefixOf_iff_prefix.1 hp).length_le; rw [size_txt]; exact this
          . cases h
def lexF (s : List UInt8) : Nat -> Nat -> Option (List Tok)
  | 0, _ => none
  | f + 1, a => match s.drop a with
    | [] => some []
    | c :: _ =>
      if c = 32 || c = 9 || c = 10 || c = 13 then lexF s f (a + 1)
      else if c = 35 then none
      else match tokF (s.drop a) with
        | some (k, x, n) => (lexF s f (a + n)).map (⟨k, x, 0, a⟩ :: ·)
        | none => none
def lexA (s : ByteArray) : Option (List Tok) := (lexF (txt s) (s.size + 1) 0).map (· ++ [⟨0, .empty, 0, s.size⟩])
def atOf (w : World) (k : Nat) : Nat := match w.cell? ⟨k, 1, none⟩ with | some (.int _ n) => n.toNat | _ => 0
theorem lds_i {w : World} {a : Addr} {n : Int} (h : w.cell? a = some (.int .i64 n)) : Lds Tryz.prog 3 w a (.int .i64 n) := lds_int h
theorem byte_eq {c d : UInt8} : ((c.toNat : Int) == (d.toNat : Int)) = decide (c = d) := by
  rw [Bool.eq_iff_iff, beq_iff_eq, decide_eq_true_eq]; exact ⟨fun e => UInt8.toNat_inj.1 (by omega), fun e => by rw [e]⟩
theorem Lex_spec {w : World} (g : Gl w) {s : ByteArray} (hs : s.size <= 100000) {toks : List Tok} (hF : lexA s = some toks) {K R : KV}
    (hk : ∀ w' v, RowAt w' 114 4 v (tokCells toks) -> (∀ b, InRow v b -> w.heap.size <= b) -> Upd No w w' -> K (.tuple #[v, .nilIface]) w') :
    callX Tryz.prog 40 #[.string s] w K R := by
  obtain ⟨full, hfull, rfl⟩ : ∃ full, lexF (txt s) (s.size + 1) 0 = some full /\ full ++ [⟨0, .empty, 0, s.size⟩] = toks := by
    unfold lexA at hF; obtain ⟨full, h1, h2⟩ := Option.map_eq_some_iff.1 hF; exact ⟨full, h1, h2⟩
  have hsz := size_txt s; refine Lex_text _ _ _ _ (newC_mk fun w1 B1 u1 s1 => newC_mk fun w3 B3 u3 s3 => ?_); refine callC_of (reserved_spec (g.keep (up u1 u3))) fun v w5 ⟨e, M5, u5⟩ => ⟨_, e, ?_⟩; refine callC_of (signs_spec (g.keep (up (up u1 u3) u5))) fun v w8 ⟨e, S8, u8⟩ => ⟨_, _, _, e, newC_mk fun w13 B13 u13 s13 => ?_⟩; have U8 : Upd No w w8 := up (up u1 u3) (up u5 u8); have L0 : Lx0 w8 w3.heap.size w5.heap.size := ⟨g.keep U8, M5.upd u8 id, S8⟩; have z5 := u5.size; have z8 := u8.size; have b0 : Blk w8 w.heap.size #[.slice none 0 0] 103 := (B1.upd u3 id).upd (up u5 u8) id; have b2 : Blk w8 w1.heap.size #[.nilIface] 71 := B3.upd (up u5 u8) id; have Lst : Lx w8 w13 s 0 w3.heap.size w5.heap.size [] := ⟨u13, _, B13, RowAt.nil _ _ _, fun b hb => (no_in b hb).elim⟩; refine ⟨fun w' => ∃ a ts f rest, a <= s.size /\ Lx w8 w' s a w3.heap.size w5.heap.size ts /\ lexF (txt s) f a = some rest /\ ts ++ rest = full /\ ts.length <= a, fun w' => s.size - atOf w' w8.heap.size, ⟨0, [], s.size + 1, full, Nat.zero_le _, Lst, hfull, rfl, Nat.zero_le _⟩, ?_⟩; rintro w16 ⟨a, ts, f, rest, ha, Lx16, hf, hts, hta⟩ _; obtain ⟨ou, Bl, row, own⟩ := Lx16.ex
  have hat : ∀ {w' ou' a'}, LxAt w' w8.heap.size s a' w3.heap.size (.slice (some ⟨w5.heap.size, 0, none⟩) 17 17) ou' -> atOf w' w8.heap.size = a' := fun h => by
    unfold atOf; rw [h.cell (i := 1) rfl]; simp
  refine ⟨_, Bl.cell rfl, brC_intro (fun hlt => ?_) fun hge => ?_⟩
  . have hlt : a < s.size := by have := of_decide_eq_true hlt; omega
    cases f with
    | zero => cases hf
    | succ f =>
    unfold lexF at hf
    obtain ⟨c, r, hcr⟩ : ∃ c r, (txt s).drop a = c :: r := by
      cases h : (txt s).drop a with
      | nil => have := congrArg List.length h; simp at this; omega
      | cons c r => exact ⟨c, r, rfl⟩
    have hca : (txt s)[a]'(by omega) = c := by
      have := List.drop_eq_getElem_cons (l := txt s) (i := a) (by omega); rw [hcr] at this; exact (List.cons.inj this).1.symm
    have hby : byteAt s (Int.toNat (a : Int)) = (c.toNat : Int) := by rw [Int.toNat_natCast, byteAt_txt hlt, hca]
    rw [hcr] at hf; simp only at hf; refine ⟨_, Bl.cell rfl, by omega, by omega, ?_⟩; rw [hby]; refine ⟨fun b w' => w' = w16 /\ b = (c = 32 || c = 9 || c = 10 || c = 13 : Bool), ?_, ?_⟩
    . rintro b w22 ⟨rfl, rfl⟩ _; refine brC_intro (fun hsp => ?_) fun hsp => ?_
      . rw [if_pos hsp] at hf; refine ⟨_, Bl.cell rfl, stC_mk Bl (by simp) fun w25 B25 u25 _ => ?_⟩; rw [wrap_succ (by omega)] at B25; refine ⟨⟨a + 1, ts, f, rest, hlt, ⟨Lx16.up.trans u25 fun x hx (e : x = _) => by omega, ou, B25, row.upd u25 fun b hb (e : b = _) => by have := own b hb; omega, own⟩, hf, hts, by omega⟩, ?_⟩; show s.size - atOf w25 w8.heap.size < s.size - atOf w22 w8.heap.size; rw [hat B25, hat Bl]; omega
      . rw [if_neg (by rw [hsp]; simp)] at hf; split at hf
        . cases hf
        rename_i h35; refine brC_ff (toNat_ne (d := 35) h35) ?_; split at hf
        case h_2 => cases hf
        rename_i k x n htok; obtain ⟨rest', hr', rfl⟩ := Option.map_eq_some_iff.1 hf; rw [<- hcr] at htok; obtain ⟨h1, h2⟩ := tokF_len htok; rw [List.length_drop] at h2; refine token_spec L0 Lx16 hs (by omega) htok fun w36 L36 => ⟨rfl, ⟨a + n, _, f, rest', by omega, L36, hr', by rw [List.append_assoc]; exact hts, by simp; omega⟩, ?_⟩; obtain ⟨ou2, Bl2, _⟩ := L36.ex; show s.size - atOf w36 w8.heap.size < s.size - atOf w22 w8.heap.size; rw [hat Bl2, hat Bl]; omega
    . have e32 : ((c.toNat : Int) == 32) = decide (c = 32) := byte_eq (d := 32); have e9 : ((c.toNat : Int) == 9) = decide (c = 9) := byte_eq (d := 9); have e10 : ((c.toNat : Int) == 10) = decide (c = 10) := byte_eq (d := 10); have e13 : ((c.toNat : Int) == 13) = decide (c = 13) := byte_eq (d := 13); rw [e32, e9, e10, e13]; refine brC_intro (fun h => ⟨rfl, by simp [of_decide_eq_true h]⟩) fun h1 => brC_intro (fun h => ⟨rfl, by simp [of_decide_eq_true h]⟩) fun h2 => brC_intro (fun h => ⟨rfl, by simp [of_decide_eq_true h]⟩) fun h3 => ⟨rfl, ?_⟩; simp only [of_decide_eq_false h1, of_decide_eq_false h2, of_decide_eq_false h3, decide_false, Bool.false_or]
  . have hae : a = s.size := by have := of_decide_eq_false hge; omega
    subst hae
    have hrest : rest = [] := by
      cases f with
      | zero => cases hf
      | succ f =>
        unfold lexF at hf; rw [List.drop_of_length_le (by omega)] at hf; exact (Option.some.inj hf).symm
    subst hrest; rw [List.append_nil] at hts; subst hts; refine drawC_mk fun w44 u44 _ => ?_; have Bl44 := Bl.upd u44 id; have row44 := row.upd u44 fun _ _ x => x; have b044 := (b0.upd Lx16.up id).upd u44 id; have b244 := (b2.upd Lx16.up id).upd u44 id; obtain ⟨p, n, cp, rfl, hn, hnc, hcm⟩ := row44.shape; have hnl : n = ts.length := by rw [tokCells_len] at hn; omega
    refine ⟨fun w' => LxAt w' w8.heap.size s s.size w3.heap.size (.slice (some ⟨w5.heap.size, 0, none⟩) 17 17) (.slice p n cp), p, n, cp, Bl44.cell rfl, fun w49 h => lds_toks (h.cell rfl), _, Bl44.cell rfl, fun w51 h => lds_i (h.cell rfl), newC_mk fun w53 B53 u53 s53 => ⟨Bl44.upd u53 id, ?_, trivial⟩, trivial⟩; obtain ⟨io, hj1, hj2, hj3, hj4⟩ := info_get (P := Tryz.prog) (e := 114) (s := 4) (b := 40) (z := .agg #[.int .i64 0, .string ByteArray.empty, .int .i64 0, .int .i64 0]) (by kernel_rfl); have klt := Bl44.lt; have k0lt := b044.lt
    refine append_row (size := 4) (bytes := 40) (by kernel_rfl) hj1 hj2 hj3 hj4 rfl (row44.upd u53 fun _ _ x => x) (n := n) hn ⟨w44.heap.size, 0, none⟩ 1 1 (Tok.cells ⟨0, .empty, 0, s.size⟩) (by omega) (by omega) rfl (fun j u hj => by rw [add_mk]; exact B53.cell (by rw [Nat.zero_add, List.getElem?_toArray]; exact hj)) (by simp [Tok.cells, Value.oneCell']) (by simp only [maxLen]; omega) (by omega)
      fun v55 w55 r55 u55 h55 => ?_
    obtain ⟨p2, n2, c2, rfl, _⟩ := r55.shape; have own' : ∀ b, InRow (.slice p2 n2 c2) b -> w8.heap.size < b := fun b hb => (h55 b hb).elim (fun h => own b h) fun h => by omega
    have b055 := (b044.upd u53 id).upd u55 (fun h => by have := own _ h; have := b0.lt; omega); have b255 := (b244.upd u53 id).upd u55 (fun h => by have := own _ h; have := b2.lt; omega); refine ⟨p2, n2, c2, rfl, (Bl44.upd u53 id).upd u55 (fun h => by have := own _ h; omega), ?_, trivial⟩; refine stC_mk b055 (by simp) fun w59 B59 u59 _ => ⟨stC_mk (b255.upd u59 (by have := u1.size; omega)) (by simp) fun w60 B60 u60 _ => ?_, trivial⟩; have b060 := B59.upd u60 (show ¬ (w.heap.size = w1.heap.size) by omega); refine ⟨_, _, _, _, rfl, rfl, (lexD_idle _ _ w60).mono ?_⟩; rintro e u w61 ⟨rfl, rfl, rfl⟩; refine ⟨⟨_, rfl⟩, rfl, _, _, _, b060.cell rfl, _, B60.cell rfl, hk _ (.slice p2 n2 c2) ?_ (fun b hb => by have := own' b hb; have := b0.lt; omega) ?_⟩
    . rw [tokCells_snoc]; refine (r55.upd u59 fun b hb (e : b = _) => ?_).upd u60 fun b hb (e : b = _) => ?_
      . have := own' b hb; have := b0.lt; omega
      . have := own' b hb; have := b2.lt; omega
    . exact (((U8.trans Lx16.up fun _ _ x => x.elim).trans (up u44 u53) fun _ _ x => x.elim).trans u55 fun x hx h => by have := own x h; have := b0.lt; omega).trans u59 (fun x hx (e : x = _) => by omega) |>.trans u60 fun x hx (e : x = _) => by omega
end Go.Proofs.YtdbkclnlfibgdaaGreatDoor
namespace Go.Tx
open Go.SX
open Go.Ty (Ids)
inductive Wt where
  | nil
  | mk (k at_ : Int) (al nm : ByteArray) (ns : List ByteArray) (xs : List Wt) (ret : Wt)
def Wt.isNil : Wt -> Bool | .nil => true | _ => false
mutual
def xsz : Wt -> Nat
  | .nil => 0
  | .mk _ _ _ _ _ l r => 1 + xszs l + xsz r
def xszs : List Wt -> Nat
  | [] => 0
  | a :: l => 1 + xsz a + xszs l
end
theorem xszs_mem {a : Wt} {l : List Wt} (h : a ∈ l) : xsz a < xszs l := by
  induction l with
  | nil => cases h
  | cons b l ih =>
    simp only [xszs]; rcases List.mem_cons.1 h with rfl | h
    . omega
    . have := ih h; omega
theorem ind {p : Wt -> Prop} (h0 : p .nil) (h1 : ∀ k at_ al nm ns l r, (∀ a ∈ l, p a) -> p r -> p (.mk k at_ al nm ns l r)) : ∀ t, p t := by
  have key : ∀ n t, xsz t <= n -> p t := by
    intro n
    induction n with
    | zero =>
      intro t ht
      cases t with
      | nil => exact h0
      | mk => simp only [xsz] at ht; omega
    | succ n ih =>
      intro t ht
      cases t with
      | nil => exact h0
      | mk k at_ al nm ns l r =>
        simp only [xsz] at ht; exact h1 _ _ _ _ _ _ _ (fun a ha => ih a (by have := xszs_mem ha; omega)) (ih r (by omega))
  exact fun t => key _ t (Nat.le_refl _)
mutual
def XAt (I : Ids) (F : Nat -> Prop) (w : World) (v : Value) : Wt -> Prop
  | .nil => v = .pointer none
  | .mk k at_ al nm ns xs r => ∃ b nv av rv vs, v = .pointer (some ⟨b, 0, none⟩) /\ F b /\ Blk w b #[.int .i64 k, .int .i64 at_, .string al, .string nm, nv, av, rv] I.ty /\ RowAt w I.str 1 nv (ns.map Value.string) /\ (∀ b, InRow nv b -> F b) /\
      RowAt w I.ptr 1 av vs /\ (∀ b, InRow av b -> F b) /\ XsAt I F w vs xs /\ XAt I F w rv r
def XsAt (I : Ids) (F : Nat -> Prop) (w : World) : List Value -> List Wt -> Prop
  | [], [] => True
  | v :: vs, t :: l => XAt I F w v t /\ XsAt I F w vs l
  | _, _ => False
end
variable {I : Ids} {F G : Nat -> Prop} {w w' : World}
theorem xsAt_iff : ∀ {vs : List Value} {l : List Wt}, XsAt I F w vs l ↔ vs.length = l.length /\ ∀ (i : Nat) (v : Value) (t : Wt), vs[i]? = some v -> l[i]? = some t -> XAt I F w v t
  | [], [] => by simp [XsAt]
  | v :: vs, [] => by simp [XsAt]
  | [], t :: l => by simp [XsAt]
  | v :: vs, t :: l => by
    unfold XsAt; rw [xsAt_iff]; constructor
    . rintro ⟨h1, h2, h3⟩; refine ⟨by simp [h2], fun i v' t' a b => ?_⟩
      cases i with
      | zero => simp at a b; subst a; subst b; exact h1
      | succ i => simp at a b; exact h3 i v' t' a b
    . rintro ⟨h2, h3⟩; exact ⟨h3 0 v t rfl rfl, by simpa using h2, fun i v' t' a b => h3 (i + 1) v' t' (by simpa using a) (by simpa using b)⟩
theorem XsAt.length {vs : List Value} {l : List Wt} (h : XsAt I F w vs l) : vs.length = l.length := (xsAt_iff.1 h).1
theorem XsAt.at_ {vs : List Value} {l : List Wt} (h : XsAt I F w vs l) {i : Nat} {v : Value} {t : Wt} (a : vs[i]? = some v) (b : l[i]? = some t) : XAt I F w v t := (xsAt_iff.1 h).2 i v t a b
theorem XsAt.append {vs us : List Value} {l m : List Wt} (h : XsAt I F w vs l) (k : XsAt I F w us m) : XsAt I F w (vs ++ us) (l ++ m) := by
  rw [xsAt_iff] at *; refine ⟨by simp [h.1, k.1], fun i v t a b => ?_⟩; rcases Nat.lt_or_ge i vs.length with hi | hi
  . rw [List.getElem?_append_left hi] at a; rw [List.getElem?_append_left (by omega)] at b; exact h.2 i v t a b
  . rw [List.getElem?_append_right hi] at a; rw [List.getElem?_append_right (by omega), <- h.1] at b; exact k.2 _ v t a b
theorem XsAt.take {vs : List Value} {l : List Wt} (h : XsAt I F w vs l) (n : Nat) : XsAt I F w (vs.take n) (l.take n) := by
  rw [xsAt_iff] at *; refine ⟨by simp [h.1], fun i v t a b => ?_⟩; rw [List.getElem?_take] at a b; split at a
  . rename_i hi; rw [if_pos hi] at b; exact h.2 i v t a b
  . cases a
theorem XsAt.drop {vs : List Value} {l : List Wt} (h : XsAt I F w vs l) (n : Nat) : XsAt I F w (vs.drop n) (l.drop n) := by
  rw [xsAt_iff] at *; refine ⟨by simp [h.1], fun i v t a b => ?_⟩; rw [List.getElem?_drop] at a b; exact h.2 _ v t a b
theorem xAt_keep {S : Nat -> Prop} (u : Upd S w w') (hn : ∀ b, F b -> ¬ S b) (hG : ∀ b, b < w.heap.size -> F b -> G b) : ∀ (t : Wt) (v : Value), XAt I F w v t -> XAt I G w' v t := by
  refine ind (fun v h => h) fun k at_ al nm ns xs r ha hr v h => ?_; unfold XAt at h ⊢; obtain ⟨b, nv, av, rv, vs, rfl, hb, hB, hN, fN, hA, fA, hT, hR⟩ := h; refine ⟨b, nv, av, rv, vs, rfl, hG b hB.lt hb, hB.upd u (hn b hb), hN.upd u fun x hx => hn x (fN x hx), fun x hx => hG x (hN.lt hx) (fN x hx), hA.upd u fun x hx => hn x (fA x hx), fun x hx => hG x (hA.lt hx) (fA x hx), ?_, hr rv hR⟩; rw [xsAt_iff] at hT ⊢; exact ⟨hT.1, fun i v t a b => ha t (List.mem_of_getElem? b) v (hT.2 i v t a b)⟩
theorem xsAt_keep {S : Nat -> Prop} (u : Upd S w w') (hn : ∀ b, F b -> ¬ S b) (hG : ∀ b, b < w.heap.size -> F b -> G b) {vs : List Value} {l : List Wt} (h : XsAt I F w vs l) : XsAt I G w' vs l := by
  rw [xsAt_iff] at h ⊢; exact ⟨h.1, fun i v t a b => xAt_keep u hn hG t v (h.2 i v t a b)⟩
theorem XAt.upd {S : Nat -> Prop} {v : Value} {t : Wt} (h : XAt I F w v t) (u : Upd S w w') (hn : ∀ b, F b -> ¬ S b) : XAt I F w' v t := xAt_keep u hn (fun _ _ h => h) t v h
theorem XAt.keep {v : Value} {t : Wt} (h : XAt I F w v t) (u : Upd No w w') : XAt I F w' v t := h.upd u fun _ _ x => x
theorem XAt.mono {v : Value} {t : Wt} (h : XAt I F w v t) (hG : ∀ b, b < w.heap.size -> F b -> G b) : XAt I G w v t := xAt_keep (Upd.refl No w) (fun _ _ x => x) hG t v h
theorem XsAt.upd {S : Nat -> Prop} {vs : List Value} {l : List Wt} (h : XsAt I F w vs l) (u : Upd S w w') (hn : ∀ b, F b -> ¬ S b) : XsAt I F w' vs l := xsAt_keep u hn (fun _ _ h => h) h
theorem XsAt.keep {vs : List Value} {l : List Wt} (h : XsAt I F w vs l) (u : Upd No w w') : XsAt I F w' vs l := h.upd u fun _ _ x => x
theorem XsAt.mono {vs : List Value} {l : List Wt} (h : XsAt I F w vs l) (hG : ∀ b, b < w.heap.size -> F b -> G b) : XsAt I G w vs l := xsAt_keep (Upd.refl No w) (fun _ _ x => x) hG h
def XRow (I : Ids) (F : Nat -> Prop) (w : World) (v : Value) (l : List Wt) : Prop := ∃ vs, RowAt w I.ptr 1 v vs /\ (∀ b, InRow v b -> F b) /\ XsAt I F w vs l
theorem XRow.get {p : Option Addr} {n c : Nat} {l : List Wt} (h : XRow I F w (.slice p n c) l) : n = l.length /\ n <= c /\ c <= maxLen /\ ∀ i t, l[i]? = some t -> ∃ g o v, p = some ⟨g, o, none⟩ /\ w.cell? ⟨g, o + i, none⟩ = some v /\ XAt I F w v t := by
  obtain ⟨vs, h1, h2, h3⟩ := h; obtain ⟨p', n', c', e, hn, hc, hm⟩ := h1.shape; cases e; have hl := h3.length; refine ⟨by omega, hc, hm, fun i t ht => ?_⟩
  have hi : i < vs.length := by
    rw [hl]; exact (List.getElem?_eq_some_iff.1 ht).1
  obtain ⟨g, o, rfl, e⟩ := h1.get hi; exact ⟨g, o, vs[i], rfl, by rw [e, List.getElem?_eq_getElem hi], h3.at_ (List.getElem?_eq_getElem hi) ht⟩
end Go.Tx
namespace Go.Proofs.YtdbkclnlfibgdaaGreatDoor
open Go.SX Go.Ty Go.MapKept Go.RowKit
structure Pz (w0 : World) (tv : Value) (w : World) (a d : Nat) : Prop where
  up : Upd (fun b => ¬ InRow tv b) w0 w
  blk : Blk w w0.heap.size #[tv, .int .i64 (a : Int), .int .i64 (d : Int)] 112
structure P0 (w0 : World) (tv : Value) (toks : List Tok) : Prop where
  row : RowAt w0 114 4 tv (tokCells toks)
  len : toks.length <= 1000000
theorem Pz.keep {w0 : World} {tv : Value} {w w' : World} {a d : Nat} (h : Pz w0 tv w a d) (u : Upd No w w') : Pz w0 tv w' a d := ⟨h.up.trans u fun _ _ x => x.elim, h.blk.upd u id⟩
theorem Pz.lt {w0 : World} {tv : Value} {w : World} {a d : Nat} (h : Pz w0 tv w a d) : w0.heap.size < w.heap.size := h.blk.lt
abbrev tokV (t : Tok) : Value := .agg #[.int .i64 t.kind, .string t.text, .int .i64 t.n, .int .i64 (t.at_ : Int)]
section
variable {w0 w : World} {tv : Value} {toks : List Tok} {a d : Nat} {t : Tok} {K R : KV}
theorem next_c (P : P0 w0 tv toks) (Z : Pz w0 tv w a d) (ht : toks[a]? = some t) (hk : ∀ w', Upd No w w' -> K (tokV t) w') : callC Tryz.prog 42 #[.pointer (some ⟨w0.heap.size, 0, none⟩)] w K := by
  obtain ⟨ha, ht⟩ := List.getElem?_eq_some_iff.1 ht; subst ht; obtain ⟨p, n, c, rfl, hn, hnc, hcm⟩ := P.row.shape; rw [tokCells_len] at hn; refine pnext_text _ _ _ (newC_mk fun w1 B1 u1 _ => drawC_mk fun w2 u2 _ => ?_); have Z2 := Z.keep (up u1 u2); have B2 := B1.upd u2 id
  have hc : ∀ j, j < 4 -> ∃ ad : Addr, p = some ad /\ w2.cell? (Addr.add (Addr.add ad (a * 4)) j) = (toks[a].cells)[j]? := fun j hj => by
    obtain ⟨g, o, hp, hcell⟩ := (P.row.upd Z2.up fun _ hb h => h hb).get (j := a * 4 + j) (by rw [tokCells_len]; omega); subst hp; refine ⟨_, rfl, ?_⟩; rw [add_mk, add_mk, show o + a * 4 + j = o + (a * 4 + j) by omega, hcell, tokCells_get ha hj]
  obtain ⟨ad, rfl, h0⟩ := hc 0 (by omega); have h1 : w2.cell? (Addr.add (Addr.add ad (a * 4)) 1) = some (.string toks[a].text) := by obtain ⟨_, e, h⟩ := hc 1 (by omega); cases e; exact h
  have h2 : w2.cell? (Addr.add (Addr.add ad (a * 4)) 2) = some (.int .i64 toks[a].n) := by obtain ⟨_, e, h⟩ := hc 2 (by omega); cases e; exact h
  have h3 : w2.cell? (Addr.add (Addr.add ad (a * 4)) 3) = some (.int .i64 (toks[a].at_ : Int)) := by obtain ⟨_, e, h⟩ := hc 3 (by omega); cases e; exact h
  have h0 : w2.cell? (Addr.add ad (a * 4)) = some (.int .i64 toks[a].kind) := by rw [addr_add_zero] at h0; exact h0
  have hl := P.len; refine ptrC_some ⟨_, n, c, Z2.blk.cell rfl, ptrC_some ⟨_, by rw [add_mk]; exact Z2.blk.cell rfl, by omega, by omega, ?_⟩⟩; rw [Int.toNat_natCast]; refine ptrC_some ⟨_, h0, _, h1, _, h2, _, h3, ?_⟩; refine stC_mk B2 (by simp) fun w14 B14 u14 _ => stC_mk B14 (by simp) fun w15 B15 u15 _ => stC_mk B15 (by simp) fun w16 B16 u16 _ => stC_mk B16 (by simp) fun w17 B17 u17 _ => ⟨_, B17.cell rfl, _, B17.cell rfl, _, B17.cell rfl, _, B17.cell rfl, hk w17 ?_⟩; have hlt : ∀ x, x < w.heap.size -> x = w.heap.size -> No x := fun x hx e => by omega
  exact ((((up u1 u2).trans u14 hlt).trans u15 hlt).trans u16 hlt).trans u17 hlt
def isW (t : Tok) (l : List ByteArray) : Bool := (t.kind == 2 || t.kind == 5) && memB t.text l
theorem is_c (P : P0 w0 tv toks) (Z : Pz w0 tv w a d) (ht : toks[a]? = some t) {l : List ByteArray} {p : Option Addr} {n c : Nat} (hl : StrsAt w p l) (hn : n = l.length) (hm : n <= 1000) (hk : ∀ w', Upd No w w' -> K (.bool (isW t l)) w') :
    callC Tryz.prog 141 #[.pointer (some ⟨w0.heap.size, 0, none⟩), .slice p n c] w K := by
  refine pis_text _ _ _ _ _ _ (next_c P Z ht fun w1 u1 => ⟨_, _, _, _, rfl, newC_mk fun w7 B7 u7 _ => ?_⟩); have hlt : ∀ x, x < w1.heap.size -> x = w1.heap.size -> No x := fun x hx e => by omega
  refine stC_mk B7 (by simp) fun w8 B8 u8 _ => stC_mk B8 (by simp) fun w9 B9 u9 _ => stC_mk B9 (by simp) fun w10 B10 u10 _ => stC_mk B10 (by simp) fun w11 B11 u11 _ => ⟨_, B11.cell rfl, ?_⟩; have u := up u1 ((((u7.trans u8 hlt).trans u9 hlt).trans u10 hlt).trans u11 hlt); have hl11 := strs_keep hl u; unfold isW at hk; refine brC_intro (fun h2 => ⟨_, B11.cell rfl, callC_of (index_spec hl11 hn (by omega) t.text) fun v w15 ⟨e, ew⟩ => ⟨_, e, ?_⟩⟩) fun h2 => ⟨_, B11.cell rfl, brC_intro (fun h5 => ⟨_, B11.cell rfl, callC_of (index_spec hl11 hn (by omega) t.text) fun v w15 ⟨e, ew⟩ => ⟨_, e, ?_⟩⟩) fun h5 => ?_⟩
  . subst ew; have := hk w15 u; rw [h2] at this; simpa using this
  . subst ew; have := hk w15 u; rw [h2, h5] at this; simpa using this
  . have := hk w11 u; rw [h2, h5] at this; simpa using this
theorem may_c (P : P0 w0 tv toks) (Z : Pz w0 tv w a d) (ht : toks[a]? = some t) (ha : a < 1000000) {l : List ByteArray} {p : Option Addr} {n c : Nat} (hl : StrsAt w p l) (hn : n = l.length) (hm : n <= 1000)
    (hy : isW t l = true -> ∀ w', Pz w0 tv w' (a + 1) d -> Upd (· = w0.heap.size) w w' -> K (.bool true) w') (hno : isW t l = false -> ∀ w', Upd No w w' -> K (.bool false) w') :
    callC Tryz.prog 84 #[.pointer (some ⟨w0.heap.size, 0, none⟩), .slice p n c] w K := by
  refine pmay_text _ _ _ _ _ _ (is_c P Z ht hl hn hm fun w1 u1 => ⟨_, rfl, fun w' => (isW t l = true /\ Pz w0 tv w' (a + 1) d /\ Upd (· = w0.heap.size) w w') \/ (isW t l = false /\ Upd No w w'), ?_, ?_⟩)
  . rintro w4 (⟨h, z, u⟩ | ⟨h, u⟩) _
    . rw [h]; exact hy h w4 z u
    . rw [h]; exact hno h w4 u
  . have Z1 := Z.keep u1; refine brC_intro (fun h => ptrC_some ⟨_, by rw [add_mk]; exact Z1.blk.cell rfl, ptrC_some ?_⟩) fun h => .inr ⟨h, u1⟩; rw [add_mk]; refine stC_mk Z1.blk (by simp) fun w9 B9 u9 _ => .inl ⟨h, ⟨Z1.up.trans u9 fun x hx (e : x = _) => by omega, ?_⟩, u1.no.trans u9 fun _ _ x => x⟩; rw [wrap_succ (by omega)] at B9; exact B9
theorem one_str {w : World} {k : Nat} {s : ByteArray} {e : TypeId} (B : Blk w k #[.string s] e) : StrsAt w (some ⟨k, 0, none⟩) [s] := strs_row (l := [s]) (row_one B)
theorem must_c (P : P0 w0 tv toks) (Z : Pz w0 tv w a d) (ht : toks[a]? = some t) (ha : a < 1000000) {s : ByteArray} (hs : isW t [s] = true) (hk : ∀ w', Pz w0 tv w' (a + 1) d -> Upd (· = w0.heap.size) w w' -> K (.tuple #[]) w') :
    callX Tryz.prog 86 #[.pointer (some ⟨w0.heap.size, 0, none⟩), .string s] w K R := by
  refine must_text _ _ _ _ _ (newC_mk fun w1 B1 u1 _ => may_c P (Z.keep u1) ht ha (one_str B1) rfl (by decide) (fun _ w3 Z3 u3 => ⟨_, rfl, brC_ff rfl (hk w3 Z3 (u1.no.trans u3 fun _ _ x => x))⟩) fun h => ?_); rw [hs] at h; cases h
theorem take_c (P : P0 w0 tv toks) (Z : Pz w0 tv w a d) (ht : toks[a]? = some t) (ha : a < 1000000) (hk : ∀ w', Pz w0 tv w' (a + 1) d -> Upd (· = w0.heap.size) w w' -> K (tokV t) w') :
    callX Tryz.prog 85 #[.pointer (some ⟨w0.heap.size, 0, none⟩), .int .i64 t.kind] w K R := by
  have hl := Z.lt; refine take_text _ _ _ _ _ (newC_mk fun w1 B1 u1 s1 => next_c P (Z.keep u1) ht fun w3 u3 => ⟨_, _, _, _, rfl, newC_mk fun w9 B9 u9 s9 => ?_⟩); have z3 := u3.size; have hlt : ∀ x, x < w3.heap.size -> x = w3.heap.size -> No x := fun x hx e => by omega
  refine stC_mk B9 (by simp) fun w10 B10 u10 _ => stC_mk B10 (by simp) fun w11 B11 u11 _ => stC_mk B11 (by simp) fun w12 B12 u12 _ => stC_mk B12 (by simp) fun w13 B13 u13 _ => ?_; have u := (((u9.trans u10 hlt).trans u11 hlt).trans u12 hlt).trans u13 hlt; have U := up (up u1 u3) u; have Z13 := Z.keep U; refine ⟨fun w' => w' = w13, ?_, ⟨_, B13.cell rfl, brC_ff (by simp) rfl⟩⟩; rintro w15 rfl _; refine ptrC_some ⟨_, by rw [add_mk]; exact Z13.blk.cell rfl, ptrC_some ?_⟩; rw [add_mk]; refine stC_mk Z13.blk (by simp) fun w20 B20 u20 _ => ?_; have b8 := B13.upd u20 (by omega); have b0 := (B1.upd (up u3 u) id).upd u20 (by omega); refine ⟨_, b8.cell rfl, _, b8.cell rfl, _, b8.cell rfl, _, b8.cell rfl, ?_⟩; refine stC_mk b0 (by simp) fun w25 B25 u25 _ => stC_mk B25 (by simp) fun w26 B26 u26 _ => stC_mk B26 (by simp) fun w27 B27 u27 _ => stC_mk B27 (by simp) fun w28 B28 u28 _ => ⟨_, B28.cell rfl, _, B28.cell rfl, _, B28.cell rfl, _, B28.cell rfl, hk w28 ?_ ?_⟩
  . have hl0 : ∀ x, x < w20.heap.size -> x = w.heap.size -> x = w.heap.size := fun _ _ e => e; have uu := ((u25.trans u26 fun _ _ e => e).trans u27 fun _ _ e => e).trans u28 fun _ _ e => e; rw [wrap_succ (by omega)] at B20; exact ⟨(Z13.up.trans u20 fun x hx (e : x = _) => by omega).trans uu fun x hx (e : x = _) => by omega, B20.upd uu (by omega)⟩
  . have uu := ((u25.trans u26 fun _ _ e => e).trans u27 fun _ _ e => e).trans u28 fun _ _ e => e; exact (U.no.trans u20 fun _ _ e => e).trans uu fun x hx (e : x = _) => by omega
theorem name_c (P : P0 w0 tv toks) (Z : Pz w0 tv w a d) (ht : toks[a]? = some t) (h1 : t.kind = 1) (ha : a < 1000000) (hk : ∀ w', Pz w0 tv w' (a + 1) d -> Upd (· = w0.heap.size) w w' -> K (.string t.text) w') :
    callX Tryz.prog 87 #[.pointer (some ⟨w0.heap.size, 0, none⟩)] w K R := by
  have := take_c (K := fun v w1 => ∃ n2 s3 n4 n5, v = .agg #[.int .i64 n2, .string s3, .int .i64 n4, .int .i64 n5] /\ K (.string s3) w1) (R := R) P Z ht ha fun w' z u => ⟨_, _, _, _, rfl, hk w' z u⟩; rw [h1] at this; exact pname_text _ _ _ _ this
end
end Go.Proofs.YtdbkclnlfibgdaaGreatDoor
namespace Go.Proofs.YtdbkclnlfibgdaaGreatDoor
open Go.SX Go.Ty Go.MapKept Go.RowKit Go.Tx
abbrev idx : Ids := ⟨9, 27, 63⟩
def wInt : ByteArray := ByteArray.mk #[105, 110, 116]
def wBool : ByteArray := ByteArray.mk #[98, 111, 111, 108]
def wStr : ByteArray := ByteArray.mk #[115, 116, 114]
def wNil : ByteArray := ByteArray.mk #[110, 105, 108]
def wAny : ByteArray := ByteArray.mk #[97, 110, 121]
def wLp : ByteArray := ByteArray.mk #[40]
def wRp : ByteArray := ByteArray.mk #[41]
def wLb : ByteArray := ByteArray.mk #[123]
def wRb : ByteArray := ByteArray.mk #[125]
def wFn : ByteArray := ByteArray.mk #[102, 110]
def wComma : ByteArray := ByteArray.mk #[44]
def wColon : ByteArray := ByteArray.mk #[58]
def wBar : ByteArray := ByteArray.mk #[124]
def wDot : ByteArray := ByteArray.mk #[46]
def wArrow : ByteArray := ByteArray.mk #[45, 62]
def plainL : List ByteArray := [wInt, wBool, wStr, wNil, wAny]
def plainF (s : ByteArray) : Int := if s = wInt then 1 else if s = wBool then 2 else if s = wStr then 3 else if s = wNil then 4 else if s = wAny then 5 else 0
def plainV : Value -> Value | .string s => .int .i64 (plainF s) | _ => undef
theorem undPl : Tryz.prog.underlying 264 = some (.map 9 3) := by kernel_rfl
theorem plainL_nodup : plainL.Nodup := by decide +kernel
theorem plain_spec {s : ByteArray} (hs : s ∈ plainL) (w : World) : callC Tryz.prog 184 #[.string s] w fun v w' => v = .int .i64 (plainF s) /\ Upd No w w' := by
  have hlt : ∀ x, x < w.heap.size -> x = w.heap.size -> No x := fun x hx e => by omega
  refine plain_text _ _ _ (newM_mk (d := .string) (f := plainV) fun w1 M1 u1 _ => ?_); refine update_out (f' := plainV) undPl undS (by simp [IsKey]) M1 (nodup_take_notin plainL_nodup (i := 0) (by decide)) _ (congrArg (Value.int .i64) (show plainF _ = 1 by decide +kernel)) (fun _ _ _ => rfl) fun w3 M3 u3 _ => ?_; refine update_out (f' := plainV) undPl undS (by simp [IsKey]) M3 (nodup_take_notin plainL_nodup (i := 1) (by decide)) _ (congrArg (Value.int .i64) (show plainF _ = 2 by decide +kernel)) (fun _ _ _ => rfl) fun w5 M5 u5 _ => ?_; refine update_out (f' := plainV) undPl undS (by simp [IsKey]) M5 (nodup_take_notin plainL_nodup (i := 2) (by decide)) _ (congrArg (Value.int .i64) (show plainF _ = 3 by decide +kernel)) (fun _ _ _ => rfl) fun w7 M7 u7 _ => ?_; refine update_out (f' := plainV) undPl undS (by simp [IsKey]) M7 (nodup_take_notin plainL_nodup (i := 3) (by decide)) _ (congrArg (Value.int .i64) (show plainF _ = 4 by decide +kernel)) (fun _ _ _ => rfl) fun w9 M9 u9 _ => ?_; refine update_out (f' := plainV) undPl undS (by simp [IsKey]) M9 (nodup_take_notin plainL_nodup (i := 4) (by decide)) _ (congrArg (Value.int .i64) (show plainF _ = 5 by decide +kernel)) (fun _ _ _ => rfl) fun w11 M11 u11 _ => ?_
  have hr := run_lookup_in undPl undS (k := .string s) (by simp [IsKey]) M11 (by
    have : Value.string s ∈ plainL.map Value.string := List.mem_map_of_mem hs; exact this) false
  exact ⟨plainV (.string s), ⟨plainF s, rfl, rfl, ((((u1.trans u3 hlt).trans u5 hlt).trans u7 hlt).trans u9 hlt).trans u11 hlt⟩, fun w' e => by cases e; exact hr⟩
section
variable {w0 w : World} {tv : Value} {toks : List Tok} {a d : Nat} {t : Tok} {K R : KV}
def namedF (ts : List Tok) (a : Nat) : Option (Wt × Nat) :=
  match ts[a]?, ts[a + 1]? with
  | some t, some q =>
    if t.kind = 1 then
      if isW q [wDot] then match ts[a + 2]?, ts[a + 3]? with
        | some u, some _ => if u.kind = 1 then some (.mk 6 t.at_ t.text u.text [] [] .nil, a + 3) else none
        | _, _ => none
      else some (.mk 6 t.at_ .empty t.text [] [] .nil, a + 1)
    else none
  | _, _ => none
theorem mkX {G : Nat -> Prop} {w : World} {b : Nat} {k at_ : Int} {al nm : ByteArray} {nv av rv : Value} {ns : List ByteArray} {xs : List Wt} {r : Wt} {vs : List Value} (hB : Blk w b #[.int .i64 k, .int .i64 at_, .string al, .string nm, nv, av, rv] 63) (hG : G b)
    (hN : RowAt w idx.str 1 nv (ns.map Value.string)) (gN : ∀ b, InRow nv b -> G b) (hA : RowAt w idx.ptr 1 av vs) (gA : ∀ b, InRow av b -> G b) (hT : XsAt idx G w vs xs) (hR : XAt idx G w rv r) :
    XAt idx G w (.pointer (some ⟨b, 0, none⟩)) (.mk k at_ al nm ns xs r) := by
  unfold XAt; exact ⟨b, nv, av, rv, vs, rfl, hG, hB, hN, gN, hA, gA, hT, hR⟩
theorem mkX0 {G : Nat -> Prop} {w : World} {b : Nat} {k at_ : Int} {al nm : ByteArray} (hB : Blk w b #[.int .i64 k, .int .i64 at_, .string al, .string nm, .slice none 0 0, .slice none 0 0, .pointer none] 63) (hG : G b) : XAt idx G w (.pointer (some ⟨b, 0, none⟩)) (.mk k at_ al nm [] [] .nil) :=
  mkX (ns := []) (xs := []) (r := .nil) (vs := []) hB hG (RowAt.nil _ _ _) (fun b hb => (no_in b hb).elim) (RowAt.nil _ _ _) (fun b hb => (no_in b hb).elim) trivial rfl
theorem named_c (P : P0 w0 tv toks) (Z : Pz w0 tv w a d) {x : Wt} {a' : Nat} (hF : namedF toks a = some (x, a')) (hl : toks.length <= 900000)
    (hk : ∀ w' q, Pz w0 tv w' a' d -> XAt idx (From w.heap.size) w' (.pointer q) x -> Upd (· = w0.heap.size) w w' -> K (.pointer q) w') :
    callX Tryz.prog 186 #[.pointer (some ⟨w0.heap.size, 0, none⟩)] w K R := by
  unfold namedF at hF; split at hF
  case h_2 => cases hF
  rename_i t q ht hq; have hat := (List.getElem?_eq_some_iff.1 ht).1; have haq := (List.getElem?_eq_some_iff.1 hq).1; split at hF
  case isFalse => cases hF
  rename_i h1; have hzl := Z.lt; refine pnamed_text _ _ _ _ (next_c P Z ht fun w1 u1 => ⟨_, _, _, _, rfl, name_c P (Z.keep u1) ht h1 (by omega) fun w7 Z7 u7 => ⟨_, rfl, newC_mk fun w10 B10 u10 s10 => ?_⟩⟩); have z1 := u1.size; have z7 := u7.size; have U10 : Upd (· = w0.heap.size) w w10 := (u1.no.trans u7 fun _ _ e => e).trans u10 fun _ _ e => e.elim; refine ⟨fun w' => Pz w0 tv w' a' d /\ Upd (· = w0.heap.size) w w' /\ XAt idx (From w.heap.size) w' (.pointer (some ⟨w7.heap.size, 0, none⟩)) x, fun w12 ⟨z, u, h⟩ _ => hk w12 _ z h u, newC_mk fun w15 B15 u15 s15 => ?_⟩; have Z15 := Z7.keep (up u10 u15); have U15 := U10.trans u15 fun _ _ e => e.elim; refine may_c P Z15 hq (by omega) (one_str B15) rfl (by decide) (fun hy w17 Z17 u17 => ⟨_, rfl, brC_tt rfl ?_⟩) fun hno w17 u17 => ⟨_, rfl, brC_ff rfl ?_⟩
  . have hy : isW q [wDot] = true := hy; rw [if_pos hy] at hF; split at hF
    case h_2 => cases hF
    rename_i u _ hu hv; split at hF
    case isFalse => cases hF
    rename_i hu1; cases hF; have hau := (List.getElem?_eq_some_iff.1 hu).1; have B17 := (B10.upd u15 id).upd u17 (by omega); refine drawC_mk fun w19 u19 _ => ⟨fun w' => Blk w' w7.heap.size #[.int .i64 6, .int .i64 (t.at_ : Int), .string .empty, .string t.text, .slice none 0 0, .slice none 0 0, .pointer none] 63, _, (B17.upd u19 id).cell rfl, fun w22 h => lds_str (h.cell rfl), ?_, trivial⟩; refine name_c P (Z17.keep u19) hu hu1 (by omega) fun w24 Z24 u24 => ⟨_, rfl, (B17.upd u19 id).upd u24 (by omega), ?_, trivial⟩; have B24 := (B17.upd u19 id).upd u24 (by omega); refine stC_mk B24 (by simp) fun w26 B26 u26 _ => ⟨stC_mk B26 (by simp) fun w27 B27 u27 _ => ⟨⟨?_, ?_⟩, ?_, ?_⟩, trivial⟩
    . exact (Z24.up.trans u26 fun x hx (e : x = _) => by omega).trans u27 fun x hx (e : x = _) => by omega
    . exact (Z24.blk.upd u26 (by omega)).upd u27 (by omega)
    . exact ((((U15.trans u17 fun _ _ e => e).trans u19 fun _ _ e => e.elim).trans u24 fun _ _ e => e).trans u26 fun x hx (e : x = _) => by omega).trans u27 fun x hx (e : x = _) => by omega
    . exact mkX0 B27 (show w.heap.size <= _ by omega)
  . have hno : isW q [wDot] = false := hno; rw [if_neg (by rw [hno]; simp)] at hF; cases hF; exact ⟨Z15.keep u17, U15.trans u17 fun _ _ e => e.elim, mkX0 ((B10.upd u15 id).upd u17 id) (show w.heap.size <= _ by omega)⟩
end
abbrev pxT : Px := Px.mk [136, 131, 82, 137, 138, 83, 90, 86, 85, 87, 142, 147, 145, 231, 88, 143, 144, 185, 186, 91, 89, 146, 92, 148, 149, 188, 211, 248, 230, 247, 43, 115] true
section
variable {σ : Type} (ts : List Tok) (E : σ -> Nat -> Option (Wt × Nat × σ)) (en : ByteArray)
def lstF : Nat -> Nat -> σ -> List Wt -> Option (List Wt × Nat × σ)
  | 0, _, _, _ => none
  | f + 1, a, st, xs => match E st a with
    | none => none
    | some (x, a1, st') => match ts[a1]? with
      | none => none
      | some q => if isW q [wComma] then lstF f (a1 + 1) st' (xs ++ [x]) else if isW q [en] then some (xs ++ [x], a1 + 1, st') else none
def lstA (a : Nat) (st : σ) : Option (List Wt × Nat × σ) := match ts[a]? with
  | none => none
  | some t => if isW t [en] then some ([], a + 1, st) else lstF ts E en (ts.length + 1) a st []
end
theorem elemWt : Elem 54 27 8 := ⟨by kernel_rfl, by
  obtain ⟨i, h1, h2, h3, h4⟩ := info_get (P := Tryz.prog) (e := 27) (s := 1) (b := 8) (z := .pointer none) (by kernel_rfl); exact ⟨i, _, h1, h2, h3, h4, rfl⟩⟩
theorem Pz.at_ {w0 w : World} {tv : Value} {a d : Nat} (h : Pz w0 tv w a d) : atOf w w0.heap.size = a := by
  unfold atOf; rw [h.blk.cell (i := 1) rfl]; simp
theorem list_c {w0 w : World} {tv : Value} {toks : List Tok} {a d : Nat} {K R : KV} (P : P0 w0 tv toks) (Z : Pz w0 tv w a d) (hl : toks.length <= 900000) {σ : Type} {E : σ -> Nat -> Option (Wt × Nat × σ)} {en : ByteArray} {st st' : σ} {xs : List Wt} {a' : Nat}
    (hF : lstA toks E en a st = some (xs, a', st')) (hE : ∀ st a x a1 st', E st a = some (x, a1, st') -> a < a1) {fn : Fn} {fa fc : Array Value} {I : σ -> (Nat -> Prop) -> WP} {N : Nat -> Prop}
    (hkeep : ∀ st N w w' S, I st N w -> Upd S w w' -> (∀ b, N b -> ¬ S b) -> I st N w') (hN : ∀ st N w, I st N w -> ∀ b, N b -> b < w.heap.size /\ w0.heap.size < b)
    (hone : ∀ (st : σ) (N : Nat -> Prop) (a : Nat) (x : Wt) (a1 : Nat) (st' : σ) (w : World) (K : KV), Pz w0 tv w a d -> I st N w -> E st a = some (x, a1, st') ->
      (∀ w' q N', Pz w0 tv w' a1 d -> I st' N' w' -> (∀ b, N' b -> N b \/ w.heap.size <= b) -> XAt idx (fun b => w.heap.size <= b /\ ¬ N' b) w' (.pointer q) x -> Upd (fun b => b = w0.heap.size \/ N b) w w' -> K (.pointer q) w') -> invB Tryz.prog pxT (.func fn fa fc) #[] w K R)
    (hI : I st N w)
    (hk : ∀ w' p n c vs N', Pz w0 tv w' a' d -> I st' N' w' -> (∀ b, N' b -> N b \/ w.heap.size <= b) -> RowAt w' idx.ptr 1 (.slice p n c) vs -> (∀ b, InRow (.slice p n c) b -> w.heap.size <= b /\ ¬ N' b) -> XsAt idx (fun b => w.heap.size <= b /\ ¬ N' b) w' vs xs -> Upd (fun b => b = w0.heap.size \/ N b) w w' -> K (.slice p n c) w') :
    callX Tryz.prog 145 #[.pointer (some ⟨w0.heap.size, 0, none⟩), .string en, .func fn fa fc] w K R := by
  unfold lstA at hF; split at hF
  . cases hF
  rename_i t ht; have hwl := Z.lt; refine listT_text _ _ _ _ _ _ _ _ (newC_mk fun w1 B1 u1 _ => is_c P (Z.keep u1) ht (one_str B1) rfl (by decide) fun w3 u3 => ⟨_, rfl, ?_⟩); have U3 := up u1 u3; have z3 := U3.size
  refine ⟨fun p n c b w' => ∃ st2 N2 a2 xs2 vs, Pz w0 tv w' a2 d /\ a2 <= toks.length /\ I st2 N2 w' /\ (∀ b, N2 b -> N b \/ w.heap.size <= b) /\ RowAt w' idx.ptr 1 (.slice p n c) vs /\ (∀ b, InRow (.slice p n c) b -> w.heap.size <= b /\ ¬ N2 b) /\
      XsAt idx (fun b => w.heap.size <= b /\ ¬ InRow (.slice p n c) b /\ ¬ N2 b) w' vs xs2 /\ Upd (fun b => b = w0.heap.size \/ N b) w w' /\ vs.length <= a2 /\
      (b = true -> ∃ f, lstF toks E en f a2 st2 xs2 = some (xs, a', st')) /\ (b = false -> (∃ q, toks[a2]? = some q /\ isW q [en] = true) /\ xs2 = xs /\ a' = a2 + 1 /\ st2 = st'),
    fun _ _ _ _ w' => toks.length + 1 - atOf w' w0.heap.size, ?_, ?_⟩
  . have ha := (List.getElem?_eq_some_iff.1 ht).1; refine ⟨st, N, a, [], [], Z.keep U3, by omega, hkeep _ _ _ _ _ hI U3 (fun _ _ h => h), fun b h => .inl h, RowAt.nil _ _ _, fun b hb => (no_in b hb).elim, trivial, U3.no, Nat.zero_le _, fun hb => ?_, fun hb => ?_⟩
    . have hb : isW t [en] = false := by simpa using hb
      rw [if_neg (by rw [hb]; simp)] at hF; exact ⟨_, hF⟩
    . have hb : isW t [en] = true := by simpa using hb
      rw [if_pos hb] at hF; cases hF; exact ⟨⟨t, ht, hb⟩, rfl, rfl, rfl⟩
  rintro p n c b w11 ⟨st2, N2, a2, xs2, vs, Z11, ha2, I11, sub2, row, rowN, hxs, U11, hvs, hbt, hbf⟩ _; have z11 := U11.size; have hlen := hxs.length; refine brC_intro (fun hb => ?_) fun hb => ?_
  . obtain ⟨f, hf⟩ := hbt hb
    cases f with
    | zero => cases hf
    | succ f =>
    unfold lstF at hf; split at hf
    . cases hf
    rename_i x a1 st3 hEx; split at hf
    . cases hf
    rename_i q hq; have ha1 := hE _ _ _ _ _ hEx; have hq1 := (List.getElem?_eq_some_iff.1 hq).1; refine hone st2 N2 a2 x a1 st3 w11 _ Z11 I11 hEx fun w14 q15 N3 Z14 I14 sub3 hx u14 => ⟨q15, rfl, newC_mk fun w17 B17 u17 s17 => ?_⟩; have z14 := u14.size; have hN3 := hN _ _ _ I14
    have nr : ∀ b, InRow (.slice p n c) b -> ¬ (b = w0.heap.size \/ N2 b) := fun b hb h => by
      have := rowN b hb; rcases h with h | h
      . omega
      . exact this.2 h
    have row17 := (row.upd u14 nr).upd u17 fun _ _ h => h; have hnl := row_cap row; have O17 : Own w.heap.size w17 idx.ptr p n c vs := ⟨row17, fun b hb => (rowN b hb).1, hnl.1, hnl.2⟩; refine grow_row elemWt O17 (by omega) (row_one B17) (by intro u hu; simp at hu; subst hu; rfl) (by omega) (by simp; omega) fun p' n' c' w19 o19 _ hin19 u19 => newC_mk fun w24 B24 u24 _ => ?_; have nk : ¬ InRow (.slice p n c) w0.heap.size := fun h => by have := (rowN _ h).1; omega
    have Z19 : Pz w0 tv w19 a1 d := ⟨(Z14.keep u17).up.trans u19 fun y hy h => by have := (rowN y h).1; omega, (Z14.keep u17).blk.upd u19 nk⟩
    have dis : ∀ b, N3 b -> ¬ InRow (.slice p n c) b := fun b hb h => by
      rcases sub3 b hb with h2 | h2
      . exact (rowN b h).2 h2
      . have := row.lt h; omega
    have I24 : I st3 N3 w24 := hkeep _ _ _ _ _ (hkeep _ _ _ _ _ (hkeep _ _ _ _ _ I14 u17 fun _ _ h => h) u19 dis) u24 fun _ _ h => h; have Z24 := Z19.keep u24
    have U24 : Upd (fun b => b = w0.heap.size \/ N b) w w24 := by
      refine ((((U11.trans u14 fun y hy h => ?_).trans u17 fun _ _ h => h.elim).trans u19 fun y hy h => ?_).trans u24 fun _ _ h => h.elim)
      . rcases h with h | h
        . exact .inl h
        . rcases sub2 y h with h | h
          . exact .inr h
          . omega
      . have := (rowN y h).1; omega
    have xs24 : XsAt idx (fun b => w.heap.size <= b /\ ¬ InRow (.slice p' n' c') b /\ ¬ N3 b) w24 (vs ++ [.pointer q15]) (xs2 ++ [x]) := by
      have z17 : w14.heap.size + 1 = w17.heap.size := s17.symm; refine XsAt.append ?_ ⟨?_, trivial⟩
      . have h1 := xsAt_keep (G := fun b => (w.heap.size <= b /\ ¬ InRow (.slice p n c) b) /\ b < w11.heap.size /\ ¬ N3 b) u14 (fun b hb h => by
          rcases h with h | h
          . have := hb.1; omega
          . exact hb.2.2 h) (fun b hlt hb => ⟨⟨hb.1, hb.2.1⟩, hlt, fun h => by
          rcases sub3 b h with h2 | h2
          . exact hb.2.2 h2
          . omega⟩) hxs
        have h2 := xsAt_keep (G := fun b => w.heap.size <= b /\ ¬ InRow (.slice p' n' c') b /\ ¬ N3 b) u19 (fun b hb h => hb.1.2 h) (fun b hlt hb => ⟨hb.1.1, fun h => by
          rcases hin19 b h with h2 | h2
          . exact hb.1.2 h2
          . have := hb.2.1; omega, hb.2.2⟩) (h1.keep u17)
        exact h2.keep u24
      . have h1 := xAt_keep (G := fun b => w.heap.size <= b /\ ¬ InRow (.slice p' n' c') b /\ ¬ N3 b) (Upd.trans (S := InRow (.slice p n c)) (T := InRow (.slice p n c)) u17.no u19 fun _ _ h => h) (fun b hb h => by have := row.lt h; have := hb.1; omega) (fun b hlt hb => ⟨by have := hb.1; omega, fun h => by
          rcases hin19 b h with h2 | h2
          . have := row.lt h2; have := hb.1; omega
          . omega, hb.2⟩) x _ hx
        exact h1.keep u24
    have row24 := o19.row.upd u24 fun _ _ h => h
    have rowN24 : ∀ b, InRow (.slice p' n' c') b -> w.heap.size <= b /\ ¬ N3 b := fun b hb => by
      refine ⟨o19.own b hb, fun h => ?_⟩; rcases hin19 b hb with h2 | h2
      . exact dis b h h2
      . have := (hN3 b h).1; omega
    have sub4 : ∀ b, N3 b -> N b \/ w.heap.size <= b := fun b h => by
      rcases sub3 b h with h | h
      . exact sub2 b h
      . exact .inr (by omega)
    have hmeas : ∀ {w' a3}, Pz w0 tv w' a3 d -> a2 < a3 -> toks.length + 1 - atOf w' w0.heap.size < toks.length + 1 - atOf w11 w0.heap.size := fun h1 h2 => by
      rw [h1.at_, Z11.at_]; omega
    refine may_c P Z24 hq (by omega) (one_str B24) rfl (by decide) (fun hy w26 Z26 u26 => ⟨_, rfl, ⟨st3, N3, a1 + 1, xs2 ++ [x], vs ++ [.pointer q15], Z26, by omega, hkeep _ _ _ _ _ I24 u26 (fun b hb e => by have := (hN3 b hb).2; omega), sub4, row24.upd u26 (fun b hb e => by have := (rowN24 b hb).1; omega), rowN24,
      xs24.upd u26 (fun b hb e => by have := hb.1; omega), U24.trans u26 (fun y hy e => .inl e), by simp; omega, fun _ => ⟨f, ?_⟩, fun h => by cases h⟩, hmeas Z26 (by omega)⟩)
      fun hno w26 u26 => ⟨_, rfl, ⟨st3, N3, a1, xs2 ++ [x], vs ++ [.pointer q15], Z24.keep u26, by omega, hkeep _ _ _ _ _ I24 u26 (fun _ _ h => h), sub4, row24.upd u26 (fun _ _ h => h), rowN24, xs24.keep u26, U24.trans u26 (fun _ _ h => h.elim), by simp; omega, fun h => by (cases h), fun _ => ?_⟩, hmeas (Z24.keep u26) ha1⟩
    . have hy : isW q [wComma] = true := hy; rw [if_pos hy] at hf; exact hf
    . rw [if_neg (by rw [show isW q [wComma] = false from hno]; simp)] at hf; split at hf
      . rename_i hen; cases hf; exact ⟨⟨q, hq, hen⟩, rfl, rfl, rfl⟩
      . cases hf
  . obtain ⟨⟨q, hq, hen⟩, rfl, rfl, rfl⟩ := hbf hb; have hq1 := (List.getElem?_eq_some_iff.1 hq).1
    refine must_c P Z11 hq (by omega) hen fun w29 Z29 u29 => ⟨rfl, hk w29 p n c vs N2 Z29 (hkeep _ _ _ _ _ I11 u29 (fun b hb e => by have := (hN _ _ _ I11 b hb).2; omega)) sub2 (row.upd u29 fun b hb e => by have := (rowN b hb).1; omega) rowN
      ((hxs.mono fun b _ hb => ⟨hb.1, hb.2.2⟩).upd u29 fun b hb e => by have := hb.1; omega) (U11.trans u29 fun y hy e => .inl e)⟩
section pure
variable (ts : List Tok) (self : Nat -> Nat -> Option (Wt × Nat))
def fieldE (d : Nat) (ns : List ByteArray) (a : Nat) : Option (Wt × Nat × List ByteArray) :=
  if 900000 < ns.length then none else
  match ts[a]?, ts[a + 1]? with
  | some t, some c => if t.kind = 1 then if isW c [wColon] then match self (a + 2) d with
      | some (x, a1) => some (x, a1, ns ++ [t.text])
      | none => none
    else none else none
  | _, _ => none
def argE (d : Nat) (_ : Unit) (a : Nat) : Option (Wt × Nat × Unit) := match self a d with
  | some (x, a1) => some (x, a1, ())
  | none => none
def oneS (a d : Nat) : Option (Wt × Nat) := match ts[a]? with
  | none => none
  | some t =>
    if isW t plainL then (if a + 1 < ts.length then some (.mk (plainF t.text) t.at_ .empty .empty [] [] .nil, a + 1) else none)
    else if isW t [wLp] then match self (a + 1) d with
      | none => none
      | some (x, a1) => match ts[a1]? with
        | none => none
        | some q => if isW q [wRp] then some (x, a1 + 1) else none
    else if isW t [wLb] then match lstA ts (fieldE ts self d) wRb (a + 1) [] with
      | none => none
      | some (xs, a1, ns) => some (.mk 7 t.at_ .empty .empty ns xs .nil, a1)
    else if isW t [wFn] then match ts[a + 1]? with
      | none => none
      | some q => if isW q [wLp] then match lstA ts (argE self d) wRp (a + 2) () with
          | none => none
          | some (xs, a1, _) => match ts[a1]? with
            | none => none
            | some r => if isW r [wArrow] then match self (a1 + 1) d with
                | none => none
                | some (x, a2) => some (.mk 8 t.at_ .empty .empty [] xs x, a2)
              else none
        else none
    else namedF ts a
end pure
def Inc (self : Nat -> Nat -> Option (Wt × Nat)) : Prop := ∀ a d x a1, self a d = some (x, a1) -> a < a1
theorem fieldE_inc {ts : List Tok} {self : Nat -> Nat -> Option (Wt × Nat)} (h : Inc self) {d : Nat} {ns : List ByteArray} {a : Nat} {x : Wt} {a1 : Nat} {ns' : List ByteArray} (he : fieldE ts self d ns a = some (x, a1, ns')) : a < a1 := by
  unfold fieldE at he; split at he
  . cases he
  split at he
  . split at he
    . split at he
      . split at he
        . rename_i x2 a2 hs; simp only [Option.some.injEq, Prod.mk.injEq] at he; have := h _ _ _ _ hs; omega
        . cases he
      . cases he
    . cases he
  . cases he
theorem argE_inc {self : Nat -> Nat -> Option (Wt × Nat)} (h : Inc self) {d : Nat} {a : Nat} {x : Wt} {a1 : Nat} {st st' : Unit} (he : argE self d st a = some (x, a1, st')) : a < a1 := by
  unfold argE at he; split at he
  . rename_i x2 a2 hs; simp only [Option.some.injEq, Prod.mk.injEq] at he; have := h _ _ _ _ hs; omega
  . cases he
def TypOk (w0 : World) (tv : Value) (self : Nat -> Nat -> Option (Wt × Nat)) : Prop := ∀ (w : World) (a d : Nat) (x : Wt) (a1 : Nat) (K R : KV), Pz w0 tv w a d -> self a d = some (x, a1) ->
  (∀ w' q, Pz w0 tv w' a1 d -> XAt idx (From w.heap.size) w' (.pointer q) x -> Upd (· = w0.heap.size) w w' -> K (.pointer q) w') -> callX Tryz.prog 88 #[.pointer (some ⟨w0.heap.size, 0, none⟩)] w K R
theorem lds_px {w : World} {a : Addr} {p : Option Addr} (h : w.cell? a = some (.pointer p)) : Lds Tryz.prog 110 w a (.pointer p) := by
  have key : (∃ p', w.cell? a = some (.pointer p') /\ .pointer p' = Value.pointer p) = ldVC Tryz.prog 110 w a (fun v => v = .pointer p) := by kernel_rfl
  obtain ⟨v, rfl, hr⟩ := semR_out (ldVC_sound (of_eq ⟨_, h, rfl⟩ key)); exact hr w rfl
theorem lds_tx {w : World} {a : Addr} {p : Option Addr} (h : w.cell? a = some (.pointer p)) : Lds Tryz.prog 27 w a (.pointer p) := by
  have key : (∃ p', w.cell? a = some (.pointer p') /\ .pointer p' = Value.pointer p) = ldVC Tryz.prog 27 w a (fun v => v = .pointer p) := by kernel_rfl
  obtain ⟨v, rfl, hr⟩ := semR_out (ldVC_sound (of_eq ⟨_, h, rfl⟩ key)); exact hr w rfl
structure On (w0 : World) (tv : Value) (w wc : World) (k0 k9 k11 : Nat) (cs : Array Value) (q : Option Addr) (a d : Nat) : Prop where
  z : Pz w0 tv wc a d
  u : Upd (· = w0.heap.size) w wc
  b0 : Blk wc k0 #[.pointer (some ⟨w0.heap.size, 0, none⟩)] 110
  b9 : Blk wc k9 cs 63
  b11 : Blk wc k11 #[.pointer q] 27
  d : w0.heap.size < w.heap.size /\ w.heap.size <= k0 /\ k0 < k9 /\ k9 < k11
section
variable {w0 w wc w' : World} {tv : Value} {k0 k9 k11 : Nat} {cs : Array Value} {q : Option Addr} {a d a' : Nat}
theorem On.keep (h : On w0 tv w wc k0 k9 k11 cs q a d) (u : Upd No wc w') : On w0 tv w w' k0 k9 k11 cs q a d :=
  ⟨h.z.keep u, h.u.trans u fun _ _ x => x.elim, h.b0.upd u id, h.b9.upd u id, h.b11.upd u id, h.d⟩
theorem On.adv (h : On w0 tv w wc k0 k9 k11 cs q a d) (z : Pz w0 tv w' a' d) (u : Upd (· = w0.heap.size) wc w') : On w0 tv w w' k0 k9 k11 cs q a' d :=
  have hd := h.d
  ⟨z, h.u.trans u fun _ _ x => x, h.b0.upd u (by omega), h.b9.upd u (by omega), h.b11.upd u (by omega), h.d⟩
theorem On.st9 (h : On w0 tv w wc k0 k9 k11 cs q a d) {i : Nat} {v : Value} (hi : i < cs.size) {K : WP} (hk : ∀ w', On w0 tv w w' k0 k9 k11 (cs.setIfInBounds i v) q a d -> Upd (· = k9) wc w' -> K w') : stC wc ⟨k9, i, none⟩ v K :=
  have hd := h.d
  stC_mk h.b9 hi fun w' B u _ => hk w' ⟨⟨h.z.up.trans u fun x hx (e : x = _) => by omega, h.z.blk.upd u (by omega)⟩, h.u.trans u fun x hx (e : x = _) => by omega, h.b0.upd u (by omega), B, h.b11.upd u (by omega), h.d⟩ u
theorem On.st11 (h : On w0 tv w wc k0 k9 k11 cs q a d) {q' : Option Addr} {K : WP} (hk : ∀ w', On w0 tv w w' k0 k9 k11 cs q' a d -> Upd (· = k11) wc w' -> K w') : stC wc ⟨k11, 0, none⟩ (.pointer q') K :=
  have hd := h.d
  stC_mk h.b11 (by simp) fun w' B u _ => hk w' ⟨⟨h.z.up.trans u fun x hx (e : x = _) => by omega, h.z.blk.upd u (by omega)⟩, h.u.trans u fun x hx (e : x = _) => by omega, h.b0.upd u (by omega), h.b9.upd u (by omega), B, h.d⟩ u
end
theorem field_c {w0 w : World} {tv : Value} {toks : List Tok} {a d : Nat} {K R : KV} (P : P0 w0 tv toks) (hl : toks.length <= 900000) {self : Nat -> Nat -> Option (Wt × Nat)} (hself : TypOk w0 tv self)
    {n0 k0 k9 k11 : Nat} {at_ : Int} {nv : Value} {ns ns' : List ByteArray} {x : Wt} {a1 : Nat} (Z : Pz w0 tv w a d) (b0 : Blk w k0 #[.pointer (some ⟨w0.heap.size, 0, none⟩)] 110)
    (b9 : Blk w k9 #[.int .i64 7, .int .i64 at_, .string .empty, .string .empty, nv, .slice none 0 0, .pointer none] 63) (b11 : Blk w k11 #[.pointer (some ⟨k9, 0, none⟩)] 27) (row : RowAt w idx.str 1 nv (ns.map Value.string))
    (own : ∀ b, InRow nv b -> n0 <= b /\ b ≠ k0 /\ b ≠ k9 /\ b ≠ k11) (hd : w0.heap.size < n0 /\ n0 <= k0 /\ k0 < k9 /\ k9 < k11) (hF : fieldE toks self d ns a = some (x, a1, ns'))
    (hk : ∀ w' q nv', Pz w0 tv w' a1 d -> Blk w' k0 #[.pointer (some ⟨w0.heap.size, 0, none⟩)] 110 -> Blk w' k9 #[.int .i64 7, .int .i64 at_, .string .empty, .string .empty, nv', .slice none 0 0, .pointer none] 63 -> Blk w' k11 #[.pointer (some ⟨k9, 0, none⟩)] 27 ->
      RowAt w' idx.str 1 nv' (ns'.map Value.string) -> ns'.length = ns.length + 1 -> (∀ b, InRow nv' b -> n0 <= b /\ b ≠ k0 /\ b ≠ k9 /\ b ≠ k11) -> (∀ b, InRow nv' b -> InRow nv b \/ w.heap.size <= b) -> XAt idx (fun b => w.heap.size <= b /\ ¬ InRow nv' b) w' (.pointer q) x ->
      Upd (fun b => b = w0.heap.size \/ b = k9 \/ InRow nv b) w w' -> K (.pointer q) w') :
    callX Tryz.prog 185 #[.pointer (some ⟨k11, 0, none⟩), .pointer (some ⟨k0, 0, none⟩)] w K R := by
  unfold fieldE at hF; split at hF
  . cases hF
  rename_i hns; split at hF
  case h_2 => cases hF
  rename_i t c ht hc; split at hF
  case isFalse => cases hF
  rename_i h1; split at hF
  case isFalse => cases hF
  rename_i hcol; split at hF
  case h_2 => cases hF
  rename_i x2 a2 hs; simp only [Option.some.injEq, Prod.mk.injEq] at hF; obtain ⟨rfl, rfl, rfl⟩ := hF; have hat := (List.getElem?_eq_some_iff.1 ht).1; have hac := (List.getElem?_eq_some_iff.1 hc).1; obtain ⟨p, n, cp, rfl, hn, hnc, hcm⟩ := row.shape; rw [List.length_map, Nat.mul_one] at hn
  refine pone1_text _ _ _ _ _ _ _ ⟨fun w' => ∃ nv', Pz w0 tv w' (a + 1) d /\ Blk w' k0 #[.pointer (some ⟨w0.heap.size, 0, none⟩)] 110 /\ Blk w' k9 #[.int .i64 7, .int .i64 at_, .string .empty, .string .empty, nv', .slice none 0 0, .pointer none] 63 /\ Blk w' k11 #[.pointer (some ⟨k9, 0, none⟩)] 27 /\
      RowAt w' idx.str 1 nv' ((ns ++ [t.text]).map Value.string) /\ (∀ b, InRow nv' b -> InRow (.slice p n cp) b \/ w.heap.size <= b) /\ Upd (fun b => b = w0.heap.size \/ b = k9 \/ InRow (.slice p n cp) b) w w', ?_, drawC_mk fun w10 u10 _ => ?_⟩
  . rintro w1 ⟨nv', Z1, c0, c9, c11, r1, in1, u1⟩ _
    have hown : ∀ b, InRow nv' b -> n0 <= b /\ b ≠ k0 /\ b ≠ k9 /\ b ≠ k11 := fun b hb => by
      rcases in1 b hb with h | h
      . exact own b h
      . have := b0.lt; have := b9.lt; have := b11.lt; omega
    refine ⟨_, c0.cell rfl, must_c P Z1 hc (by omega) hcol fun w5 Z5 u5 => ⟨rfl, ?_⟩⟩; have e0 := c0.upd u5 (by omega); refine ⟨_, e0.cell rfl, hself w5 (a + 2) d x2 a2 _ _ Z5 hs fun w8 q Z8 hx u8 => ⟨q, rfl, ?_⟩⟩; have z15 : w.heap.size <= w5.heap.size := by have := u1.size; have := u5.size; omega
    refine hk w8 q nv' Z8 (e0.upd u8 (by omega)) ((c9.upd u5 (by omega)).upd u8 (by omega)) ((c11.upd u5 (by omega)).upd u8 (by omega)) ((r1.upd u5 fun b hb e => by have := (hown b hb).1; omega).upd u8 fun b hb e => by have := (hown b hb).1; omega) (by simp) hown in1
      (hx.mono fun b _ hb => ⟨by have : w5.heap.size <= b := hb; omega, fun h => by have := r1.lt h; have := u5.size; have : w5.heap.size <= b := hb; omega⟩) ((u1.trans u5 fun _ _ e => .inl e).trans u8 fun _ _ e => .inl e)
  have S10 : ∀ {w'}, Upd No w10 w' -> Blk w' k11 #[.pointer (some ⟨k9, 0, none⟩)] 27 /\ Blk w' k0 #[.pointer (some ⟨w0.heap.size, 0, none⟩)] 110 /\ Blk w' k9 #[.int .i64 7, .int .i64 at_, .string .empty, .string .empty, .slice p n cp, .slice none 0 0, .pointer none] 63 := fun u => ⟨(b11.upd u10 id).upd u id, (b0.upd u10 id).upd u id, (b9.upd u10 id).upd u id⟩; obtain ⟨c11, c0, c9⟩ := S10 (Upd.refl _ _)
  refine ⟨fun w' => Blk w' k11 #[.pointer (some ⟨k9, 0, none⟩)] 27 /\ Blk w' k0 #[.pointer (some ⟨w0.heap.size, 0, none⟩)] 110 /\ Blk w' k9 #[.int .i64 7, .int .i64 at_, .string .empty, .string .empty, .slice p n cp, .slice none 0 0, .pointer none] 63,
    _, c11.cell rfl, fun w' h => lds_tx (h.1.cell rfl), _, c11.cell rfl, fun w' h => lds_tx (h.1.cell rfl), ptrC_some ⟨p, n, cp, by rw [add_mk]; exact c9.cell rfl, fun w' h => lds_strs (by rw [add_mk]; exact h.2.2.cell rfl), _, c0.cell rfl, fun w' h => lds_px (h.2.1.cell rfl), ?_, trivial⟩⟩
  refine name_c P (Z.keep u10) ht h1 (by omega) fun w24 Z24 u24 => ⟨_, rfl, ⟨c11.upd u24 (by omega), c0.upd u24 (by omega), c9.upd u24 (by omega)⟩, newC_mk fun w27 B27 u27 s27 => ⟨⟨(c11.upd u24 (by omega)).upd u27 id, (c0.upd u24 (by omega)).upd u27 id, (c9.upd u24 (by omega)).upd u27 id⟩, ?_, trivial⟩, trivial⟩; have d11 := (c11.upd u24 (by omega)).upd u27 id; have d0 := (c0.upd u24 (by omega)).upd u27 id; have d9 := (c9.upd u24 (by omega)).upd u27 id; have r27 := ((row.upd u10 fun _ _ h => h).upd u24 fun b hb e => by have := (own b hb).1; omega).upd u27 fun _ _ h => h; have hnr := row_cap r27; refine grow_row elemStr (n0 := n0) ⟨r27, fun b hb => (own b hb).1, hnr.1, hnr.2⟩ (by have := u10.size; have := u24.size; have := b0.lt; omega) (row_one B27) (by intro u hu; simp at hu; subst hu; rfl) (by omega) (by simp; omega) fun p' n' c' w29 o29 _ hin29 u29 => ?_; refine ⟨⟨d11.upd u29 (fun h => (own _ h).2.2.2 rfl), d0.upd u29 (fun h => (own _ h).2.1 rfl), d9.upd u29 (fun h => (own _ h).2.2.1 rfl)⟩, ptrC_some ⟨?_, trivial⟩⟩; rw [add_mk]; have z27 : w.heap.size <= w27.heap.size := by have := u10.size; have := u24.size; have := u27.size; omega
  have b9lt := b9.lt; have b0lt := b0.lt; have hin : ∀ b, InRow (.slice p' n' c') b -> InRow (.slice p n cp) b \/ w.heap.size <= b := fun b hb => (hin29 b hb).imp id fun h => by omega
  have nk : ¬ InRow (.slice p n cp) w0.heap.size := fun h => by have := (own _ h).1; omega
  refine stC_mk (d9.upd u29 (fun h => (own _ h).2.2.1 rfl)) (by simp) fun w34 B34 u34 _ => ⟨.slice p' n' c', ?_, (d0.upd u29 (fun h => (own _ h).2.1 rfl)).upd u34 (by omega), B34, (d11.upd u29 (fun h => (own _ h).2.2.2 rfl)).upd u34 (by omega), ?_, hin, ?_⟩
  . exact ⟨((Z24.keep u27).up.trans u29 fun y hy h => by have := (own y h).1; omega).trans u34 fun y hy (e : y = _) => by omega, ((Z24.keep u27).blk.upd u29 nk).upd u34 (by omega)⟩
  . have := o29.row.upd u34 fun b hb (e : b = k9) => by
      rcases hin b hb with h | h
      . exact (own b h).2.2.1 e
      . omega
    rw [List.map_append]; exact this
  . exact (((u10.no.trans u24 fun _ _ e => Or.inl e).trans u27 fun _ _ h => h.elim).trans u29 fun _ _ h => .inr (.inr h)).trans u34 fun _ _ e => .inr (.inl e)
theorem one_c {w0 w : World} {tv : Value} {toks : List Tok} {a d : Nat} {K R : KV} (P : P0 w0 tv toks) (hl : toks.length <= 900000) {self : Nat -> Nat -> Option (Wt × Nat)} (hself : TypOk w0 tv self) (hinc : Inc self) (Z : Pz w0 tv w a d) {x : Wt} {a' : Nat} (hF : oneS toks self a d = some (x, a'))
    (hk : ∀ w' q, Pz w0 tv w' a' d -> XAt idx (From w.heap.size) w' (.pointer q) x -> Upd (· = w0.heap.size) w w' -> K (.pointer q) w') :
    callX Tryz.prog 144 #[.pointer (some ⟨w0.heap.size, 0, none⟩)] w K R := by
  unfold oneS at hF; split at hF
  . cases hF
  rename_i t ht; have hat := (List.getElem?_eq_some_iff.1 ht).1; have hzl := Z.lt; refine pone_text _ _ _ _ (newC_mk fun w1 B1 u1 s1 => ⟨_, B1.cell rfl, next_c P (Z.keep u1) ht fun w4 u4 => ⟨_, _, _, _, rfl, newC_mk fun w10 B10 u10 s10 => newC_mk fun w12 B12 u12 s12 => ?_⟩⟩); have z4 := u4.size
  have O12 : On w0 tv w w12 w.heap.size w4.heap.size w10.heap.size #[.int .i64 0, .int .i64 (t.at_ : Int), .string .empty, .string .empty, .slice none 0 0, .slice none 0 0, .pointer none] none a d :=
    ⟨Z.keep (up (up u1 u4) (up u10 u12)), (up (up u1 u4) (up u10 u12)).no, B1.upd (up u4 (up u10 u12)) id, B10.upd u12 id, B12, by omega, by omega, by omega, by omega⟩
  generalize hk9 : w4.heap.size = k9 at O12; generalize hk11 : w10.heap.size = k11 at O12; clear B1 B10 B12 u1 u4 u10 u12; refine O12.st11 fun w13 O13 _ => ⟨_, O13.b0.cell rfl, next_c P O13.z ht fun w16 u16 => ⟨_, _, _, _, rfl, ?_⟩⟩; have O16 := O13.keep u16; have hd := O16.d; clear O12 O13 u16; refine ⟨fun w' => ∃ q, Blk w' k11 #[.pointer q] 27 /\ Pz w0 tv w' a' d /\ XAt idx (From w.heap.size) w' (.pointer q) x /\ Upd (· = w0.heap.size) w w', fun w22 ⟨q, b, z, h, u⟩ _ => ⟨q, b.cell rfl, hk w22 q z h u⟩, ?_⟩; refine ⟨_, O16.b0.cell rfl, newC_mk fun w27 B27 u27 _ => ?_⟩; have O27 := O16.keep u27; have row5 : StrsAt w27 (some ⟨w16.heap.size, 0, none⟩) plainL := strs_row (l := plainL) (row_blk B27 5 rfl (by simp only [maxLen]; omega)); refine may_c P O27.z ht (by omega) row5 rfl (by decide) (fun hy w29 Z29 u29 => ⟨_, rfl, brC_tt rfl ?_⟩) fun hno w29 u29 => ⟨_, rfl, brC_ff rfl ?_⟩
  . -- a word
    have O29 := O27.adv Z29 u29; rw [if_pos hy] at hF; split at hF
    case isFalse => cases hF
    cases hF
    have hmem : t.text ∈ plainL := by
      unfold isW at hy; exact memB_iff.1 (Bool.and_eq_true_iff.1 hy).2
    refine drawC_mk fun w31 u31 _ => ⟨fun w' => Upd No w31 w', _, (O29.keep u31).b11.cell rfl, fun w34 u34 => lds_tx (((O29.keep u31).keep u34).b11.cell rfl), callC_of (plain_spec hmem w31) fun v w36 ⟨e, u36⟩ => ⟨_, e, u36, ptrC_some ⟨?_, trivial⟩⟩, trivial⟩; refine ((O29.keep u31).keep u36).st9 (by simp) fun w39 O39 _ => ⟨_, O39.b11, O39.z, mkX0 O39.b9 (show w.heap.size <= k9 by omega), O39.u⟩
  have hno : isW t plainL = false := hno; rw [if_neg (by rw [hno]; simp)] at hF; have O29 := O27.keep u29; refine ⟨_, O29.b0.cell rfl, newC_mk fun w42 B42 u42 _ => ?_⟩; have O42 := O29.keep u42; refine may_c P O42.z ht (by omega) (one_str B42) rfl (by decide) (fun hy w44 Z44 u44 => ⟨_, rfl, brC_tt rfl ?_⟩) fun hno w44 u44 => ⟨_, rfl, brC_ff rfl ?_⟩
  . -- parentheses
    have hy : isW t [wLp] = true := hy; rw [if_pos hy] at hF; split at hF
    . cases hF
    rename_i x2 a2 hs; split at hF
    . cases hF
    rename_i q hq; split at hF
    case isFalse => cases hF
    rename_i hrp; cases hF; have haq := (List.getElem?_eq_some_iff.1 hq).1; have O44 := O42.adv Z44 u44; refine ⟨_, O44.b0.cell rfl, hself w44 (a + 1) d x a2 _ _ O44.z hs fun w48 q48 Z48 hx u48 => ⟨_, rfl, ?_⟩⟩; have O48 := O44.adv Z48 u48; refine O48.st11 fun w50 O50 u50 => ⟨_, O50.b0.cell rfl, must_c P O50.z hq (by omega) hrp fun w53 Z53 u53 => ⟨rfl, _, (O50.adv Z53 u53).b11, Z53, ?_, (O50.adv Z53 u53).u⟩⟩; have zz := O44.u.size; have b11lt := O44.b11.lt; exact ((hx.upd u50 fun b hb e => by have : w44.heap.size <= b := hb; omega).upd u53 fun b hb e => by have : w44.heap.size <= b := hb; have := O44.b0.lt; omega).mono fun b _ hb => (show w.heap.size <= b by have : w44.heap.size <= b := hb; omega)
  have hno : isW t [wLp] = false := hno; rw [if_neg (by rw [hno]; simp)] at hF; have O44 := O42.keep u44; refine ⟨_, O44.b0.cell rfl, newC_mk fun w56 B56 u56 _ => ?_⟩; have O56 := O44.keep u56; refine may_c P O56.z ht (by omega) (one_str B56) rfl (by decide) (fun hy w58 Z58 u58 => ⟨_, rfl, brC_tt rfl ?_⟩) fun hno w58 u58 => ⟨_, rfl, brC_ff rfl ?_⟩
  . -- a record
    have hy : isW t [wLb] = true := hy; rw [if_pos hy] at hF; split at hF
    . cases hF
    rename_i xs a2 ns hs; cases hF; have O58 := O56.adv Z58 u58; refine ⟨_, O58.b11.cell rfl, ptrC_some (O58.st9 (by simp) fun w62 O62 _ => drawC_mk fun w63 u63 _ => ?_)⟩; have O63 := O62.keep u63; refine ⟨fun w' => Blk w' k11 #[.pointer (some ⟨k9, 0, none⟩)] 27 /\ Blk w' w.heap.size #[.pointer (some ⟨w0.heap.size, 0, none⟩)] 110, _, O63.b11.cell rfl, fun w' h => lds_tx (h.1.cell rfl), _, O63.b0.cell rfl, fun w' h => lds_px (h.2.cell rfl), ?_, trivial⟩
    refine list_c P O63.z hl (σ := List ByteArray) (E := fieldE toks self d) (en := wRb) (st := []) hs (fun _ _ _ _ _ h => fieldE_inc hinc h) (N := fun b => b = w.heap.size \/ b = k9 \/ b = k11 \/ InRow (.slice none 0 0) b)
      (I := fun ns N w' => ∃ nv, Blk w' w.heap.size #[.pointer (some ⟨w0.heap.size, 0, none⟩)] 110 /\ Blk w' k9 #[.int .i64 7, .int .i64 (t.at_ : Int), .string .empty, .string .empty, nv, .slice none 0 0, .pointer none] 63 /\ Blk w' k11 #[.pointer (some ⟨k9, 0, none⟩)] 27 /\
        RowAt w' idx.str 1 nv (ns.map Value.string) /\ (∀ b, InRow nv b -> w.heap.size <= b /\ b ≠ w.heap.size /\ b ≠ k9 /\ b ≠ k11) /\ ∀ b, N b ↔ b = w.heap.size \/ b = k9 \/ b = k11 \/ InRow nv b) ?_ ?_ ?_ ?_ fun w70 p71 n72 c73 vs N' Z70 ⟨nv, c0, c9, c11, rn, on, eN⟩ sub row rowN hxs u70 => ⟨_, _, _, rfl, ⟨c11, c0⟩, ptrC_some ⟨?_, trivial⟩⟩
    . rintro ns N w1 w2 S ⟨nv, c0, c9, c11, rn, on, eN⟩ u hS; exact ⟨nv, c0.upd u (hS _ ((eN _).2 (.inl rfl))), c9.upd u (hS _ ((eN _).2 (.inr (.inl rfl)))), c11.upd u (hS _ ((eN _).2 (.inr (.inr (.inl rfl))))), rn.upd u (fun b hb => hS _ ((eN _).2 (.inr (.inr (.inr hb))))), on, eN⟩
    . rintro ns N w1 ⟨nv, c0, c9, c11, rn, on, eN⟩ b hb; rcases (eN b).1 hb with rfl | rfl | rfl | h
      . exact ⟨c0.lt, by omega⟩
      . exact ⟨c9.lt, by omega⟩
      . exact ⟨c11.lt, by omega⟩
      . exact ⟨rn.lt h, by have := (on b h).1; omega⟩
    . rintro ns N a3 x3 a4 ns' w1 K1 Z1 ⟨nv, c0, c9, c11, rn, on, eN⟩ he hK; refine of_eq (p := callX Tryz.prog 185 #[.pointer (some ⟨k11, 0, none⟩), .pointer (some ⟨w.heap.size, 0, none⟩)] w1 K1 R) ?_ (by kernel_rfl); refine field_c P hl hself (n0 := w.heap.size) Z1 c0 c9 c11 rn on (by omega) he fun w' q nv' z e0 e9 e11 r _ on' in1 hx u => hK w' q (fun b => b = w.heap.size \/ b = k9 \/ b = k11 \/ InRow nv' b) z ⟨nv', e0, e9, e11, r, on', fun _ => Iff.rfl⟩ (fun b hb => ?_) (hx.mono fun b _ hb => ⟨hb.1, fun h => ?_⟩) (u.mono fun b _ hb => ?_)
      . rcases hb with h | h | h | h
        . exact .inl ((eN b).2 (.inl h))
        . exact .inl ((eN b).2 (.inr (.inl h)))
        . exact .inl ((eN b).2 (.inr (.inr (.inl h))))
        . exact (in1 b h).imp (fun h => (eN b).2 (.inr (.inr (.inr h)))) id
      . have := c0.lt; have := c9.lt; have := c11.lt; have := hb.1; rcases h with h | h | h | h
        . omega
        . omega
        . omega
        . exact hb.2 h
      . rcases hb with h | h | h
        . exact .inl h
        . exact .inr ((eN b).2 (.inr (.inl h)))
        . exact .inr ((eN b).2 (.inr (.inr (.inr h))))
    . exact ⟨.slice none 0 0, O63.b0, O63.b9, O63.b11, RowAt.nil _ _ _, fun b hb => (no_in b hb).elim, fun _ => Iff.rfl⟩
    . rw [add_mk]; refine stC_mk c9 (by simp) fun w75 B75 u75 _ => ⟨_, c11.upd u75 (by omega), ⟨Z70.up.trans u75 fun y hy (e : y = _) => by omega, Z70.blk.upd u75 (by omega)⟩, ?_, ?_⟩
      . have zz := O63.u.size
        exact mkX B75 (show w.heap.size <= k9 by omega) (rn.upd u75 fun b hb e => (on b hb).2.2.1 e) (fun b hb => (on b hb).1) (row.upd u75 fun b hb e => (rowN b hb).2 ((eN b).2 (.inr (.inl e)))) (fun b hb => (show w.heap.size <= b by have := (rowN b hb).1; omega))
          ((hxs.upd u75 fun b hb e => hb.2 ((eN b).2 (.inr (.inl e)))).mono fun b _ hb => (show w.heap.size <= b by have := hb.1; omega)) rfl
      . refine (O63.u.trans u70 fun y hy h => ?_).trans u75 fun y hy (e : y = _) => by omega
        rcases h with h | h | h | h | h
        . exact h
        . omega
        . omega
        . omega
        . exact (no_in y h).elim
  have hno : isW t [wLb] = false := hno; rw [if_neg (by rw [hno]; simp)] at hF; have O58 := O56.keep u58; refine ⟨_, O58.b0.cell rfl, newC_mk fun w78 B78 u78 _ => ?_⟩; have O78 := O58.keep u78; refine may_c P O78.z ht (by omega) (one_str B78) rfl (by decide) (fun hy w80 Z80 u80 => ⟨_, rfl, brC_tt rfl ?_⟩) fun hno w80 u80 => ⟨_, rfl, brC_ff rfl ?_⟩
  . -- a function
    have hy : isW t [wFn] = true := hy; rw [if_pos hy] at hF; split at hF
    . cases hF
    rename_i q hq; split at hF
    case isFalse => cases hF
    rename_i hlp; split at hF
    . cases hF
    rename_i xs a2 st2 hs; split at hF
    . cases hF
    rename_i r hr; split at hF
    case isFalse => cases hF
    rename_i har; split at hF
    . cases hF
    rename_i x3 a3 hs3; cases hF; have haq := (List.getElem?_eq_some_iff.1 hq).1; have har' := (List.getElem?_eq_some_iff.1 hr).1; have O80 := O78.adv Z80 u80; refine ⟨_, O80.b11.cell rfl, ptrC_some (O80.st9 (by simp) fun w84 O84 _ => ⟨_, O84.b0.cell rfl, must_c P O84.z hq (by omega) hlp fun w87 Z87 u87 => ⟨rfl, ?_⟩⟩)⟩; have O87 := O84.adv Z87 u87; have zz := O87.u.size; refine ⟨fun w' => ∃ p n c vs, On w0 tv w w' w.heap.size k9 k11 #[.int .i64 8, .int .i64 (t.at_ : Int), .string .empty, .string .empty, .slice none 0 0, .slice p n c, .pointer none] (some ⟨k9, 0, none⟩) a2 d /\ RowAt w' idx.ptr 1 (.slice p n c) vs /\ (∀ b, InRow (.slice p n c) b -> w87.heap.size <= b) /\ XsAt idx (From w87.heap.size) w' vs xs, ?_, drawC_mk fun w105 u105 _ => ?_⟩
    . rintro w89 ⟨p, n, c, vs, O89, row, rowN, hxs⟩ _; refine ⟨_, O89.b0.cell rfl, must_c P O89.z hr (by omega) har fun w93 Z93 u93 => ⟨rfl, drawC_mk fun w94 u94 _ => ?_⟩⟩; have O94 := (O89.adv Z93 u93).keep u94; refine ⟨fun w' => Blk w' k11 #[.pointer (some ⟨k9, 0, none⟩)] 27 /\ Blk w' w.heap.size #[.pointer (some ⟨w0.heap.size, 0, none⟩)] 110, _, O94.b11.cell rfl, fun w' h => lds_tx (h.1.cell rfl), _, O94.b0.cell rfl, fun w' h => lds_px (h.2.cell rfl), ?_, trivial⟩; refine hself w94 (a2 + 1) d _ _ _ _ O94.z hs3 fun w101 q102 Z101 hx u101 => ⟨_, rfl, ?_⟩; have O101 := O94.adv Z101 u101; refine ⟨⟨O101.b11, O101.b0⟩, ptrC_some ⟨?_, trivial⟩⟩; rw [add_mk]; have z9 := O89.u.size; have k9lt := O87.b9.lt; have e94 : w.heap.size <= w94.heap.size := O94.u.size; have k9lt94 := O94.b9.lt; refine O101.st9 (by simp) fun w104 O104 u104 => ⟨_, O104.b11, O104.z, ?_, O104.u⟩; have nk : ∀ b, w87.heap.size <= b -> ¬ b = w0.heap.size := fun b hb e => by omega
      refine mkX O104.b9 (show w.heap.size <= k9 by omega) (ns := []) (RowAt.nil _ _ _) (fun b hb => (no_in b hb).elim) ((((row.upd u93 fun b hb => nk b (rowN b hb)).upd u94 fun _ _ h => h).upd u101 fun b hb => nk b (rowN b hb)).upd u104 fun b hb e => by have := rowN b hb; omega) (fun b hb => (show w.heap.size <= b by have := rowN b hb; omega))
        (((((hxs.upd u93 nk).keep u94).upd u101 nk).upd u104 fun b (hb : w87.heap.size <= b) e => by omega).mono fun b _ (hb : w87.heap.size <= b) => (show w.heap.size <= b by omega)) ((hx.upd u104 fun b (hb : w94.heap.size <= b) e => by omega).mono fun b _ (hb : w94.heap.size <= b) => (show w.heap.size <= b by omega))
    have O105 := O87.keep u105; refine ⟨fun w' => Blk w' k11 #[.pointer (some ⟨k9, 0, none⟩)] 27 /\ Blk w' w.heap.size #[.pointer (some ⟨w0.heap.size, 0, none⟩)] 110, _, O105.b11.cell rfl, fun w' h => lds_tx (h.1.cell rfl), _, O105.b0.cell rfl, fun w' h => lds_px (h.2.cell rfl), _, O105.b0.cell rfl, fun w' h => lds_px (h.2.cell rfl), ?_, trivial⟩
    refine list_c P O105.z hl (σ := Unit) (E := argE self d) (en := wRp) (st := ()) hs (fun _ _ _ _ _ h => argE_inc hinc h) (N := fun b => b = w.heap.size \/ b = k9 \/ b = k11)
      (I := fun _ N w' => Blk w' w.heap.size #[.pointer (some ⟨w0.heap.size, 0, none⟩)] 110 /\ Blk w' k9 #[.int .i64 8, .int .i64 (t.at_ : Int), .string .empty, .string .empty, .slice none 0 0, .slice none 0 0, .pointer none] 63 /\ Blk w' k11 #[.pointer (some ⟨k9, 0, none⟩)] 27 /\
        ∀ b, N b ↔ b = w.heap.size \/ b = k9 \/ b = k11) ?_ ?_ ?_ ?_ fun w114 p115 n116 c117 vs N' Z114 ⟨c0, c9, c11, eN⟩ sub row rowN hxs u114 => ⟨_, _, _, rfl, ⟨c11, c0⟩, ptrC_some ⟨?_, trivial⟩⟩
    . rintro _ N w1 w2 S ⟨c0, c9, c11, eN⟩ u hS; exact ⟨c0.upd u (hS _ ((eN _).2 (.inl rfl))), c9.upd u (hS _ ((eN _).2 (.inr (.inl rfl)))), c11.upd u (hS _ ((eN _).2 (.inr (.inr rfl)))), eN⟩
    . rintro _ N w1 ⟨c0, c9, c11, eN⟩ b hb; rcases (eN b).1 hb with rfl | rfl | rfl
      . exact ⟨c0.lt, by omega⟩
      . exact ⟨c9.lt, by omega⟩
      . exact ⟨c11.lt, by omega⟩
    . rintro _ N a4 x4 a5 _ w1 K1 Z1 ⟨c0, c9, c11, eN⟩ he hK; refine of_eq (p := callX Tryz.prog 88 #[.pointer (some ⟨w0.heap.size, 0, none⟩)] w1 K1 R) ?_ (by kernel_rfl); unfold argE at he; split at he
      case h_2 => cases he
      rename_i x5 a6 hs5; cases he; refine hself w1 a4 d x4 a5 _ _ Z1 hs5 fun w' q z hx u => hK w' q N z ⟨c0.upd u (by omega), c9.upd u (by omega), c11.upd u (by omega), eN⟩ (fun b hb => .inl hb) (hx.mono fun b _ (hb : w1.heap.size <= b) => ⟨hb, fun h => ?_⟩) (u.mono fun b _ hb => .inl hb); have := c0.lt; have := c9.lt; have := c11.lt; rcases (eN b).1 h with h | h | h <;> omega
    . exact ⟨O105.b0, O105.b9, O105.b11, fun _ => Iff.rfl⟩
    . rw [add_mk]; have z105 : w87.heap.size <= w105.heap.size := u105.size
      refine stC_mk c9 (by simp) fun w119 B119 u119 _ => ⟨p115, n116, c117, vs, ⟨⟨Z114.up.trans u119 fun y hy (e : y = _) => by omega, Z114.blk.upd u119 (by omega)⟩, ?_, c0.upd u119 (by omega), B119, c11.upd u119 (by omega), O105.d⟩, row.upd u119 fun b hb e => (rowN b hb).2 ((eN b).2 (.inr (.inl e))), fun b hb => by have := (rowN b hb).1; omega,
        (hxs.upd u119 fun b hb e => hb.2 ((eN b).2 (.inr (.inl e)))).mono fun b _ hb => (show w87.heap.size <= b by have := hb.1; omega)⟩
      refine (O105.u.trans u114 fun y hy h => ?_).trans u119 fun y hy (e : y = _) => by omega
      rcases h with h | h | h | h
      . exact h
      . omega
      . omega
      . omega
  . -- a name
    have hno : isW t [wFn] = false := hno; rw [if_neg (by rw [hno]; simp)] at hF; have O80 := O78.keep u80; have zz := O80.u.size; exact ⟨_, O80.b0.cell rfl, named_c P O80.z hF hl fun w122 q Z122 hx u122 => ⟨_, rfl, hk w122 q Z122 (hx.mono fun b _ (hb : w80.heap.size <= b) => (show w.heap.size <= b by omega)) (O80.u.trans u122 fun _ _ e => e)⟩⟩
section pure
variable (ts : List Tok)
def barsF (one : Nat -> Option (Wt × Nat)) : Nat -> Nat -> List Wt -> Option (List Wt × Nat)
  | 0, _, _ => none
  | f + 1, a, acc => match ts[a]? with
    | none => none
    | some t => if isW t [wBar] then match one (a + 1) with
        | none => none
        | some (x, a1) => barsF one f a1 (acc ++ [x])
      else some (acc, a)
def typS (self : Nat -> Nat -> Option (Wt × Nat)) (a d : Nat) : Option (Wt × Nat) :=
  if 40 <= d then none else match ts[a]? with
  | none => none
  | some t => match oneS ts self a (d + 1) with
    | none => none
    | some (x, a1) => match barsF ts (fun a => oneS ts self a (d + 1)) (ts.length + 1) a1 [x] with
      | none => none
      | some (l, a2) => some (if l.length = 1 then x else .mk 9 t.at_ .empty .empty [] l .nil, a2)
def typF : Nat -> Nat -> Nat -> Option (Wt × Nat)
  | 0 => fun _ _ => none
  | f + 1 => typS ts (typF f)
end pure
theorem lstF_inc {σ : Type} {ts : List Tok} {E : σ -> Nat -> Option (Wt × Nat × σ)} {en : ByteArray} (h : ∀ st a x a1 st', E st a = some (x, a1, st') -> a < a1) : ∀ (f a : Nat) (st : σ) (xs ys : List Wt) (a' : Nat) (st' : σ), lstF ts E en f a st xs = some (ys, a', st') -> a < a'
  | 0, _, _, _, _, _, _, e => by cases e
  | f + 1, a, st, xs, ys, a', st', e => by
    unfold lstF at e; split at e
    . cases e
    rename_i x a1 st1 he; have h1 := h _ _ _ _ _ he; split at e
    . cases e
    split at e
    . have := lstF_inc h f _ _ _ _ _ _ e; omega
    . split at e
      . simp only [Option.some.injEq, Prod.mk.injEq] at e; omega
      . cases e
theorem lstA_inc {σ : Type} {ts : List Tok} {E : σ -> Nat -> Option (Wt × Nat × σ)} {en : ByteArray} (h : ∀ st a x a1 st', E st a = some (x, a1, st') -> a < a1) {a : Nat} {st : σ} {ys : List Wt} {a' : Nat} {st' : σ} (e : lstA ts E en a st = some (ys, a', st')) : a < a' := by
  unfold lstA at e; split at e
  . cases e
  split at e
  . simp only [Option.some.injEq, Prod.mk.injEq] at e; omega
  . exact lstF_inc h _ _ _ _ _ _ _ e
theorem oneS_inc {ts : List Tok} {self : Nat -> Nat -> Option (Wt × Nat)} (h : Inc self) {a d : Nat} {x : Wt} {a1 : Nat} (e : oneS ts self a d = some (x, a1)) : a < a1 := by
  unfold oneS at e; split at e
  . cases e
  split at e
  . split at e
    . simp only [Option.some.injEq, Prod.mk.injEq] at e; omega
    . cases e
  split at e
  . split at e
    . cases e
    rename_i x2 a2 hs; have := h _ _ _ _ hs; split at e
    . cases e
    split at e
    . simp only [Option.some.injEq, Prod.mk.injEq] at e; omega
    . cases e
  split at e
  . split at e
    . cases e
    rename_i xs a2 ns hs; have := lstA_inc (fun _ _ _ _ _ h2 => fieldE_inc h h2) hs; simp only [Option.some.injEq, Prod.mk.injEq] at e; omega
  split at e
  . split at e
    . cases e
    split at e
    . split at e
      . cases e
      rename_i xs a2 st hs; have := lstA_inc (fun _ _ _ _ _ h2 => argE_inc h h2) hs; split at e
      . cases e
      split at e
      . split at e
        . cases e
        rename_i x3 a3 hs3; have := h _ _ _ _ hs3; simp only [Option.some.injEq, Prod.mk.injEq] at e; omega
      . cases e
    . cases e
  . unfold namedF at e; split at e
    . split at e
      . split at e
        . split at e
          . split at e
            . simp only [Option.some.injEq, Prod.mk.injEq] at e; omega
            . cases e
          . cases e
        . simp only [Option.some.injEq, Prod.mk.injEq] at e; omega
      . cases e
    . cases e
theorem barsF_inc {ts : List Tok} {one : Nat -> Option (Wt × Nat)} (h : ∀ a x a1, one a = some (x, a1) -> a < a1) : ∀ (f a : Nat) (acc l : List Wt) (a' : Nat), barsF ts one f a acc = some (l, a') -> a <= a'
  | 0, _, _, _, _, e => by cases e
  | f + 1, a, acc, l, a', e => by
    unfold barsF at e; split at e
    . cases e
    split at e
    . split at e
      . cases e
      rename_i x a1 he; have := h _ _ _ he; have := barsF_inc h f _ _ _ _ e; omega
    . simp only [Option.some.injEq, Prod.mk.injEq] at e; omega
theorem typS_inc {ts : List Tok} {self : Nat -> Nat -> Option (Wt × Nat)} (h : Inc self) : Inc (typS ts self) := fun a d x a1 e => by
  unfold typS at e; split at e
  . cases e
  split at e
  . cases e
  split at e
  . cases e
  rename_i x2 a2 ho; split at e
  . cases e
  rename_i l a3 hb; have h1 := oneS_inc h ho; have h2 := barsF_inc (fun _ _ _ h2 => oneS_inc h h2) _ _ _ _ _ hb; simp only [Option.some.injEq, Prod.mk.injEq] at e; omega
theorem typF_inc (ts : List Tok) : ∀ f, Inc (typF ts f)
  | 0 => fun a d x a1 e => by cases e
  | f + 1 => typS_inc (typF_inc ts f)
theorem row_type {w : World} {e : TypeId} {size : Nat} {v : Value} {xs : List Value} (h : RowAt w e size v xs) {b : Nat} {cs : Array Value} {t : TypeId} (hb : Blk w b cs t) (hi : InRow v b) : e = t := by
  obtain ⟨m, _, ⟨e0, _⟩ | ⟨g', o, cap, cur, e0, hg, _⟩⟩ := h
  . subst e0; cases hi
  . subst e0; have hgb : g' = b := by simpa [InRow, Value.ownBlock] using hi
    subst hgb; exact (hg.inj hb).2
theorem typ1_c {w0 w : World} {tv : Value} {toks : List Tok} {a d : Nat} {K R : KV} (P : P0 w0 tv toks) (hl : toks.length <= 900000) {self : Nat -> Nat -> Option (Wt × Nat)} (hself : TypOk w0 tv self) (hinc : Inc self) (Z : Pz w0 tv w a (d + 1)) {c0 : Nat} (b0 : Blk w c0 #[.pointer (some ⟨w0.heap.size, 0, none⟩)] 110) (hc0 : w0.heap.size < c0)
    {t : Tok} (ht : toks[a]? = some t) {x : Wt} {a1 : Nat} (ho : oneS toks self a (d + 1) = some (x, a1)) {l : List Wt} {a' : Nat} (hb : barsF toks (fun a => oneS toks self a (d + 1)) (toks.length + 1) a1 [x] = some (l, a'))
    (hk : ∀ w' q, Pz w0 tv w' a' (d + 1) -> XAt idx (From w.heap.size) w' (.pointer q) (if l.length = 1 then x else .mk 9 t.at_ .empty .empty [] l .nil) -> Upd (· = w0.heap.size) w w' -> K (.pointer q) w') :
    callX Tryz.prog 143 #[.pointer (some ⟨c0, 0, none⟩)] w K R := by
  have hwl := Z.lt; refine typ1_text _ _ _ _ _ ⟨_, b0.cell rfl, next_c P Z ht fun w2 u2 => ⟨_, _, _, _, rfl, _, (b0.upd u2 id).cell rfl, ?_⟩⟩; refine one_c P hl hself hinc (Z.keep u2) ho fun w9 q10 Z9 hx u9 => ⟨_, rfl, newC_mk fun w12 B12 u12 s12 => ?_⟩; have z2 := u2.size; have z9 := u9.size; have U12 : Upd (· = w0.heap.size) w w12 := (u2.no.trans u9 fun _ _ e => e).trans u12 fun _ _ h => h.elim; have ha1 := oneS_inc hinc ho
  refine ⟨fun p n c w' => ∃ a2 xs vs f, Pz w0 tv w' a2 (d + 1) /\ Blk w' c0 #[.pointer (some ⟨w0.heap.size, 0, none⟩)] 110 /\ RowAt w' idx.ptr 1 (.slice p n c) vs /\ (∀ b, InRow (.slice p n c) b -> w.heap.size <= b) /\ XsAt idx (fun b => w.heap.size <= b /\ ¬ InRow (.slice p n c) b) w' vs xs /\
      barsF toks (fun a => oneS toks self a (d + 1)) f a2 xs = some (l, a') /\ Upd (· = w0.heap.size) w w' /\ vs.length <= a2 /\ (∃ r, xs = x :: r), fun _ _ _ w' => toks.length + 1 - atOf w' w0.heap.size, ?_, ?_⟩
  . refine ⟨a1, [x], [.pointer q10], _, Z9.keep u12, ((b0.upd u2 id).upd u9 (by omega)).upd u12 id, row_one B12, fun b hb => by rw [in_blk hb]; omega, ⟨?_, trivial⟩, hb, U12, by simp; omega, _, rfl⟩; exact (hx.mono (G := fun b => w.heap.size <= b /\ ¬ InRow (.slice (some ⟨w9.heap.size, 0, none⟩) 1 1) b) fun b hlt (hb : w2.heap.size <= b) => ⟨by omega, fun h => by rw [in_blk h] at hlt; omega⟩).keep u12
  rintro p n c w18 ⟨a2, xs, vs, f, Z18, e0, row, rowN, hxs, hf, U18, hvs, r, hxr⟩ _; have z18 := U18.size; have hlen := hxs.length
  cases f with
  | zero => cases hf
  | succ f =>
  unfold barsF at hf; split at hf
  . cases hf
  rename_i q hq; have haq := (List.getElem?_eq_some_iff.1 hq).1; have hnr := row_cap row; have nk : ∀ b, w.heap.size <= b -> ¬ b = w0.heap.size := fun b hb e => by omega
  refine ⟨_, e0.cell rfl, newC_mk fun w22 B22 u22 _ => may_c P (Z18.keep u22) hq (by omega) (one_str B22) rfl (by decide) (fun hy w24 Z24 u24 => ⟨_, rfl, brC_tt rfl ?_⟩) fun hno w24 u24 => ⟨_, rfl, brC_ff rfl ?_⟩⟩
  . have hy : isW q [wBar] = true := hy; rw [if_pos hy] at hf; split at hf
    . cases hf
    rename_i x2 a3 ho2; have e24 := (e0.upd u22 id).upd u24 (by omega); have ha3 := oneS_inc hinc ho2; refine ⟨_, e24.cell rfl, one_c P hl hself hinc Z24 ho2 fun w28 q29 Z28 hx2 u28 => ⟨_, rfl, newC_mk fun w31 B31 u31 s31 => ?_⟩⟩; have z22 := u22.size; have z24 := u24.size; have z28 := u28.size; have row31 := (((row.upd u22 fun _ _ h => h).upd u24 fun b hb => nk b (rowN b hb)).upd u28 fun b hb => nk b (rowN b hb)).upd u31 fun _ _ h => h
    have ha3l : a3 < toks.length := by
      cases f with
      | zero => cases hf
      | succ f =>
        unfold barsF at hf; split at hf
        . cases hf
        . rename_i q2 hq2; exact (List.getElem?_eq_some_iff.1 hq2).1
    refine grow_row elemWt (n0 := w.heap.size) ⟨row31, rowN, hnr.1, hnr.2⟩ (by omega) (row_one B31) (by intro u hu; simp at hu; subst hu; rfl) (by omega) (by simp; omega) fun p' n' c' w33 o33 _ hin33 u33 => ?_; have nkr : ¬ InRow (.slice p n c) w0.heap.size := fun h => nk _ (rowN _ h) rfl; have Z33 : Pz w0 tv w33 a3 (d + 1) := ⟨(Z28.keep u31).up.trans u33 fun y hy h => by have := rowN y h; omega, (Z28.keep u31).blk.upd u33 nkr⟩; refine ⟨⟨a3, xs ++ [x2], vs ++ [.pointer q29], f, Z33, ?_, o33.row, o33.own, ?_, hf, ?_, by simp; omega, r ++ [x2], by rw [hxr]; rfl⟩, ?_⟩
    . refine ((e24.upd u28 (by omega)).upd u31 id).upd u33 fun h => ?_; exact absurd (row_type row e0 h) (by decide)
    . refine XsAt.append ?_ ⟨?_, trivial⟩
      . have h1 : XsAt idx (fun b => (w.heap.size <= b /\ ¬ InRow (.slice p n c) b) /\ b < w18.heap.size) w31 vs xs := ((((hxs.mono (G := fun b => (w.heap.size <= b /\ ¬ InRow (.slice p n c) b) /\ b < w18.heap.size) fun b hlt hb => ⟨hb, hlt⟩).keep u22).upd u24 fun b hb => nk b hb.1.1).upd u28 fun b hb => nk b hb.1.1).keep u31
        exact xsAt_keep u33 (fun b hb h => hb.1.2 h) (fun b _ hb => ⟨hb.1.1, fun h => by
          rcases hin33 b h with h2 | h2
          . exact hb.1.2 h2
          . have := hb.2; have := u31.size; omega⟩) h1
      . have h1 : XAt idx (fun b => w24.heap.size <= b /\ b < w28.heap.size) w31 (.pointer q29) x2 := (hx2.mono (G := fun b => w24.heap.size <= b /\ b < w28.heap.size) fun b hlt hb => ⟨hb, hlt⟩).keep u31
        exact xAt_keep u33 (fun b hb h => by have := row.lt h; omega) (fun b _ hb => ⟨by omega, fun h => by
          rcases hin33 b h with h2 | h2
          . have := row.lt h2; omega
          . have := u31.size; omega⟩) x2 _ h1
    . exact ((((U18.trans u22 fun _ _ h => h.elim).trans u24 fun _ _ e => e).trans u28 fun _ _ e => e).trans u31 fun _ _ h => h.elim).trans u33 fun y hy h => by have := rowN y h; omega
    . show toks.length + 1 - atOf w33 w0.heap.size < toks.length + 1 - atOf w18 w0.heap.size; rw [Z33.at_, Z18.at_]; omega
  . have hno : isW q [wBar] = false := hno; rw [if_neg (by rw [hno]; simp)] at hf; simp only [Option.some.injEq, Prod.mk.injEq] at hf; obtain ⟨rfl, rfl⟩ := hf; have U24 : Upd No w18 w24 := up u22 u24; have row24 := row.upd U24 fun _ _ h => h; have xs24 := hxs.keep U24; have Z24 := Z18.keep U24; refine brC_intro (fun h1 => ?_) fun h1 => ?_
    . have h1 : n = 1 := by have := beq_iff_eq.1 h1; omega
      subst h1; have hvl : vs.length = 1 := by omega
      have hx1 : xs = [x] := by
        rw [hxr] at hlen ⊢; have : r.length = 0 := by simp at hlen; omega
        rw [List.eq_nil_of_length_eq_zero this]
      obtain ⟨v, rfl⟩ : ∃ v, vs = [v] := List.length_eq_one_iff.1 hvl; rw [hx1] at xs24 hk; obtain ⟨hxa, _⟩ := xs24; obtain ⟨g, o, rfl, hcell⟩ := row24.get (j := 0) (by simp)
      obtain ⟨q38, rfl⟩ : ∃ q, v = .pointer q := by
        cases x with
        | nil => unfold XAt at hxa; exact ⟨_, hxa⟩
        | mk => unfold XAt at hxa; obtain ⟨b, _, _, _, _, e, _⟩ := hxa; exact ⟨_, e⟩
      refine ⟨by omega, by omega, ptrC_some ⟨q38, by simpa using hcell, hk w24 q38 Z24 ?_ (U18.trans U24 fun _ _ h => h.elim)⟩⟩; rw [if_pos (show [x].length = 1 from rfl)]; exact hxa.mono fun b _ hb => (show w.heap.size <= b from hb.1)
    . have h1 : n ≠ 1 := fun e => by rw [e] at h1; exact absurd h1 (by decide)
      refine newC_mk fun w40 B40 u40 s40 => hk w40 _ (Z24.keep u40) ?_ ((U18.trans U24 fun _ _ h => h.elim).trans u40 fun _ _ h => h.elim); rw [if_neg (by omega)]; have z24 := U24.size; exact mkX B40 (show w.heap.size <= w24.heap.size by omega) (ns := []) (RowAt.nil _ _ _) (fun b hb => (no_in b hb).elim) (row24.upd u40 fun _ _ h => h) (fun b hb => rowN b hb) ((xs24.mono fun b _ hb => (show w.heap.size <= b from hb.1)).keep u40) rfl
section
variable {w0 : World} {tv : Value} {toks : List Tok}
theorem Pz.deep {w : World} {a d d' : Nat} (h : Pz w0 tv w a d) {v : Int} (hv : v = (d' : Int)) {K : WP} (hk : ∀ w', Pz w0 tv w' a d' -> Upd (· = w0.heap.size) w w' -> K w') : stC w ⟨w0.heap.size, 2, none⟩ (.int .i64 v) K := by
  subst hv; exact stC_mk h.blk (by simp) fun w' B u _ => hk w' ⟨h.up.trans u fun x hx (e : x = _) => by omega, B⟩ u
theorem typS_ok (P : P0 w0 tv toks) (hl : toks.length <= 900000) {self : Nat -> Nat -> Option (Wt × Nat)} (hself : TypOk w0 tv self) (hinc : Inc self) : TypOk w0 tv (typS toks self) := by
  intro w a d x' a' K R Z hF hk; unfold typS at hF; split at hF
  . cases hF
  rename_i h40; split at hF
  . cases hF
  rename_i t ht; split at hF
  . cases hF
  rename_i x a1 ho; split at hF
  . cases hF
  rename_i l a2 hb; simp only [Option.some.injEq, Prod.mk.injEq] at hF; obtain ⟨rfl, rfl⟩ := hF; have hwl := Z.lt; refine typ_text _ _ _ _ (newC_mk fun w1 B1 u1 s1 => ⟨_, B1.cell rfl, ?_⟩); refine withinT_text _ _ _ _ _ _ _ (newC_mk fun w3 B3 u3 s3 => ⟨_, B3.cell rfl, ptrC_some ⟨_, by rw [add_mk]; exact ((Z.keep u1).keep u3).blk.cell rfl, ptrC_some ?_⟩⟩); rw [add_mk]; refine ((Z.keep u1).keep u3).deep (d' := d + 1) (wrap_succ (by omega)) fun w6 Z6 u6 => ?_; have b1 := (B1.upd u3 id).upd u6 (by omega); have b3 := B3.upd u6 (by omega); have U6 : Upd (· = w0.heap.size) w w6 := (u1.no.trans u3 fun _ _ h => h.elim).trans u6 fun _ _ e => e; refine ⟨fun w' => w' = w6, ?_, ⟨_, b3.cell rfl, ptrC_some ⟨_, by rw [add_mk]; exact Z6.blk.cell rfl, brC_ff (decide_eq_false (by omega)) rfl⟩⟩⟩; rintro w8 rfl _
  refine of_eq (p := callX Tryz.prog 143 #[.pointer (some ⟨w.heap.size, 0, none⟩)] w8 (fun v10 w11 => ∃ p12, v10 = .pointer p12 /\ defC Tryz.prog (Deferred.mk (Target.fn (Fn.func 183) #[.pointer (some ⟨w1.heap.size, 0, none⟩)]) #[]) w11 fun w13 => ∃ p5, Value.pointer p12 = .pointer p5 /\ K (.pointer p5) w13)
    (fun v14 w15 => defP Tryz.prog (Deferred.mk (Target.fn (Fn.func 183) #[.pointer (some ⟨w1.heap.size, 0, none⟩)]) #[]) v14 w15 (fun _ => False) R)) ?_ (by kernel_rfl)
  refine typ1_c P hl hself hinc Z6 b1 (by omega) ht ho hb fun w11 q Z11 hx u11 => ⟨q, rfl, ?_⟩; have b3' := b3.upd u11 (by omega); refine ⟨_, _, _, _, rfl, rfl, (withinD w1.heap.size 0 .returning w11 (fun _ w' => Pz w0 tv w' a2 d /\ Upd (· = w0.heap.size) w11 w') ?_).mono ?_⟩
  . refine ⟨_, b3'.cell rfl, ptrC_some ⟨_, by rw [add_mk]; exact Z11.blk.cell rfl, ptrC_some ?_⟩⟩; rw [add_mk]; exact Z11.deep (wrap_pred (by omega)) fun w' z u => ⟨z, u⟩
  . rintro e u w' ⟨v, rfl, rfl, z, u⟩; have z8 := U6.size; have z1 := u1.size; refine ⟨⟨_, rfl⟩, rfl, q, rfl, hk w' q z ?_ ((U6.trans u11 fun _ _ e => e).trans u fun _ _ e => e)⟩; exact (hx.upd u fun b (hb : w8.heap.size <= b) e => by omega).mono fun b _ (hb : w8.heap.size <= b) => (show w.heap.size <= b by omega)
theorem typF_ok (P : P0 w0 tv toks) (hl : toks.length <= 900000) : ∀ f, TypOk w0 tv (typF toks f)
  | 0 => fun w a d x a1 K R Z h => by cases h
  | f + 1 => typS_ok P hl (typF_ok P hl f) (typF_inc toks f)
def wImport : ByteArray := ByteArray.mk #[105, 109, 112, 111, 114, 116]
def wAs : ByteArray := ByteArray.mk #[97, 115]
def wType : ByteArray := ByteArray.mk #[116, 121, 112, 101]
def wEq : ByteArray := ByteArray.mk #[61]
structure Dc where
  kind : Int
  at_ : Nat
  name : ByteArray
  text : ByteArray
  t : Wt
def declF (ts : List Tok) (fu a d : Nat) : Option (Dc × Nat) := match ts[a]? with
  | none => none
  | some t =>
    if isW t [wImport] then match ts[a + 1]?, ts[a + 2]?, ts[a + 3]? with
      | some u, some v, some x => if u.kind = 4 then if isW v [wAs] then if x.kind = 1 then some (⟨1, t.at_, x.text, u.text, .nil⟩, a + 4) else none else none else none
      | _, _, _ => none
    else if isW t [wType] then match ts[a + 1]?, ts[a + 2]? with
      | some u, some v => if u.kind = 1 then if isW v [wEq] then match typF ts fu (a + 3) d with
          | some (x, a1) => some (⟨2, t.at_, u.text, .empty, x⟩, a1)
          | none => none
        else none else none
      | _, _ => none
    else none
def DcAt (F : Nat -> Prop) (w : World) (v : Value) (c : Dc) : Prop := ∃ b tvv, v = .pointer (some ⟨b, 0, none⟩) /\ F b /\ Blk w b #[.int .i64 c.kind, .int .i64 (c.at_ : Int), .string c.name, .string c.text, tvv, .pointer none, .slice none 0 0, .slice none 0 0] 56 /\ XAt idx F w tvv c.t
theorem decl_c (P : P0 w0 tv toks) (hl : toks.length <= 900000) {w : World} {a d fu : Nat} {K R : KV} (Z : Pz w0 tv w a d) {c : Dc} {a' : Nat} (hF : declF toks fu a d = some (c, a'))
    (hk : ∀ w' q, Pz w0 tv w' a' d -> DcAt (From w.heap.size) w' (.pointer q) c -> Upd (· = w0.heap.size) w w' -> K (.pointer q) w') :
    callX Tryz.prog 43 #[.pointer (some ⟨w0.heap.size, 0, none⟩)] w K R := by
  unfold declF at hF; split at hF
  . cases hF
  rename_i t ht; have hat := (List.getElem?_eq_some_iff.1 ht).1; have hwl := Z.lt; refine decl_text _ _ _ _ (next_c P Z ht fun w1 u1 => ⟨_, _, _, _, rfl, newC_mk fun w7 B7 u7 s7 => ⟨fun _ => False, fun _ h => h.elim, newC_mk fun w22 B22 u22 _ => ?_⟩⟩); have z1 := u1.size; have Z22 := Z.keep (up (up u1 u7) u22); have b22 := B7.upd u22 id; have U22 := up (up u1 u7) u22; refine may_c P Z22 ht (by omega) (one_str B22) rfl (by decide) (fun hy w24 Z24 u24 => ⟨_, rfl, brC_tt rfl ?_⟩) fun hno w24 u24 => ⟨_, rfl, brC_ff rfl ?_⟩
  . have hy : isW t [wImport] = true := hy; rw [if_pos hy] at hF; split at hF
    case h_2 => cases hF
    rename_i u v x hu hv hx; split at hF
    case isFalse => cases hF
    rename_i h4; split at hF
    case isFalse => cases hF
    rename_i has; split at hF
    case isFalse => cases hF
    rename_i h1; cases hF; have hau := (List.getElem?_eq_some_iff.1 hu).1; have hav := (List.getElem?_eq_some_iff.1 hv).1; have hax := (List.getElem?_eq_some_iff.1 hx).1; have key := take_c (K := fun v26 w27 => ∃ n28 s29 n30 n31, v26 = .agg #[.int .i64 n28, .string s29, .int .i64 n30, .int .i64 n31] /\ stC w27 (Addr.mk w1.heap.size 0 none) (.int .i64 1) fun w32 => stC w32 (Addr.mk w1.heap.size 3 none) (.string s29) fun w33 => callX Tryz.prog 86 #[.pointer (some ⟨w0.heap.size, 0, none⟩), .string wAs] w33 (fun v34 w35 => v34 = .tuple #[] /\ callX Tryz.prog 87 #[.pointer (some ⟨w0.heap.size, 0, none⟩)] w35 (fun v36 w37 => ∃ s38, v36 = .string s38 /\ stC w37 (Addr.mk w1.heap.size 2 none) (.string s38) fun w39 => K (.pointer (some (Addr.mk w1.heap.size 0 none))) w39) R) R) (R := R) P Z24 hu (by omega) fun w27 Z27 u27 => ⟨_, _, _, _, rfl, ?_⟩
    . rw [h4] at key; exact key
    have b27 := (b22.upd u24 (by omega)).upd u27 (by omega); refine stC_mk b27 (by simp) fun w32 B32 u32 _ => stC_mk B32 (by simp) fun w33 B33 u33 _ => ?_; have Z33 : Pz w0 tv w33 (a + 2) d := ⟨(Z27.up.trans u32 fun y hy (e : y = _) => by omega).trans u33 fun y hy (e : y = _) => by omega, (Z27.blk.upd u32 (by omega)).upd u33 (by omega)⟩; refine must_c P Z33 hv (by omega) has fun w35 Z35 u35 => ⟨rfl, name_c P Z35 hx h1 (by omega) fun w37 Z37 u37 => ⟨_, rfl, ?_⟩⟩; refine stC_mk ((B33.upd u35 (by omega)).upd u37 (by omega)) (by simp) fun w39 B39 u39 _ => hk w39 _ ⟨Z37.up.trans u39 fun y hy (e : y = _) => by omega, Z37.blk.upd u39 (by omega)⟩ ⟨_, _, rfl, (show w.heap.size <= w1.heap.size by omega), B39, rfl⟩ ?_; exact (((((((U22.no.trans u24 fun _ _ e => e).trans u27 fun _ _ e => e).trans u32 fun y hy (e : y = _) => by omega).trans u33 fun y hy (e : y = _) => by omega).trans u35 fun _ _ e => e).trans u37 fun _ _ e => e).trans u39 fun y hy (e : y = _) => by omega)
  have hno : isW t [wImport] = false := hno; rw [if_neg (by rw [hno]; simp)] at hF; refine newC_mk fun w41 B41 u41 _ => ?_; have U41 := up U22 (up u24 u41); have Z41 := Z22.keep (up u24 u41); have b41 := b22.upd (up u24 u41) id; refine may_c P Z41 ht (by omega) (one_str B41) rfl (by decide) (fun hy w43 Z43 u43 => ⟨_, rfl, brC_tt rfl ?_⟩) fun hno w43 u43 => ?_
  . have hy : isW t [wType] = true := hy; rw [if_pos hy] at hF; split at hF
    case h_2 => cases hF
    rename_i u v hu hv; split at hF
    case isFalse => cases hF
    rename_i h1; split at hF
    case isFalse => cases hF
    rename_i heq; split at hF
    case h_2 => cases hF
    rename_i x a1 hx; cases hF; have hau := (List.getElem?_eq_some_iff.1 hu).1; have hav := (List.getElem?_eq_some_iff.1 hv).1; refine name_c P Z43 hu h1 (by omega) fun w46 Z46 u46 => ⟨_, rfl, ?_⟩; refine stC_mk ((b41.upd u43 (by omega)).upd u46 (by omega)) (by simp) fun w48 B48 u48 _ => stC_mk B48 (by simp) fun w49 B49 u49 _ => ?_; have Z49 : Pz w0 tv w49 (a + 2) d := ⟨(Z46.up.trans u48 fun y hy (e : y = _) => by omega).trans u49 fun y hy (e : y = _) => by omega, (Z46.blk.upd u48 (by omega)).upd u49 (by omega)⟩; have U49 : Upd (· = w0.heap.size) w w49 := (((U41.no.trans u43 fun _ _ e => e).trans u46 fun _ _ e => e).trans u48 fun y hy (e : y = _) => by omega).trans u49 fun y hy (e : y = _) => by omega
    refine must_c P Z49 hv (by omega) heq fun w51 Z51 u51 => ⟨rfl, typF_ok P hl fu w51 (a + 3) d x a' _ _ Z51 hx fun w53 q Z53 hx u53 => ⟨q, rfl, ?_⟩⟩; have z49 := U49.size; have z51 := u51.size; have b51 := B49.upd u51 (by omega); have blt := b51.lt; refine stC_mk (b51.upd u53 (by omega)) (by simp) fun w55 B55 u55 _ => hk w55 _ ⟨Z53.up.trans u55 fun y hy (e : y = _) => by omega, Z53.blk.upd u55 (by omega)⟩ ⟨_, _, rfl, (show w.heap.size <= w1.heap.size by omega), B55, ?_⟩ ?_
    . exact (hx.upd u55 fun b (hb : w51.heap.size <= b) e => by omega).mono fun b _ (hb : w51.heap.size <= b) => (show w.heap.size <= b by omega)
    . exact ((U49.trans u51 fun _ _ e => e).trans u53 fun _ _ e => e).trans u55 fun y hy (e : y = _) => by omega
  . have hno : isW t [wType] = false := hno; rw [if_neg (by rw [hno]; simp)] at hF; cases hF
end
theorem callC_ofX {P : Program} {f : FuncId} {args : Array Value} {w : World} {K : KV} (h : callX P f args w K fun _ _ => False) : callC P f args w K :=
  Calls.mono h fun e w' x => by
    cases e with
    | returned v => exact x
    | panicked c => obtain ⟨_, _, h⟩ := panK_out x; exact h.elim
    | outgrown => exact x.elim
theorem DcAt.upd {F S : Nat -> Prop} {w w' : World} {v : Value} {c : Dc} (h : DcAt F w v c) (u : Upd S w w') (hn : ∀ b, F b -> ¬ S b) : DcAt F w' v c := by
  obtain ⟨b, tvv, rfl, hb, hB, hx⟩ := h; exact ⟨b, tvv, rfl, hb, hB.upd u (hn b hb), hx.upd u hn⟩
theorem DcAt.mono {F G : Nat -> Prop} {w : World} {v : Value} {c : Dc} (h : DcAt F w v c) (hG : ∀ b, b < w.heap.size -> F b -> G b) : DcAt G w v c := by
  obtain ⟨b, tvv, rfl, hb, hB, hx⟩ := h; exact ⟨b, tvv, rfl, hG b hB.lt hb, hB, hx.mono hG⟩
def DsAt (F : Nat -> Prop) (w : World) : List Value -> List Dc -> Prop
  | [], [] => True
  | v :: vs, c :: l => DcAt F w v c /\ DsAt F w vs l
  | _, _ => False
theorem DsAt.upd {F S : Nat -> Prop} {w w' : World} (u : Upd S w w') (hn : ∀ b, F b -> ¬ S b) : ∀ {vs : List Value} {l : List Dc}, DsAt F w vs l -> DsAt F w' vs l
  | [], [], _ => trivial
  | v :: vs, c :: l, h => ⟨h.1.upd u hn, DsAt.upd u hn h.2⟩
theorem DsAt.mono {F G : Nat -> Prop} {w : World} (hG : ∀ b, b < w.heap.size -> F b -> G b) : ∀ {vs : List Value} {l : List Dc}, DsAt F w vs l -> DsAt G w vs l
  | [], [], _ => trivial
  | v :: vs, c :: l, h => ⟨h.1.mono hG, DsAt.mono hG h.2⟩
theorem DsAt.append {F : Nat -> Prop} {w : World} : ∀ {vs us : List Value} {l m : List Dc}, DsAt F w vs l -> DsAt F w us m -> DsAt F w (vs ++ us) (l ++ m)
  | [], _, [], _, _, h => h
  | v :: vs, us, c :: l, m, h, k => ⟨h.1, DsAt.append h.2 k⟩
theorem DsAt.len {F : Nat -> Prop} {w : World} : ∀ {vs : List Value} {l : List Dc}, DsAt F w vs l -> vs.length = l.length
  | [], [], _ => rfl
  | v :: vs, c :: l, h => by simp [DsAt.len h.2]
theorem DsAt.get {F : Nat -> Prop} {w : World} : ∀ {vs : List Value} {l : List Dc}, DsAt F w vs l -> ∀ {i : Nat} {v : Value} {c : Dc}, vs[i]? = some v -> l[i]? = some c -> DcAt F w v c
  | v :: vs, c :: l, h, 0, _, _, h1, h2 => by cases h1; cases h2; exact h.1
  | v :: vs, c :: l, h, i + 1, _, _, h1, h2 => DsAt.get h.2 (by simpa using h1) (by simpa using h2)
def parseF (ts : List Tok) : Nat -> Nat -> Option (List Dc)
  | 0, _ => none
  | f + 1, a => match ts[a]? with
    | none => none
    | some t => if t.kind = 0 then some [] else match declF ts 50 a 0 with
      | none => none
      | some (c, a1) => (parseF ts f a1).map (c :: ·)
def parseA (s : ByteArray) : Option (List Dc) := match lexA s with
  | none => none
  | some ts => if ts.length <= 900000 then parseF ts (ts.length + 1) 0 else none
theorem declF_inc {ts : List Tok} {fu a d : Nat} {c : Dc} {a1 : Nat} (h : declF ts fu a d = some (c, a1)) : a < a1 := by
  unfold declF at h; split at h
  . cases h
  split at h
  . split at h
    . split at h
      . split at h
        . split at h
          . simp only [Option.some.injEq, Prod.mk.injEq] at h; omega
          . cases h
        . cases h
      . cases h
    . cases h
  split at h
  . split at h
    . split at h
      . split at h
        . split at h
          . rename_i x a2 hx; have := typF_inc ts fu _ _ _ _ hx; simp only [Option.some.injEq, Prod.mk.injEq] at h; omega
          . cases h
        . cases h
      . cases h
    . cases h
  . cases h
theorem neq_nil (n : Nat) (w : World) : (eqSem .neq 71 (.tmp n) (.const .nilIface) .nilIface .nilIface).run Tryz.prog w = .ok (.bool false) w := by
  kernel_rfl
theorem elemDc : Elem 57 51 8 := ⟨by kernel_rfl, by
  obtain ⟨i, h1, h2, h3, h4⟩ := info_get (P := Tryz.prog) (e := 51) (s := 1) (b := 8) (z := .pointer none) (by kernel_rfl); exact ⟨i, _, h1, h2, h3, h4, rfl⟩⟩
theorem lds_decls {w : World} {a : Addr} {p : Option Addr} {n c : Nat} (h : w.cell? a = some (.slice p n c)) : Lds Tryz.prog 57 w a (.slice p n c) := by
  have key : (∃ p' n' c', w.cell? a = some (.slice p' n' c') /\ .slice p' n' c' = Value.slice p n c) = ldVC Tryz.prog 57 w a (fun v => v = .slice p n c) := by kernel_rfl
  obtain ⟨v, rfl, hr⟩ := semR_out (ldVC_sound (of_eq ⟨_, _, _, h, rfl⟩ key)); exact hr w rfl
theorem Parse_spec {w : World} (g : Gl w) {s : ByteArray} (hs : s.size <= 100000) {ds : List Dc} (hF : parseA s = some ds) {K R : KV}
    (hk : ∀ w' v vs, RowAt w' 51 1 v vs -> (∀ b, InRow v b -> w.heap.size <= b) -> DsAt (From w.heap.size) w' vs ds -> Upd No w w' -> K (.tuple #[v, .nilIface]) w') :
    callX Tryz.prog 24 #[.string s] w K R := by
  unfold parseA at hF; split at hF
  . cases hF
  rename_i toks hlex; split at hF
  case isFalse => cases hF
  rename_i hl; refine Parse_text _ _ _ _ (newC_mk fun w1 B1 u1 s1 => newC_mk fun w3 B3 u3 s3 => ?_); refine callC_ofX (Lex_spec (g.keep (up u1 u3)) hs hlex fun w5 v rowT ownT u5 => ?_); obtain ⟨pt, nt, ct, rfl, hnt, _⟩ := rowT.shape; refine ⟨pt, nt, ct, _, rfl, ?_⟩; have b0 := (B1.upd u3 id).upd u5 id; have b2 := B3.upd u5 id; simp only [oneC]; refine stC_mk b2 (by simp) fun w10 B10 u10 s10 => ⟨_, B10.cell rfl, .bool false, ⟨false, rfl, brC_ff rfl (newC_mk fun w25 B25 u25 s25 => ?_)⟩, fun w' e => by cases e; exact neq_nil _ _⟩; have b10 := b0.upd u10 (by omega); have z5 := u5.size; have P : P0 w10 (.slice pt nt ct) toks := ⟨rowT.upd u10 fun b hb e => by have := ownT b hb; have := row_type rowT b2 (by rw [<- e]; exact hb); exact absurd this (by decide), by omega⟩; have Z25 : Pz w10 (.slice pt nt ct) w25 0 0 := ⟨u25.no, B25⟩; have U10 : Upd No w w10 := (up (up u1 u3) u5).trans u10 fun x hx (e : x = _) => by omega
  have z10 := U10.size; have w1lt := B10.lt; have nTok : ¬ InRow (.slice pt nt ct) w.heap.size := fun h => by have := ownT _ h; omega
  refine ⟨fun w' => ∃ a p n c vs dn rest f, Pz w10 (.slice pt nt ct) w' a 0 /\ Blk w' w.heap.size #[.slice p n c] 57 /\ Blk w' w1.heap.size #[.nilIface] 71 /\ RowAt w' 51 1 (.slice p n c) vs /\ (∀ b, InRow (.slice p n c) b -> w10.heap.size < b) /\ DsAt (fun b => w10.heap.size < b /\ ¬ InRow (.slice p n c) b) w' vs dn /\
      parseF toks f a = some rest /\ dn ++ rest = ds /\ vs.length <= a /\ Upd No w w', fun w' => toks.length + 1 - atOf w' w10.heap.size, ?_, ?_⟩
  . exact ⟨0, none, 0, 0, [], [], ds, _, Z25, b10.upd u25 id, B10.upd u25 id, RowAt.nil _ _ _, fun b hb => (no_in b hb).elim, trivial, hF, rfl, Nat.zero_le _, up U10 u25⟩
  rintro w28 ⟨a, p, n, c, vs, dn, rest, f, Z28, c0, c2, row, rowN, hds, hf, hdr, hva, U28⟩ _
  cases f with
  | zero => cases hf
  | succ f =>
  unfold parseF at hf; split at hf
  . cases hf
  rename_i t ht; have hat := (List.getElem?_eq_some_iff.1 ht).1; have hlen := hds.len; refine next_c P Z28 ht fun w31 u31 => ⟨_, _, _, _, rfl, brC_intro (fun hk0 => ?_) fun hk0 => ?_⟩
  . have hk0 : t.kind ≠ 0 := by simpa using hk0
    rw [if_neg hk0] at hf; split at hf
    . cases hf
    rename_i dc a1 hdc; obtain ⟨rest', hf', rfl⟩ := Option.map_eq_some_iff.1 hf; have ha1 := declF_inc hdc
    have ha1l : a1 < toks.length := by
      cases f with
      | zero => cases hf'
      | succ f =>
        unfold parseF at hf'; split at hf'
        . cases hf'
        . rename_i q2 hq2; exact (List.getElem?_eq_some_iff.1 hq2).1
    refine drawC_mk fun w36 u36 _ => ⟨fun w' => Blk w' w.heap.size #[.slice p n c] 57, p, n, c, ((c0.upd u31 id).upd u36 id).cell rfl, fun w41 h => lds_decls (h.cell rfl), ?_, trivial⟩; have U36 := up u31 u36; have Z36 := Z28.keep U36; refine decl_c P hl Z36 hdc fun w43 q Z43 hdc43 u43 => ⟨q, rfl, (c0.upd U36 id).upd u43 (by omega), newC_mk fun w46 B46 u46 s46 => ⟨((c0.upd U36 id).upd u43 (by omega)).upd u46 id, ?_, trivial⟩, trivial⟩; have nk : ∀ b, w10.heap.size < b -> ¬ b = w10.heap.size := fun b hb e => by omega
    have z36 := U36.size; have z43 := u43.size; have row46 := ((row.upd U36 fun _ _ h => h).upd u43 fun b hb => nk b (rowN b hb)).upd u46 fun _ _ h => h; have hnr := row_cap row46; refine grow_row elemDc (n0 := w10.heap.size) ⟨row46, fun b hb => by have := rowN b hb; omega, hnr.1, hnr.2⟩ (by have := Z36.lt; omega) (row_one B46) (by intro u hu; simp at hu; subst hu; rfl) (by omega) (by simp; omega) fun p' n' c' w48 o48 _ hin48 u48 => ?_; have c48 := (((c0.upd U36 id).upd u43 (by omega)).upd u46 id).upd u48 (fun h => by have := rowN _ h; omega); have e48 := (((c2.upd U36 id).upd u43 (by omega)).upd u46 id).upd u48 (fun h => by have := rowN _ h; omega)
    have rowN48 : ∀ b, InRow (.slice p' n' c') b -> w10.heap.size < b := fun b hb => by
      rcases hin48 b hb with h | h
      . exact rowN b h
      . have := Z28.lt; omega
    refine ⟨stC_mk c48 (by simp) fun w52 B52 u52 _ => ⟨⟨a1, p', n', c', vs ++ [.pointer q], dn ++ [dc], rest', f, ?_, B52, e48.upd u52 (by omega), o48.row.upd u52 (fun b hb e => by have := rowN48 b hb; omega), rowN48, ?_, hf', by rw [List.append_assoc]; exact hdr, by simp; omega, ?_⟩, ?_⟩, trivial⟩
    . exact ⟨((Z43.keep u46).up.trans u48 fun y hy h => by have := rowN y h; omega).trans u52 fun y hy (e : y = _) => e ▸ nTok, ((Z43.keep u46).blk.upd u48 fun h => by have := rowN _ h; omega).upd u52 (by omega)⟩
    . refine DsAt.upd u52 (fun b hb e => by have := hb.1; omega) (DsAt.append ?_ ⟨?_, trivial⟩)
      . have h1 : DsAt (fun b => (w10.heap.size < b /\ ¬ InRow (.slice p n c) b) /\ b < w28.heap.size) w46 vs dn := DsAt.upd u46 (fun _ _ h => h) (DsAt.upd u43 (fun b hb => nk b hb.1.1) (DsAt.upd U36 (fun _ _ h => h) (hds.mono (G := fun b => (w10.heap.size < b /\ ¬ InRow (.slice p n c) b) /\ b < w28.heap.size) fun b hlt hb => ⟨hb, hlt⟩)))
        exact (DsAt.upd u48 (fun b hb h => hb.1.2 h) h1).mono fun b _ hb => ⟨hb.1.1, fun h => by
          rcases hin48 b h with h2 | h2
          . exact hb.1.2 h2
          . have := hb.2; have := u46.size; omega⟩
      . have h1 : DcAt (fun b => w36.heap.size <= b /\ b < w43.heap.size) w46 (.pointer q) dc := (hdc43.mono (G := fun b => w36.heap.size <= b /\ b < w43.heap.size) fun b hlt hb => ⟨hb, hlt⟩).upd u46 fun _ _ h => h
        exact (h1.upd u48 fun b hb h => by have := row.lt h; omega).mono fun b _ hb => ⟨by have := Z36.lt; omega, fun h => by
          rcases hin48 b h with h2 | h2
          . have := row.lt h2; omega
          . have := u46.size; omega⟩
    . exact ((((up U28 U36).trans u43 fun y hy (e : y = _) => by omega).trans u46 fun _ _ h => h).trans u48 fun y hy h => by have := rowN y h; omega).trans u52 fun y hy (e : y = _) => by omega
    . show toks.length + 1 - atOf w52 w10.heap.size < toks.length + 1 - atOf w28 w10.heap.size; have zz : Pz w10 (.slice pt nt ct) w52 a1 0 := ⟨((Z43.keep u46).up.trans u48 fun y hy h => by have := rowN y h; omega).trans u52 fun y hy (e : y = _) => e ▸ nTok, ((Z43.keep u46).blk.upd u48 fun h => by have := rowN _ h; omega).upd u52 (by omega)⟩; rw [zz.at_, Z28.at_]; omega
  . have hk0 : t.kind = 0 := by simpa using hk0
    rw [if_pos hk0] at hf; cases hf; rw [List.append_nil] at hdr; subst hdr; have d0 := c0.upd u31 id; have d2 := c2.upd u31 id; refine ⟨p, n, c, d0.cell rfl, stC_mk d0 (by simp) fun w63 B63 u63 _ => stC_mk (d2.upd u63 (by omega)) (by simp) fun w64 B64 u64 _ => ?_⟩; have b64 := B63.upd u64 (by omega); refine ⟨_, _, _, _, rfl, rfl, (parseD_idle _ _ w64).mono ?_⟩; rintro e u w65 ⟨rfl, rfl, rfl⟩; refine ⟨⟨_, rfl⟩, rfl, _, _, _, b64.cell rfl, _, B64.cell rfl, hk _ _ vs ?_ (fun b hb => by have := rowN b hb; omega) ?_ ?_⟩
    . exact ((row.upd u31 fun _ _ h => h).upd u63 fun b hb e => by have := rowN b hb; omega).upd u64 fun b hb e => by have := rowN b hb; omega
    . exact ((DsAt.upd u64 (fun b hb e => by have := hb.1; omega) (DsAt.upd u63 (fun b hb e => by have := hb.1; omega) (DsAt.upd u31 (fun _ _ h => h) hds))).mono fun b _ hb => (show w.heap.size <= b by have := hb.1; omega))
    . exact ((up U28 u31).trans u63 fun y hy (e : y = _) => by omega).trans u64 fun y hy (e : y = _) => by omega
end Go.Proofs.YtdbkclnlfibgdaaGreatDoor
