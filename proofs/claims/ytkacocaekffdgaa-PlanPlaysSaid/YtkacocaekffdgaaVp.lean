/- The texts that the engine's theorem comes to at each function: written by program (gen.py), checked by the kernel. -/
import Derived.Test.YtkacocaekffdgaaSz
import Derived.Test.YtkacocaekffdgaaProg
import Derived.KernelRfl
namespace Go.Proofs.Ytkacocaekffdgaa
open Go.SX


set_option maxRecDepth 100000 in
set_option maxHeartbeats 4000000 in
/-- lodger/lodgerlaw21.small -/
theorem psmall (x0 : Option Addr) (x0l : Nat) (x0c : Nat) (x1 : Option Addr) (x1l : Nat) (x1c : Nat) (w : World) (K : Value → World → Prop)
    (h : ∃ (x0_1 : Option Addr → Nat → Nat → Int → World → Prop), ∃ (x1_1 : Option Addr → Nat → Nat → Int → World → Nat), x0_1 none 0 0 0 w ∧ ∀ (p2 : Option Addr) (k3 k4 : Nat) (n5 : Int) (w6 : World), x0_1 p2 k3 k4 n5 w6 → ∀ (x7 : Nat → Value), brC (decide (n5 < if 12 < if (↑x1l : Int) < (↑x0l : Int) then (↑x1l : Int) else (↑x0l : Int) then 12 else if (↑x1l : Int) < (↑x0l : Int) then (↑x1l : Int) else (↑x0l : Int))) (∃ (x8 : Option Addr → Nat → Nat → World → Prop), (∀ (p9 : Option Addr) (k10 k11 : Nat) (w12 : World), x8 p9 k10 k11 w12 → ∀ (x13 : Nat → Value), x0_1 p9 k10 k11 (IntKind.wrap IntKind.i64 (n5 + 1)) w12 ∧ x1_1 p9 k10 k11 (IntKind.wrap IntKind.i64 (n5 + 1)) w12 < x1_1 p2 k3 k4 n5 w6) ∧ drawC w6 fun (w14 : World) ↦ ∃ (x15 : World → Prop), idxC n5 x1l (ptrC x1 fun (a16 : Addr) ↦ ∃ (p17 : Option Addr), ∃ (k18 : Nat), ∃ (k19 : Nat), World.cell? w14 (Addr.add a16 (Int.toNat n5 * 1)) = some (.slice p17 k18 k19) ∧ (∀ (w20 : World), x15 w20 → Lds Try.prog 22 w20 (Addr.add a16 (Int.toNat n5 * 1)) (.slice p17 k18 k19)) ∧ idxC n5 x1l (ptrC x1 fun (a21 : Addr) ↦ ∃ (p22 : Option Addr), ∃ (k23 : Nat), ∃ (k24 : Nat), World.cell? w14 (Addr.add a21 (Int.toNat n5 * 1)) = some (.slice p22 k23 k24) ∧ (∀ (w25 : World), x15 w25 → Lds Try.prog 22 w25 (Addr.add a21 (Int.toNat n5 * 1)) (.slice p22 k23 k24)) ∧ slcC 0 (if 12 < (↑k23 : Int) then 12 else (↑k23 : Int)) k19 ((newC w14 (Obj.cells #[.slice (subP p17 k19 0 1) (Int.toNat (if 12 < (↑k23 : Int) then 12 else (↑k23 : Int)) - 0) (k19 - 0)] 22) fun (k26 : Nat) (w27 : World) ↦ x15 w27 ∧ (runC Try.prog (Builtin.append_ #[23, 23] 23 #[.slice p2 k3 k4, .slice (some (Addr.mk k26 0 none)) 1 1]) w27 fun (v28 : Value) (w29 : World) ↦ ∃ (p30 : Option Addr), ∃ (k31 : Nat), ∃ (k32 : Nat), v28 = .slice p30 k31 k32 ∧ x15 w29 ∧ x8 p30 k31 k32 w29) ∧ True) ∧ True)))) (slcC 0 (if 12 < if (↑x1l : Int) < (↑x0l : Int) then (↑x1l : Int) else (↑x0l : Int) then 12 else if (↑x1l : Int) < (↑x0l : Int) then (↑x1l : Int) else (↑x0l : Int)) x0c (K (.tuple #[.slice (subP x0 x0c 0 1) (Int.toNat (if 12 < if (↑x1l : Int) < (↑x0l : Int) then (↑x1l : Int) else (↑x0l : Int) then 12 else if (↑x1l : Int) < (↑x0l : Int) then (↑x1l : Int) else (↑x0l : Int)) - 0) (x0c - 0), .slice p2 k3 k4]) w6))) :
    callC Try.prog 25 #[.slice x0 x0l x0c, .slice x1 x1l x1c] w K :=
  calls_of_vc ⟨[(5, [(7, .slice)])], [(4, [(7, .slice), (8, .int .i64)])], [(6, .held)]⟩ Try.func25 (of_eq h (by kernel_rfl))

set_option maxRecDepth 100000 in
set_option maxHeartbeats 4000000 in
/-- lodger/plan.New -/
theorem pnew (x0 : Option Addr) (x1 : Option Addr) (x1l : Nat) (x1c : Nat) (w : World) (K : Value → World → Prop)
    (h : brC (Option.isNone x0) (K (.pointer none) w) (callC Try.prog 20 #[.pointer x0] w fun (v0 : Value) (w1 : World) ↦ ∃ (p2 : Option Addr), ∃ (k3 : Nat), ∃ (k4 : Nat), v0 = .slice p2 k3 k4 ∧ newC w1 (Obj.map #[] 0) fun (k5 : Nat) (w6 : World) ↦ newC w6 (Obj.cells #[.slice none 0 0, .slice none 0 0, .pointer x0, .slice p2 k3 k4, .map (some k5)] 83) fun (k7 : Nat) (w8 : World) ↦ ∃ (p9 : Option Addr), ∃ (k10 : Nat), ∃ (k11 : Nat), World.cell? w8 (Addr.mk k7 3 none) = some (.slice p9 k10 k11) ∧ runC Try.prog (Instr.makeSlice 79 (.int .i64 (↑k10 : Int)) (.int .i64 (↑k10 : Int))) w8 fun (v12 : Value) (w13 : World) ↦ ∃ (p14 : Option Addr), ∃ (k15 : Nat), ∃ (k16 : Nat), v12 = .slice p14 k15 k16 ∧ stC w13 (Addr.mk k7 1 none) (.slice p14 k15 k16) fun (w17 : World) ↦ ∃ (p18 : Option Addr), ∃ (k19 : Nat), ∃ (k20 : Nat), World.cell? w17 (Addr.mk k7 3 none) = some (.slice p18 k19 k20) ∧ ∃ (x21 : Int → World → Prop), ∃ (x22 : Int → World → Nat), x21 0 w17 ∧ ∀ (n23 : Int) (w24 : World), x21 n23 w24 → ∀ (x25 : Nat → Value), brC (decide (n23 < (↑k19 : Int))) (idxC n23 k19 (ptrC p18 fun (a26 : Addr) ↦ ∃ (s27 : ByteArray), World.cell? w24 (Addr.add a26 (Int.toNat n23 * 1)) = some (.string s27) ∧ ∃ (p28 : Option Nat), World.cell? w24 (Addr.mk k7 4 none) = some (.map p28) ∧ runC Try.prog (Instr.mapUpdate 69 (.map p28) (.string s27) (.int .i64 n23)) w24 fun (x29 : PUnit) (w30 : World) ↦ x21 (IntKind.wrap IntKind.i64 (n23 + 1)) w30 ∧ x22 (IntKind.wrap IntKind.i64 (n23 + 1)) w30 < x22 n23 w24)) (∃ (x31 : Int → World → Prop), ∃ (x32 : Int → World → Nat), x31 0 w24 ∧ ∀ (n33 : Int) (w34 : World), x31 n33 w34 → ∀ (x35 : Nat → Value), brC (decide (n33 < (↑x1l : Int))) (idxC n33 x1l (ptrC x1 fun (a36 : Addr) ↦ ∃ (s37 : ByteArray), World.cell? w34 (Addr.add a36 (Int.toNat n33 * 1)) = some (.string s37) ∧ callC Try.prog 47 #[.pointer (some (Addr.mk k7 0 none)), .string s37] w34 fun (v38 : Value) (w39 : World) ↦ v38 = .tuple #[] ∧ x31 (IntKind.wrap IntKind.i64 (n33 + 1)) w39 ∧ x32 (IntKind.wrap IntKind.i64 (n33 + 1)) w39 < x32 n33 w34)) (K (.pointer (some (Addr.mk k7 0 none))) w34)))) :
    callC Try.prog 26 #[.pointer x0, .slice x1 x1l x1c] w K :=
  calls_of_vc ⟨[], [(6, [(33, .int .i64)]), (11, [(47, .int .i64)])], []⟩ Try.func26 (of_eq h (by kernel_rfl))

set_option maxRecDepth 100000 in
set_option maxHeartbeats 4000000 in
/-- lodger/lodgerlaw21.works -/
theorem pworks  (w : World) (K : Value → World → Prop)
    (h : newC w (Obj.cells #[.string (ByteArray.mk #[97]), .string (ByteArray.mk #[98]), .string (ByteArray.mk #[99])] 9) fun (k0 : Nat) (w1 : World) ↦ newC w1 (Obj.cells #[.string (ByteArray.mk #[97])] 9) fun (k2 : Nat) (w3 : World) ↦ newC w3 (Obj.cells #[.slice none 0 0, .slice (some (Addr.mk k2 0 none)) 1 1, .slice none 0 0] 22) fun (k4 : Nat) (w5 : World) ↦ callC Try.prog 12 #[.slice (some (Addr.mk k0 0 none)) 3 3, .slice (some (Addr.mk k4 0 none)) 3 3] w5 fun (v6 : Value) (w7 : World) ↦ ∃ (p8 : Option Addr), v6 = .pointer p8 ∧ newC w7 (Obj.cells #[.string (ByteArray.mk #[97])] 9) fun (k9 : Nat) (w10 : World) ↦ callC Try.prog 26 #[.pointer p8, .slice (some (Addr.mk k9 0 none)) 1 1] w10 fun (v11 : Value) (w12 : World) ↦ ∃ (p13 : Option Addr), v11 = .pointer p13 ∧ brC (Option.isNone p13) (K (.bool false) w12) (callC Try.prog 31 #[.pointer p13] w12 fun (v14 : Value) (w15 : World) ↦ ∃ (s16 : ByteArray), ∃ (b17 : Bool), v14 = .tuple #[.string s16, .bool b17] ∧ callC Try.prog 33 #[.pointer p13, .string s16, .bool true] w15 fun (v18 : Value) (w19 : World) ↦ v18 = .tuple #[] ∧ callC Try.prog 31 #[.pointer p13] w19 fun (v20 : Value) (w21 : World) ↦ ∃ (s22 : ByteArray), ∃ (b23 : Bool), v20 = .tuple #[.string s22, .bool b23] ∧ callC Try.prog 31 #[.pointer p13] w21 fun (v24 : Value) (w25 : World) ↦ ∃ (s26 : ByteArray), ∃ (b27 : Bool), v24 = .tuple #[.string s26, .bool b27] ∧ brC (ByteArray.toList s16 == ByteArray.toList (ByteArray.mk #[97])) (brC b17 (brC (ByteArray.toList s22 == ByteArray.toList (ByteArray.mk #[98])) (brC b23 (brC (!b27) (callC Try.prog 29 #[.pointer p13] w25 fun (v28 : Value) (w29 : World) ↦ ∃ (n30 : Int), v28 = .int .i64 n30 ∧ K (.bool (n30 == 0)) w29) (K (.bool false) w25)) (K (.bool false) w25)) (K (.bool false) w25)) (K (.bool false) w25)) (K (.bool false) w25))) :
    callC Try.prog 27 #[] w K :=
  calls_of_vc ⟨[], [], []⟩ Try.func27 (of_eq h (by kernel_rfl))

set_option maxRecDepth 100000 in
set_option maxHeartbeats 4000000 in
/-- lodger/lodgerref21.New -/
theorem prnew (x0 : Option Addr) (x1 : Option Addr) (x1l : Nat) (x1c : Nat) (w : World) (K : Value → World → Prop)
    (h : callC Try.prog 21 #[.pointer x0] w fun (v0 : Value) (w1 : World) ↦ ∃ (p2 : Option Addr), ∃ (k3 : Nat), ∃ (k4 : Nat), v0 = .slice p2 k3 k4 ∧ newC w1 (Obj.cells #[.pointer x0, .slice p2 k3 k4, .slice none 0 0, .slice none 0 0] 85) fun (k5 : Nat) (w6 : World) ↦ ∃ (p7 : Option Addr), ∃ (k8 : Nat), ∃ (k9 : Nat), World.cell? w6 (Addr.mk k5 1 none) = some (.slice p7 k8 k9) ∧ runC Try.prog (Instr.makeSlice 56 (.int .i64 (↑k8 : Int)) (.int .i64 (↑k8 : Int))) w6 fun (v10 : Value) (w11 : World) ↦ ∃ (p12 : Option Addr), ∃ (k13 : Nat), ∃ (k14 : Nat), v10 = .slice p12 k13 k14 ∧ stC w11 (Addr.mk k5 2 none) (.slice p12 k13 k14) fun (w15 : World) ↦ ∃ (p16 : Option Addr), ∃ (k17 : Nat), ∃ (k18 : Nat), World.cell? w15 (Addr.mk k5 1 none) = some (.slice p16 k17 k18) ∧ runC Try.prog (Instr.makeSlice 56 (.int .i64 (↑k17 : Int)) (.int .i64 (↑k17 : Int))) w15 fun (v19 : Value) (w20 : World) ↦ ∃ (p21 : Option Addr), ∃ (k22 : Nat), ∃ (k23 : Nat), v19 = .slice p21 k22 k23 ∧ stC w20 (Addr.mk k5 3 none) (.slice p21 k22 k23) fun (w24 : World) ↦ ∃ (x25 : Int → World → Prop), ∃ (x26 : Int → World → Nat), x25 0 w24 ∧ ∀ (n27 : Int) (w28 : World), x25 n27 w28 → ∀ (x29 : Nat → Value), brC (decide (n27 < (↑x1l : Int))) (∃ (x30 : World → Prop), (∀ (w31 : World), x30 w31 → ∀ (x32 : Nat → Value), x25 (IntKind.wrap IntKind.i64 (n27 + 1)) w31 ∧ x26 (IntKind.wrap IntKind.i64 (n27 + 1)) w31 < x26 n27 w28) ∧ idxC n27 x1l (ptrC x1 fun (a33 : Addr) ↦ ∃ (s34 : ByteArray), World.cell? w28 (Addr.add a33 (Int.toNat n27 * 1)) = some (.string s34) ∧ callC Try.prog 48 #[.pointer (some (Addr.mk k5 0 none)), .string s34] w28 fun (v35 : Value) (w36 : World) ↦ ∃ (n37 : Int), v35 = .int .i64 n37 ∧ brC (decide (n37 ≥ 0)) (∃ (p38 : Option Addr), ∃ (k39 : Nat), ∃ (k40 : Nat), World.cell? w36 (Addr.mk k5 2 none) = some (.slice p38 k39 k40) ∧ idxC n37 k39 (ptrC p38 fun (a41 : Addr) ↦ stC w36 (Addr.add a41 (Int.toNat n37 * 1)) (.bool true) fun (w42 : World) ↦ x30 w42)) (x30 w36))) (K (.pointer (some (Addr.mk k5 0 none))) w28)) :
    callC Try.prog 28 #[.pointer x0, .slice x1 x1l x1c] w K :=
  calls_of_vc ⟨[(6, [])], [(5, [(6, .int .i64)])], []⟩ Try.func28 (of_eq h (by kernel_rfl))

set_option maxRecDepth 100000 in
set_option maxHeartbeats 4000000 in
/-- (*lodger/plan.Plan).Len -/
theorem plen (x0 : Option Addr) (w : World) (K : Value → World → Prop)
    (h : brC (Option.isNone x0) (K (.int .i64 0) w) (ptrC x0 fun (a0 : Addr) ↦ callC Try.prog 49 #[.pointer (some a0)] w fun (v1 : Value) (w2 : World) ↦ ∃ (n3 : Int), v1 = .int .i64 n3 ∧ K (.int .i64 n3) w2)) :
    callC Try.prog 29 #[.pointer x0] w K :=
  calls_of_vc ⟨[], [], []⟩ Try.func29 (of_eq h (by kernel_rfl))

set_option maxRecDepth 100000 in
set_option maxHeartbeats 4000000 in
/-- (*lodger/lodgerref21.Plan).Len -/
theorem prlen (x0 : Option Addr) (w : World) (K : Value → World → Prop)
    (h : ∃ (x0_1 : Int → Int → World → Prop), ∃ (x1 : Int → Int → World → Nat), x0_1 0 0 w ∧ ∀ (n2 n3 : Int) (w4 : World), x0_1 n2 n3 w4 → ∀ (x5 : Nat → Value), ptrC x0 fun (a6 : Addr) ↦ ∃ (p7 : Option Addr), ∃ (k8 : Nat), ∃ (k9 : Nat), World.cell? w4 (Addr.add a6 2) = some (.slice p7 k8 k9) ∧ brC (decide (n3 < (↑k8 : Int))) (∃ (x10 : Int → World → Prop), (∀ (n11 : Int) (w12 : World), x10 n11 w12 → ∀ (x13 : Nat → Value), x0_1 n11 (IntKind.wrap IntKind.i64 (n3 + 1)) w12 ∧ x1 n11 (IntKind.wrap IntKind.i64 (n3 + 1)) w12 < x1 n2 n3 w4) ∧ ptrC x0 fun (a14 : Addr) ↦ ∃ (p15 : Option Addr), ∃ (k16 : Nat), ∃ (k17 : Nat), World.cell? w4 (Addr.add a14 2) = some (.slice p15 k16 k17) ∧ idxC n3 k16 (ptrC p15 fun (a18 : Addr) ↦ ∃ (b19 : Bool), World.cell? w4 (Addr.add a18 (Int.toNat n3 * 1)) = some (.bool b19) ∧ brC b19 (x10 (IntKind.wrap IntKind.i64 (n2 + 1)) w4) (x10 n2 w4))) (K (.int .i64 n2) w4)) :
    callC Try.prog 30 #[.pointer x0] w K :=
  calls_of_vc ⟨[(4, [(3, .int .i64)])], [(3, [(3, .int .i64), (4, .int .i64)])], []⟩ Try.func30 (of_eq h (by kernel_rfl))

set_option maxRecDepth 100000 in
set_option maxHeartbeats 4000000 in
/-- (*lodger/plan.Plan).Next -/
theorem pnext (x0 : Option Addr) (w : World) (K : Value → World → Prop)
    (h : callC Try.prog 29 #[.pointer x0] w fun (v0 : Value) (w1 : World) ↦ ∃ (n2 : Int), v0 = .int .i64 n2 ∧ brC (n2 == 0) (K (.tuple #[.string (ByteArray.mk #[]), .bool false]) w1) (ptrC x0 fun (a3 : Addr) ↦ callC Try.prog 50 #[.iface 87 (.pointer (some a3))] w1 fun (v4 : Value) (w5 : World) ↦ ∃ (v6 : Value), v4 = v6 ∧ runC Try.prog (Instr.typeAssert v6 20 3 false) w5 fun (v7 : Value) (w8 : World) ↦ ∃ (n9 : Int), v7 = .int .i64 n9 ∧ ptrC x0 fun (a10 : Addr) ↦ ∃ (p11 : Option Addr), ∃ (k12 : Nat), ∃ (k13 : Nat), World.cell? w8 (Addr.add a10 1) = some (.slice p11 k12 k13) ∧ idxC n9 k12 (ptrC p11 fun (a14 : Addr) ↦ stC w8 (Addr.add a14 (Int.toNat n9 * 2)) (.bool false) fun (w15 : World) ↦ stC w15 (Addr.add (Addr.add a14 (Int.toNat n9 * 2)) 1) (.bool true) fun (w16 : World) ↦ ptrC x0 fun (a17 : Addr) ↦ ∃ (p18 : Option Addr), ∃ (k19 : Nat), ∃ (k20 : Nat), World.cell? w16 (Addr.add a17 3) = some (.slice p18 k19 k20) ∧ idxC n9 k19 (ptrC p18 fun (a21 : Addr) ↦ ∃ (s22 : ByteArray), World.cell? w16 (Addr.add a21 (Int.toNat n9 * 1)) = some (.string s22) ∧ K (.tuple #[.string s22, .bool true]) w16)))) :
    callC Try.prog 31 #[.pointer x0] w K :=
  calls_of_vc ⟨[], [], []⟩ Try.func31 (of_eq h (by kernel_rfl))

set_option maxRecDepth 100000 in
set_option maxHeartbeats 4000000 in
/-- (*lodger/lodgerref21.Plan).Next -/
theorem prnext (x0 : Option Addr) (w : World) (K : Value → World → Prop)
    (h : ∃ (x0_1 : Int → World → Prop), ∃ (x1 : Int → World → Nat), x0_1 0 w ∧ ∀ (n2 : Int) (w3 : World), x0_1 n2 w3 → ∀ (x4 : Nat → Value), ptrC x0 fun (a5 : Addr) ↦ ∃ (p6 : Option Addr), ∃ (k7 : Nat), ∃ (k8 : Nat), World.cell? w3 (Addr.add a5 2) = some (.slice p6 k7 k8) ∧ brC (decide (n2 < (↑k7 : Int))) (ptrC x0 fun (a9 : Addr) ↦ ∃ (p10 : Option Addr), ∃ (k11 : Nat), ∃ (k12 : Nat), World.cell? w3 (Addr.add a9 2) = some (.slice p10 k11 k12) ∧ idxC n2 k11 (ptrC p10 fun (a13 : Addr) ↦ ∃ (b14 : Bool), World.cell? w3 (Addr.add a13 (Int.toNat n2 * 1)) = some (.bool b14) ∧ brC b14 (ptrC x0 fun (a15 : Addr) ↦ ∃ (p16 : Option Addr), ∃ (k17 : Nat), ∃ (k18 : Nat), World.cell? w3 (Addr.add a15 2) = some (.slice p16 k17 k18) ∧ idxC n2 k17 (ptrC p16 fun (a19 : Addr) ↦ stC w3 (Addr.add a19 (Int.toNat n2 * 1)) (.bool false) fun (w20 : World) ↦ ptrC x0 fun (a21 : Addr) ↦ ∃ (p22 : Option Addr), ∃ (k23 : Nat), ∃ (k24 : Nat), World.cell? w20 (Addr.add a21 3) = some (.slice p22 k23 k24) ∧ idxC n2 k23 (ptrC p22 fun (a25 : Addr) ↦ stC w20 (Addr.add a25 (Int.toNat n2 * 1)) (.bool true) fun (w26 : World) ↦ ptrC x0 fun (a27 : Addr) ↦ ∃ (p28 : Option Addr), ∃ (k29 : Nat), ∃ (k30 : Nat), World.cell? w26 (Addr.add a27 1) = some (.slice p28 k29 k30) ∧ idxC n2 k29 (ptrC p28 fun (a31 : Addr) ↦ ∃ (s32 : ByteArray), World.cell? w26 (Addr.add a31 (Int.toNat n2 * 1)) = some (.string s32) ∧ K (.tuple #[.string s32, .bool true]) w26)))) (x0_1 (IntKind.wrap IntKind.i64 (n2 + 1)) w3 ∧ x1 (IntKind.wrap IntKind.i64 (n2 + 1)) w3 < x1 n2 w3))) (K (.tuple #[.string (ByteArray.mk #[]), .bool false]) w3)) :
    callC Try.prog 32 #[.pointer x0] w K :=
  calls_of_vc ⟨[], [(2, [(4, .int .i64)])], []⟩ Try.func32 (of_eq h (by kernel_rfl))

set_option maxRecDepth 100000 in
set_option maxHeartbeats 4000000 in
/-- (*lodger/plan.Plan).Done -/
theorem pdone (x0 : Option Addr) (x1 : ByteArray) (x2 : Bool) (w : World) (K : Value → World → Prop)
    (h : ∃ (x0_1 : World → Prop), (∀ (w1 : World), x0_1 w1 → ∀ (x2 : Nat → Value), ∃ (x3 : World → Prop), (∀ (w4 : World), x3 w4 → ∀ (x5 : Nat → Value), ptrC x0 fun (a6 : Addr) ↦ ∃ (p7 : Option Addr), World.cell? w4 (Addr.add a6 2) = some (.pointer p7) ∧ callC Try.prog 18 #[.pointer p7, .string x1] w4 fun (v8 : Value) (w9 : World) ↦ ∃ (p10 : Option Addr), ∃ (k11 : Nat), ∃ (k12 : Nat), v8 = .slice p10 k11 k12 ∧ ∃ (x13 : Int → World → Prop), ∃ (x14 : Int → World → Nat), x13 0 w9 ∧ ∀ (n15 : Int) (w16 : World), x13 n15 w16 → ∀ (x17 : Nat → Value), brC (decide (n15 < (↑k11 : Int))) (idxC n15 k11 (ptrC p10 fun (a18 : Addr) ↦ ∃ (s19 : ByteArray), World.cell? w16 (Addr.add a18 (Int.toNat n15 * 1)) = some (.string s19) ∧ callC Try.prog 47 #[.pointer x0, .string s19] w16 fun (v20 : Value) (w21 : World) ↦ v20 = .tuple #[] ∧ x13 (IntKind.wrap IntKind.i64 (n15 + 1)) w21 ∧ x14 (IntKind.wrap IntKind.i64 (n15 + 1)) w21 < x14 n15 w16)) (K (.tuple #[]) w16)) ∧ ptrC x0 fun (a22 : Addr) ↦ ∃ (p23 : Option Nat), World.cell? w1 (Addr.add a22 4) = some (.map p23) ∧ runR Try.prog (Instr.lookup 69 (.map p23) (.string x1) true) (some w1) fun (v24 : Value) ↦ ∃ (n25 : Int), ∃ (b26 : Bool), v24 = .tuple #[.int .i64 n25, .bool b26] ∧ brC (!b26) (K (.tuple #[]) w1) (ptrC x0 fun (a27 : Addr) ↦ ∃ (p28 : Option Addr), ∃ (k29 : Nat), ∃ (k30 : Nat), World.cell? w1 (Addr.add a27 1) = some (.slice p28 k29 k30) ∧ idxC n25 k29 (ptrC p28 fun (a31 : Addr) ↦ ∃ (b32 : Bool), World.cell? w1 (Addr.add (Addr.add a31 (Int.toNat n25 * 2)) 1) = some (.bool b32) ∧ brC (!b32) (K (.tuple #[]) w1) (x3 w1)))) ∧ brC (Option.isNone x0) (K (.tuple #[]) w) (brC (!x2) (K (.tuple #[]) w) (x0_1 w))) :
    callC Try.prog 33 #[.pointer x0, .string x1, .bool x2] w K :=
  calls_of_vc ⟨[(1, []), (3, [])], [(4, [(46, .int .i64)])], []⟩ Try.func33 (of_eq h (by kernel_rfl))

set_option maxRecDepth 100000 in
set_option maxHeartbeats 4000000 in
/-- (*lodger/lodgerref21.Plan).Done -/
theorem prdone (x0 : Option Addr) (x1 : ByteArray) (x2 : Bool) (w : World) (K : Value → World → Prop)
    (h : callC Try.prog 48 #[.pointer x0, .string x1] w fun (v0 : Value) (w1 : World) ↦ ∃ (n2 : Int), v0 = .int .i64 n2 ∧ ∃ (x3 : World → Prop), (∀ (w4 : World), x3 w4 → ∀ (x5 : Nat → Value), ptrC x0 fun (a6 : Addr) ↦ ∃ (p7 : Option Addr), World.cell? w4 a6 = some (.pointer p7) ∧ callC Try.prog 19 #[.pointer p7, .string x1] w4 fun (v8 : Value) (w9 : World) ↦ ∃ (p10 : Option Addr), ∃ (k11 : Nat), ∃ (k12 : Nat), v8 = .slice p10 k11 k12 ∧ ∃ (x13 : Int → World → Prop), ∃ (x14 : Int → World → Nat), x13 0 w9 ∧ ∀ (n15 : Int) (w16 : World), x13 n15 w16 → ∀ (x17 : Nat → Value), brC (decide (n15 < (↑k11 : Int))) (∃ (x18 : World → Prop), (∀ (w19 : World), x18 w19 → ∀ (x20 : Nat → Value), x13 (IntKind.wrap IntKind.i64 (n15 + 1)) w19 ∧ x14 (IntKind.wrap IntKind.i64 (n15 + 1)) w19 < x14 n15 w16) ∧ idxC n15 k11 (ptrC p10 fun (a21 : Addr) ↦ ∃ (s22 : ByteArray), World.cell? w16 (Addr.add a21 (Int.toNat n15 * 1)) = some (.string s22) ∧ callC Try.prog 48 #[.pointer x0, .string s22] w16 fun (v23 : Value) (w24 : World) ↦ ∃ (n25 : Int), v23 = .int .i64 n25 ∧ ptrC x0 fun (a26 : Addr) ↦ ∃ (p27 : Option Addr), ∃ (k28 : Nat), ∃ (k29 : Nat), World.cell? w24 (Addr.add a26 3) = some (.slice p27 k28 k29) ∧ idxC n25 k28 (ptrC p27 fun (a30 : Addr) ↦ ∃ (b31 : Bool), World.cell? w24 (Addr.add a30 (Int.toNat n25 * 1)) = some (.bool b31) ∧ brC (!b31) (ptrC x0 fun (a32 : Addr) ↦ ∃ (p33 : Option Addr), ∃ (k34 : Nat), ∃ (k35 : Nat), World.cell? w24 (Addr.add a32 2) = some (.slice p33 k34 k35) ∧ idxC n25 k34 (ptrC p33 fun (a36 : Addr) ↦ stC w24 (Addr.add a36 (Int.toNat n25 * 1)) (.bool true) fun (w37 : World) ↦ x18 w37)) (x18 w24)))) (K (.tuple #[]) w16)) ∧ brC (!x2) (K (.tuple #[]) w1) (brC (decide (n2 < 0)) (K (.tuple #[]) w1) (ptrC x0 fun (a38 : Addr) ↦ ∃ (p39 : Option Addr), ∃ (k40 : Nat), ∃ (k41 : Nat), World.cell? w1 (Addr.add a38 3) = some (.slice p39 k40 k41) ∧ idxC n2 k40 (ptrC p39 fun (a42 : Addr) ↦ ∃ (b43 : Bool), World.cell? w1 (Addr.add a42 (Int.toNat n2 * 1)) = some (.bool b43) ∧ brC (!b43) (K (.tuple #[]) w1) (x3 w1))))) :
    callC Try.prog 34 #[.pointer x0, .string x1, .bool x2] w K :=
  calls_of_vc ⟨[(2, []), (5, [])], [(4, [(8, .int .i64)])], []⟩ Try.func34 (of_eq h (by kernel_rfl))

set_option maxRecDepth 100000 in
set_option maxHeartbeats 4000000 in
/-- lodger/lodgerlaw21.has -/
theorem phas (x0 : Option Addr) (x0l : Nat) (x0c : Nat) (x1 : ByteArray) (w : World) (K : Value → World → Prop)
    (h : ∃ (x0_1 : Int → World → Prop), ∃ (x1_1 : Int → World → Nat), x0_1 0 w ∧ ∀ (n2 : Int) (w3 : World), x0_1 n2 w3 → ∀ (x4 : Nat → Value), brC (decide (n2 < (↑x0l : Int))) (idxC n2 x0l (ptrC x0 fun (a5 : Addr) ↦ ∃ (s6 : ByteArray), World.cell? w3 (Addr.add a5 (Int.toNat n2 * 1)) = some (.string s6) ∧ brC (ByteArray.toList s6 == ByteArray.toList x1) (K (.bool true) w3) (x0_1 (IntKind.wrap IntKind.i64 (n2 + 1)) w3 ∧ x1_1 (IntKind.wrap IntKind.i64 (n2 + 1)) w3 < x1_1 n2 w3))) (K (.bool false) w3)) :
    callC Try.prog 35 #[.slice x0 x0l x0c, .string x1] w K :=
  calls_of_vc ⟨[], [(2, [(5, .int .i64)])], []⟩ Try.func35 (of_eq h (by kernel_rfl))

set_option maxRecDepth 100000 in
set_option maxHeartbeats 4000000 in
/-- (*lodger/plan.Plan).wait -/
theorem pwait (x0 : Option Addr) (x1 : ByteArray) (w : World) (K : Value → World → Prop)
    (h : ptrC x0 fun (a0 : Addr) ↦ ∃ (p1 : Option Nat), World.cell? w (Addr.add a0 4) = some (.map p1) ∧ runR Try.prog (Instr.lookup 69 (.map p1) (.string x1) true) (some w) fun (v2 : Value) ↦ ∃ (n3 : Int), ∃ (b4 : Bool), v2 = .tuple #[.int .i64 n3, .bool b4] ∧ ∃ (x5 : World → Prop), (∀ (w6 : World), x5 w6 → ∀ (x7 : Nat → Value), ptrC x0 fun (a8 : Addr) ↦ ∃ (p9 : Option Addr), ∃ (k10 : Nat), ∃ (k11 : Nat), World.cell? w6 (Addr.add a8 1) = some (.slice p9 k10 k11) ∧ idxC n3 k10 (ptrC p9 fun (a12 : Addr) ↦ stC w6 (Addr.add a12 (Int.toNat n3 * 2)) (.bool true) fun (w13 : World) ↦ ptrC x0 fun (a14 : Addr) ↦ callC Try.prog 55 #[.iface 87 (.pointer (some a14)), .iface 3 (.int .i64 n3)] w13 fun (v15 : Value) (w16 : World) ↦ v15 = .tuple #[] ∧ K (.tuple #[]) w16)) ∧ brC (!b4) (K (.tuple #[]) w) (ptrC x0 fun (a17 : Addr) ↦ ∃ (p18 : Option Addr), ∃ (k19 : Nat), ∃ (k20 : Nat), World.cell? w (Addr.add a17 1) = some (.slice p18 k19 k20) ∧ idxC n3 k19 (ptrC p18 fun (a21 : Addr) ↦ ∃ (b22 : Bool), World.cell? w (Addr.add a21 (Int.toNat n3 * 2)) = some (.bool b22) ∧ brC b22 (K (.tuple #[]) w) (ptrC x0 fun (a23 : Addr) ↦ ∃ (p24 : Option Addr), ∃ (k25 : Nat), ∃ (k26 : Nat), World.cell? w (Addr.add a23 1) = some (.slice p24 k25 k26) ∧ idxC n3 k25 (ptrC p24 fun (a27 : Addr) ↦ ∃ (b28 : Bool), World.cell? w (Addr.add (Addr.add a27 (Int.toNat n3 * 2)) 1) = some (.bool b28) ∧ brC b28 (K (.tuple #[]) w) (x5 w)))))) :
    callC Try.prog 47 #[.pointer x0, .string x1] w K :=
  calls_of_vc ⟨[(2, [])], [], []⟩ Try.func47 (of_eq h (by kernel_rfl))

set_option maxRecDepth 100000 in
set_option maxHeartbeats 4000000 in
/-- (*lodger/lodgerref21.Plan).place -/
theorem prplace (x0 : Option Addr) (x1 : ByteArray) (w : World) (K : Value → World → Prop)
    (h : ∃ (x0_1 : Int → World → Prop), ∃ (x1_1 : Int → World → Nat), x0_1 0 w ∧ ∀ (n2 : Int) (w3 : World), x0_1 n2 w3 → ∀ (x4 : Nat → Value), ptrC x0 fun (a5 : Addr) ↦ ∃ (p6 : Option Addr), ∃ (k7 : Nat), ∃ (k8 : Nat), World.cell? w3 (Addr.add a5 1) = some (.slice p6 k7 k8) ∧ brC (decide (n2 < (↑k7 : Int))) (ptrC x0 fun (a9 : Addr) ↦ ∃ (p10 : Option Addr), ∃ (k11 : Nat), ∃ (k12 : Nat), World.cell? w3 (Addr.add a9 1) = some (.slice p10 k11 k12) ∧ idxC n2 k11 (ptrC p10 fun (a13 : Addr) ↦ ∃ (s14 : ByteArray), World.cell? w3 (Addr.add a13 (Int.toNat n2 * 1)) = some (.string s14) ∧ brC (ByteArray.toList s14 == ByteArray.toList x1) (K (.int .i64 n2) w3) (x0_1 (IntKind.wrap IntKind.i64 (n2 + 1)) w3 ∧ x1_1 (IntKind.wrap IntKind.i64 (n2 + 1)) w3 < x1_1 n2 w3))) (K (.int .i64 (-1)) w3)) :
    callC Try.prog 48 #[.pointer x0, .string x1] w K :=
  calls_of_vc ⟨[], [(2, [(5, .int .i64)])], []⟩ Try.func48 (of_eq h (by kernel_rfl))

set_option maxRecDepth 100000 in
set_option maxHeartbeats 4000000 in
/-- (*lodger/plan.places).Len -/
theorem plslen (x0 : Option Addr) (w : World) (K : Value → World → Prop)
    (h : ptrC x0 fun (a0 : Addr) ↦ ∃ (p1 : Option Addr), ∃ (k2 : Nat), ∃ (k3 : Nat), World.cell? w a0 = some (.slice p1 k2 k3) ∧ K (.int .i64 (↑k2 : Int)) w) :
    callC Try.prog 49 #[.pointer x0] w K :=
  calls_of_vc ⟨[], [], []⟩ Try.func49 (of_eq h (by kernel_rfl))

set_option maxRecDepth 100000 in
set_option maxHeartbeats 4000000 in
/-- container/heap.Pop -/
theorem hpop (x0 : Value) (w : World) (K : Value → World → Prop)
    (h : methC Try.prog x0 "Len" #[] w fun (v0 : Value) (w1 : World) ↦ ∃ (n2 : Int), v0 = .int .i64 n2 ∧ methC Try.prog x0 "Swap" #[.int .i64 0, .int .i64 (IntKind.wrap IntKind.i64 (n2 - 1))] w1 fun (v3 : Value) (w4 : World) ↦ v3 = .tuple #[] ∧ callC Try.prog 56 #[x0, .int .i64 0, .int .i64 (IntKind.wrap IntKind.i64 (n2 - 1))] w4 fun (v5 : Value) (w6 : World) ↦ ∃ (b7 : Bool), v5 = .bool b7 ∧ methC Try.prog x0 "Pop" #[] w6 fun (v8 : Value) (w9 : World) ↦ ∃ (v10 : Value), v8 = v10 ∧ K v10 w9) :
    callC Try.prog 50 #[x0] w K :=
  calls_of_vc ⟨[], [], []⟩ Try.func50 (of_eq h (by kernel_rfl))

set_option maxRecDepth 100000 in
set_option maxHeartbeats 4000000 in
/-- container/heap.Push -/
theorem hpush (x0 : Value) (x1 : Value) (w : World) (K : Value → World → Prop)
    (h : methC Try.prog x0 "Push" #[x1] w fun (v0 : Value) (w1 : World) ↦ v0 = .tuple #[] ∧ methC Try.prog x0 "Len" #[] w1 fun (v2 : Value) (w3 : World) ↦ ∃ (n4 : Int), v2 = .int .i64 n4 ∧ callC Try.prog 60 #[x0, .int .i64 (IntKind.wrap IntKind.i64 (n4 - 1))] w3 fun (v5 : Value) (w6 : World) ↦ v5 = .tuple #[] ∧ K (.tuple #[]) w6) :
    callC Try.prog 55 #[x0, x1] w K :=
  calls_of_vc ⟨[], [], []⟩ Try.func55 (of_eq h (by kernel_rfl))

set_option maxRecDepth 100000 in
set_option maxHeartbeats 4000000 in
/-- container/heap.down -/
theorem hdown (x0 : Value) (x1 : Int) (x2 : Int) (w : World) (K : Value → World → Prop)
    (h : ∃ (x0_1 : Int → World → Prop), (∀ (n1 : Int) (w2 : World), x0_1 n1 w2 → ∀ (x3 : Nat → Value), K (.bool (decide (n1 > x1))) w2) ∧ ∃ (x4 : Int → World → Prop), ∃ (x5 : Int → World → Nat), x4 x1 w ∧ ∀ (n6 : Int) (w7 : World), x4 n6 w7 → ∀ (x8 : Nat → Value), ∃ (x9 : World → Prop), (∀ (w10 : World), x9 w10 → ∀ (x11 : Nat → Value), ∃ (x12 : Int → World → Prop), (∀ (n13 : Int) (w14 : World), x12 n13 w14 → ∀ (x15 : Nat → Value), methC Try.prog x0 "Less" #[.int .i64 n13, .int .i64 n6] w14 fun (v16 : Value) (w17 : World) ↦ ∃ (b18 : Bool), v16 = .bool b18 ∧ brC (!b18) (x0_1 n6 w17) (methC Try.prog x0 "Swap" #[.int .i64 n6, .int .i64 n13] w17 fun (v19 : Value) (w20 : World) ↦ v19 = .tuple #[] ∧ x4 n13 w20 ∧ x5 n13 w20 < x5 n6 w7)) ∧ ∃ (x21 : Bool → World → Prop), (∀ (b22 : Bool) (w23 : World), x21 b22 w23 → ∀ (x24 : Nat → Value), brC b22 (x12 (IntKind.wrap IntKind.i64 (IntKind.wrap IntKind.i64 (IntKind.wrap IntKind.i64 (2 * n6) + 1) + 1)) w23) (x12 (IntKind.wrap IntKind.i64 (IntKind.wrap IntKind.i64 (2 * n6) + 1)) w23)) ∧ brC (decide (IntKind.wrap IntKind.i64 (IntKind.wrap IntKind.i64 (IntKind.wrap IntKind.i64 (2 * n6) + 1) + 1) < x2)) (methC Try.prog x0 "Less" #[.int .i64 (IntKind.wrap IntKind.i64 (IntKind.wrap IntKind.i64 (IntKind.wrap IntKind.i64 (2 * n6) + 1) + 1)), .int .i64 (IntKind.wrap IntKind.i64 (IntKind.wrap IntKind.i64 (2 * n6) + 1))] w10 fun (v25 : Value) (w26 : World) ↦ ∃ (b27 : Bool), v25 = .bool b27 ∧ x21 b27 w26) (x21 false w10)) ∧ brC (decide (IntKind.wrap IntKind.i64 (IntKind.wrap IntKind.i64 (2 * n6) + 1) ≥ x2)) (x0_1 n6 w7) (brC (decide (IntKind.wrap IntKind.i64 (IntKind.wrap IntKind.i64 (2 * n6) + 1) < 0)) (x0_1 n6 w7) (x9 w7))) :
    callC Try.prog 56 #[x0, .int .i64 x1, .int .i64 x2] w K :=
  calls_of_vc ⟨[(11, [(7, .int .i64)]), (4, []), (8, [(9, .int .i64)]), (7, [(33, .bool)])], [(2, [(7, .int .i64)])], []⟩ Try.func56 (of_eq h (by kernel_rfl))

set_option maxRecDepth 100000 in
set_option maxHeartbeats 4000000 in
/-- container/heap.up -/
theorem hup (x0 : Value) (x1 : Int) (w : World) (K : Value → World → Prop)
    (h : ∃ (x0_1 : Int → World → Prop), ∃ (x1_1 : Int → World → Nat), x0_1 x1 w ∧ ∀ (n2 : Int) (w3 : World), x0_1 n2 w3 → ∀ (x4 : Nat → Value), ∃ (x5 : World → Prop), (∀ (w6 : World), x5 w6 → ∀ (x7 : Nat → Value), methC Try.prog x0 "Swap" #[.int .i64 (IntKind.wrap IntKind.i64 (Int.tdiv (IntKind.wrap IntKind.i64 (n2 - 1)) 2)), .int .i64 n2] w6 fun (v8 : Value) (w9 : World) ↦ v8 = .tuple #[] ∧ x0_1 (IntKind.wrap IntKind.i64 (Int.tdiv (IntKind.wrap IntKind.i64 (n2 - 1)) 2)) w9 ∧ x1_1 (IntKind.wrap IntKind.i64 (Int.tdiv (IntKind.wrap IntKind.i64 (n2 - 1)) 2)) w9 < x1_1 n2 w3) ∧ brC (IntKind.wrap IntKind.i64 (Int.tdiv (IntKind.wrap IntKind.i64 (n2 - 1)) 2) == n2) (K (.tuple #[]) w3) (methC Try.prog x0 "Less" #[.int .i64 n2, .int .i64 (IntKind.wrap IntKind.i64 (Int.tdiv (IntKind.wrap IntKind.i64 (n2 - 1)) 2))] w3 fun (v10 : Value) (w11 : World) ↦ ∃ (b12 : Bool), v10 = .bool b12 ∧ brC (!b12) (K (.tuple #[]) w11) (x5 w11))) :
    callC Try.prog 60 #[x0, .int .i64 x1] w K :=
  calls_of_vc ⟨[(2, [])], [(0, [(1, .int .i64)])], []⟩ Try.func60 (of_eq h (by kernel_rfl))

set_option maxRecDepth 100000 in
set_option maxHeartbeats 4000000 in
/-- (*lodger/plan.places).Less -/
theorem plless (x0 : Option Addr) (x1 : Int) (x2 : Int) (w : World) (K : Value → World → Prop)
    (h : drawC w fun (w0 : World) ↦ ptrC x0 fun (a1 : Addr) ↦ ∃ (p2 : Option Addr), ∃ (k3 : Nat), ∃ (k4 : Nat), World.cell? w0 a1 = some (.slice p2 k3 k4) ∧ idxC x1 k3 (ptrC p2 fun (a5 : Addr) ↦ ∃ (n6 : Int), World.cell? w0 (Addr.add a5 (Int.toNat x1 * 1)) = some (.int .i64 n6) ∧ ptrC x0 fun (a7 : Addr) ↦ ∃ (p8 : Option Addr), ∃ (k9 : Nat), ∃ (k10 : Nat), World.cell? w0 a7 = some (.slice p8 k9 k10) ∧ idxC x2 k9 (ptrC p8 fun (a11 : Addr) ↦ ∃ (n12 : Int), World.cell? w0 (Addr.add a11 (Int.toNat x2 * 1)) = some (.int .i64 n12) ∧ K (.bool (decide (n6 < n12))) w0))) :
    callC Try.prog 98 #[.pointer x0, .int .i64 x1, .int .i64 x2] w K :=
  calls_of_vc ⟨[], [], []⟩ Try.func98 (of_eq h (by kernel_rfl))

set_option maxRecDepth 100000 in
set_option maxHeartbeats 4000000 in
/-- (*lodger/plan.places).Pop -/
theorem plpop (x0 : Option Addr) (w : World) (K : Value → World → Prop)
    (h : ptrC x0 fun (a0 : Addr) ↦ ∃ (p1 : Option Addr), ∃ (k2 : Nat), ∃ (k3 : Nat), World.cell? w a0 = some (.slice p1 k2 k3) ∧ ptrC x0 fun (a4 : Addr) ↦ ∃ (p5 : Option Addr), ∃ (k6 : Nat), ∃ (k7 : Nat), World.cell? w a4 = some (.slice p5 k6 k7) ∧ idxC (IntKind.wrap IntKind.i64 ((↑k2 : Int) - 1)) k6 (ptrC p5 fun (a8 : Addr) ↦ ∃ (n9 : Int), World.cell? w (Addr.add a8 (Int.toNat (IntKind.wrap IntKind.i64 ((↑k2 : Int) - 1)) * 1)) = some (.int .i64 n9) ∧ ptrC x0 fun (a10 : Addr) ↦ ∃ (p11 : Option Addr), ∃ (k12 : Nat), ∃ (k13 : Nat), World.cell? w a10 = some (.slice p11 k12 k13) ∧ slcC 0 (IntKind.wrap IntKind.i64 ((↑k2 : Int) - 1)) k13 (ptrC x0 fun (a14 : Addr) ↦ stC w a14 (.slice (subP p11 k13 0 1) (Int.toNat (IntKind.wrap IntKind.i64 ((↑k2 : Int) - 1)) - 0) (k13 - 0)) fun (w15 : World) ↦ K (.iface 3 (.int .i64 n9)) w15))) :
    callC Try.prog 99 #[.pointer x0] w K :=
  calls_of_vc ⟨[], [], []⟩ Try.func99 (of_eq h (by kernel_rfl))

set_option maxRecDepth 100000 in
set_option maxHeartbeats 4000000 in
/-- (*lodger/plan.places).Push -/
theorem plpush (x0 : Option Addr) (x1 : Value) (w : World) (K : Value → World → Prop)
    (h : drawC w fun (w0 : World) ↦ ∃ (x1_1 : World → Prop), ptrC x0 fun (a2 : Addr) ↦ ∃ (p3 : Option Addr), ∃ (k4 : Nat), ∃ (k5 : Nat), World.cell? w0 a2 = some (.slice p3 k4 k5) ∧ (∀ (w6 : World), x1_1 w6 → Lds Try.prog 66 w6 a2 (.slice p3 k4 k5)) ∧ (runC Try.prog (Instr.typeAssert x1 20 3 false) w0 fun (v7 : Value) (w8 : World) ↦ ∃ (n9 : Int), v7 = .int .i64 n9 ∧ x1_1 w8 ∧ (newC w8 (Obj.cells #[.int .i64 n9] 3) fun (k10 : Nat) (w11 : World) ↦ x1_1 w11 ∧ (runC Try.prog (Builtin.append_ #[66, 66] 66 #[.slice p3 k4 k5, .slice (some (Addr.mk k10 0 none)) 1 1]) w11 fun (v12 : Value) (w13 : World) ↦ ∃ (p14 : Option Addr), ∃ (k15 : Nat), ∃ (k16 : Nat), v12 = .slice p14 k15 k16 ∧ ptrC x0 fun (a17 : Addr) ↦ (stC w13 a17 (.slice p14 k15 k16) fun (w18 : World) ↦ K (.tuple #[]) w18) ∧ True) ∧ True) ∧ True) ∧ True) :
    callC Try.prog 100 #[.pointer x0, x1] w K :=
  calls_of_vc ⟨[], [], [(0, .held)]⟩ Try.func100 (of_eq h (by kernel_rfl))

set_option maxRecDepth 100000 in
set_option maxHeartbeats 4000000 in
/-- (*lodger/plan.places).Swap -/
theorem plswap (x0 : Option Addr) (x1 : Int) (x2 : Int) (w : World) (K : Value → World → Prop)
    (h : drawC w fun (w0 : World) ↦ ∃ (x1_1 : World → Prop), ptrC x0 fun (a2 : Addr) ↦ ∃ (p3 : Option Addr), ∃ (k4 : Nat), ∃ (k5 : Nat), World.cell? w0 a2 = some (.slice p3 k4 k5) ∧ (∀ (w6 : World), x1_1 w6 → Lds Try.prog 66 w6 a2 (.slice p3 k4 k5)) ∧ ptrC x0 fun (a7 : Addr) ↦ ∃ (p8 : Option Addr), ∃ (k9 : Nat), ∃ (k10 : Nat), World.cell? w0 a7 = some (.slice p8 k9 k10) ∧ (∀ (w11 : World), x1_1 w11 → Lds Try.prog 66 w11 a7 (.slice p8 k9 k10)) ∧ ptrC x0 fun (a12 : Addr) ↦ ∃ (p13 : Option Addr), ∃ (k14 : Nat), ∃ (k15 : Nat), World.cell? w0 a12 = some (.slice p13 k14 k15) ∧ (∀ (w16 : World), x1_1 w16 → Lds Try.prog 66 w16 a12 (.slice p13 k14 k15)) ∧ idxC x2 k14 (ptrC p13 fun (a17 : Addr) ↦ ∃ (n18 : Int), World.cell? w0 (Addr.add a17 (Int.toNat x2 * 1)) = some (.int .i64 n18) ∧ (∀ (w19 : World), x1_1 w19 → Lds Try.prog 3 w19 (Addr.add a17 (Int.toNat x2 * 1)) (.int .i64 n18)) ∧ ptrC x0 fun (a20 : Addr) ↦ ∃ (p21 : Option Addr), ∃ (k22 : Nat), ∃ (k23 : Nat), World.cell? w0 a20 = some (.slice p21 k22 k23) ∧ (∀ (w24 : World), x1_1 w24 → Lds Try.prog 66 w24 a20 (.slice p21 k22 k23)) ∧ idxC x1 k22 (ptrC p21 fun (a25 : Addr) ↦ ∃ (n26 : Int), World.cell? w0 (Addr.add a25 (Int.toNat x1 * 1)) = some (.int .i64 n26) ∧ (∀ (w27 : World), x1_1 w27 → Lds Try.prog 3 w27 (Addr.add a25 (Int.toNat x1 * 1)) (.int .i64 n26)) ∧ idxC x1 k4 (ptrC p3 fun (a28 : Addr) ↦ (stC w0 (Addr.add a28 (Int.toNat x1 * 1)) (.int .i64 n18) fun (w29 : World) ↦ idxC x2 k9 (ptrC p8 fun (a30 : Addr) ↦ (stC w29 (Addr.add a30 (Int.toNat x2 * 1)) (.int .i64 n26) fun (w31 : World) ↦ K (.tuple #[]) w31) ∧ True)) ∧ True)))) :
    callC Try.prog 101 #[.pointer x0, .int .i64 x1, .int .i64 x2] w K :=
  calls_of_vc ⟨[], [], [(0, .held)]⟩ Try.func101 (of_eq h (by kernel_rfl))

end Go.Proofs.Ytkacocaekffdgaa
