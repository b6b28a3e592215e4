/- The texts that the engine's theorem comes to at each function: written by program (gen.py), checked by the kernel. -/
import Derived.Test.YtkacocaekffdgaaSz
import Derived.Test.YtkacocaekffdgaaProg
import Derived.KernelRfl
namespace Go.Proofs.Ytkacocaekffdgaa
open Go.SX


set_option maxRecDepth 100000 in
set_option maxHeartbeats 4000000 in
/-- lodger/graph.New -/
theorem gnew (x0 : Option Addr) (x0l : Nat) (x0c : Nat) (x1 : Option Addr) (x1l : Nat) (x1c : Nat) (w : World) (K : Value → World → Prop)
    (h : brC ((↑x0l : Int) != (↑x1l : Int)) (K (.pointer none) w) (newC w (Obj.map #[] 0) fun (k0 : Nat) (w1 : World) ↦ newC w1 (Obj.cells #[.map (some k0)] 60) fun (k2 : Nat) (w3 : World) ↦ ∃ (x4 : Int → World → Prop), ∃ (x5 : Int → World → Nat), x4 0 w3 ∧ ∀ (n6 : Int) (w7 : World), x4 n6 w7 → ∀ (x8 : Nat → Value), brC (decide (n6 < (↑x0l : Int))) (idxC n6 x0l (ptrC x0 fun (a9 : Addr) ↦ ∃ (s10 : ByteArray), World.cell? w7 (Addr.add a9 (Int.toNat n6 * 1)) = some (.string s10) ∧ ∃ (p11 : Option Nat), World.cell? w7 (Addr.mk k2 0 none) = some (.map p11) ∧ runC Try.prog (Instr.mapUpdate 58 (.map p11) (.string s10) (.slice none 0 0)) w7 fun (x12 : PUnit) (w13 : World) ↦ x4 (IntKind.wrap IntKind.i64 (n6 + 1)) w13 ∧ x5 (IntKind.wrap IntKind.i64 (n6 + 1)) w13 < x5 n6 w7)) (∃ (p14 : Option Nat), World.cell? w7 (Addr.mk k2 0 none) = some (.map p14) ∧ runR Try.prog (Builtin.len_ #[58] 3 #[.map p14]) (some w7) fun (v15 : Value) ↦ ∃ (n16 : Int), v15 = .int .i64 n16 ∧ brC (n16 != (↑x0l : Int)) (K (.pointer none) w7) (∃ (x17 : Int → World → Prop), ∃ (x18 : Int → World → Nat), x17 0 w7 ∧ ∀ (n19 : Int) (w20 : World), x17 n19 w20 → ∀ (x21 : Nat → Value), brC (decide (n19 < (↑x0l : Int))) (idxC n19 x0l (ptrC x0 fun (a22 : Addr) ↦ ∃ (s23 : ByteArray), World.cell? w20 (Addr.add a22 (Int.toNat n19 * 1)) = some (.string s23) ∧ idxC n19 x1l (ptrC x1 fun (a24 : Addr) ↦ ∃ (p25 : Option Addr), ∃ (k26 : Nat), ∃ (k27 : Nat), World.cell? w20 (Addr.add a24 (Int.toNat n19 * 1)) = some (.slice p25 k26 k27) ∧ ∃ (x28 : Int → World → Prop), ∃ (x29 : Int → World → Nat), x28 0 w20 ∧ ∀ (n30 : Int) (w31 : World), x28 n30 w31 → ∀ (x32 : Nat → Value), brC (decide (n30 < (↑k26 : Int))) (∃ (x33 : World → Prop), (∀ (w34 : World), x33 w34 → ∀ (x35 : Nat → Value), x28 (IntKind.wrap IntKind.i64 (n30 + 1)) w34 ∧ x29 (IntKind.wrap IntKind.i64 (n30 + 1)) w34 < x29 n30 w31) ∧ idxC n30 k26 (ptrC p25 fun (a36 : Addr) ↦ ∃ (s37 : ByteArray), World.cell? w31 (Addr.add a36 (Int.toNat n30 * 1)) = some (.string s37) ∧ ∃ (p38 : Option Nat), World.cell? w31 (Addr.mk k2 0 none) = some (.map p38) ∧ runR Try.prog (Instr.lookup 58 (.map p38) (.string s37) true) (some w31) fun (v39 : Value) ↦ ∃ (p40 : Option Addr), ∃ (k41 : Nat), ∃ (k42 : Nat), ∃ (b43 : Bool), v39 = .tuple #[.slice p40 k41 k42, .bool b43] ∧ ∃ (x44 : Bool → World → Prop), (∀ (b45 : Bool) (w46 : World), x44 b45 w46 → ∀ (x47 : Nat → Value), brC b45 (drawC w46 fun (w48 : World) ↦ ∃ (x49 : World → Prop), ∃ (p50 : Option Nat), World.cell? w48 (Addr.mk k2 0 none) = some (.map p50) ∧ (∀ (w51 : World), x49 w51 → Lds Try.prog 58 w51 (Addr.mk k2 0 none) (.map p50)) ∧ ∃ (p52 : Option Nat), World.cell? w48 (Addr.mk k2 0 none) = some (.map p52) ∧ (∀ (w53 : World), x49 w53 → Lds Try.prog 58 w53 (Addr.mk k2 0 none) (.map p52)) ∧ runR Try.prog (Instr.lookup 58 (.map p52) (.string s23) false) (some w48) fun (v54 : Value) ↦ ∃ (p55 : Option Addr), ∃ (k56 : Nat), ∃ (k57 : Nat), v54 = .slice p55 k56 k57 ∧ (∀ (w58 : World), x49 w58 → Lks Try.prog 58 (.map p52) (.string s23) false w58 (.slice p55 k56 k57)) ∧ (newC w48 (Obj.cells #[.string s37] 9) fun (k59 : Nat) (w60 : World) ↦ x49 w60 ∧ (runC Try.prog (Builtin.append_ #[22, 22] 22 #[.slice p55 k56 k57, .slice (some (Addr.mk k59 0 none)) 1 1]) w60 fun (v61 : Value) (w62 : World) ↦ ∃ (p63 : Option Addr), ∃ (k64 : Nat), ∃ (k65 : Nat), v61 = .slice p63 k64 k65 ∧ x49 w62 ∧ (runC Try.prog (Instr.mapUpdate 58 (.map p50) (.string s23) (.slice p63 k64 k65)) w62 fun (x66 : PUnit) (w67 : World) ↦ x33 w67) ∧ True) ∧ True) ∧ True) (x33 w46)) ∧ brC b43 (∃ (p68 : Option Nat), World.cell? w31 (Addr.mk k2 0 none) = some (.map p68) ∧ runR Try.prog (Instr.lookup 58 (.map p68) (.string s23) false) (some w31) fun (v69 : Value) ↦ ∃ (p70 : Option Addr), ∃ (k71 : Nat), ∃ (k72 : Nat), v69 = .slice p70 k71 k72 ∧ callC Try.prog 36 #[.slice p70 k71 k72, .string s37] w31 fun (v73 : Value) (w74 : World) ↦ ∃ (b75 : Bool), v73 = .bool b75 ∧ x44 (!b75) w74) (x44 false w31))) (x17 (IntKind.wrap IntKind.i64 (n19 + 1)) w31 ∧ x18 (IntKind.wrap IntKind.i64 (n19 + 1)) w31 < x18 n19 w20)))) (K (.pointer (some (Addr.mk k2 0 none))) w20))))) :
    callC Try.prog 12 #[.slice x0 x0l x0c, .slice x1 x1l x1c] w K :=
  calls_of_vc ⟨[(20, []), (19, [(78, .bool)])], [(5, [(24, .int .i64)]), (12, [(44, .int .i64)]), (15, [(54, .int .i64)])], [(19, .held)]⟩ Try.func12 (of_eq h (by kernel_rfl))

set_option maxRecDepth 100000 in
set_option maxHeartbeats 4000000 in
/-- (*lodger/graph.Graph).Cyclic -/
theorem gcyclic (x0 : Option Addr) (x1 : ByteArray) (w : World) (K : Value → World → Prop)
    (h : newC w (Obj.cells #[.pointer x0] 26) fun (k0 : Nat) (w1 : World) ↦ ∃ (p2 : Option Addr), World.cell? w1 (Addr.mk k0 0 none) = some (.pointer p2) ∧ brC (Option.isNone p2) (K (.bool false) w1) (newC w1 (Obj.map #[] 0) fun (k3 : Nat) (w4 : World) ↦ newC w4 (Obj.cells #[.map none] 69) fun (k5 : Nat) (w6 : World) ↦ stC w6 (Addr.mk k5 0 none) (.map (some k3)) fun (w7 : World) ↦ newC w7 (Obj.cells #[.nilFunc] 70) fun (k8 : Nat) (w9 : World) ↦ stC w9 (Addr.mk k8 0 none) (.func (Fn.func 40) #[] #[.pointer (some (Addr.mk k0 0 none)), .pointer (some (Addr.mk k5 0 none)), .pointer (some (Addr.mk k8 0 none))]) fun (w10 : World) ↦ ∃ (v11 : Value), World.cell? w10 (Addr.mk k8 0 none) = some v11 ∧ invC Try.prog v11 #[.string x1] w10 fun (v12 : Value) (w13 : World) ↦ v12 = .tuple #[] ∧ ∃ (p14 : Option Nat), World.cell? w13 (Addr.mk k5 0 none) = some (.map p14) ∧ runR Try.prog (Instr.lookup 69 (.map p14) (.string x1) false) (some w13) fun (v15 : Value) ↦ ∃ (n16 : Int), v15 = .int .i64 n16 ∧ K (.bool (decide (n16 > 0))) w13)) :
    callC Try.prog 15 #[.pointer x0, .string x1] w K :=
  calls_of_vc ⟨[], [], []⟩ Try.func15 (of_eq h (by kernel_rfl))

set_option maxRecDepth 100000 in
set_option maxHeartbeats 4000000 in
/-- (*lodger/graph.Graph).Cyclic$1 -/
theorem gwalk (x0 : ByteArray) (c0b : Nat) (c0o : Nat) (c1b : Nat) (c1o : Nat) (c2b : Nat) (c2o : Nat) (w : World) (K : Value → World → Prop)
    (h : ∃ (p0 : Option Addr), World.cell? w (Addr.mk c0b c0o none) = some (.pointer p0) ∧ ptrC p0 fun (a1 : Addr) ↦ ∃ (p2 : Option Nat), World.cell? w a1 = some (.map p2) ∧ runR Try.prog (Instr.lookup 58 (.map p2) (.string x0) false) (some w) fun (v3 : Value) ↦ ∃ (p4 : Option Addr), ∃ (k5 : Nat), ∃ (k6 : Nat), v3 = .slice p4 k5 k6 ∧ ∃ (x7 : Int → World → Prop), ∃ (x8 : Int → World → Nat), x7 0 w ∧ ∀ (n9 : Int) (w10 : World), x7 n9 w10 → ∀ (x11 : Nat → Value), brC (decide (n9 < (↑k5 : Int))) (∃ (x12 : World → Prop), (∀ (w13 : World), x12 w13 → ∀ (x14 : Nat → Value), x7 (IntKind.wrap IntKind.i64 (n9 + 1)) w13 ∧ x8 (IntKind.wrap IntKind.i64 (n9 + 1)) w13 < x8 n9 w10) ∧ idxC n9 k5 (ptrC p4 fun (a15 : Addr) ↦ ∃ (s16 : ByteArray), World.cell? w10 (Addr.add a15 (Int.toNat n9 * 1)) = some (.string s16) ∧ ∃ (p17 : Option Nat), World.cell? w10 (Addr.mk c1b c1o none) = some (.map p17) ∧ runR Try.prog (Instr.lookup 69 (.map p17) (.string s16) false) (some w10) fun (v18 : Value) ↦ ∃ (n19 : Int), v18 = .int .i64 n19 ∧ brC (n19 == 0) (∃ (p20 : Option Nat), World.cell? w10 (Addr.mk c1b c1o none) = some (.map p20) ∧ runC Try.prog (Instr.mapUpdate 69 (.map p20) (.string s16) (.int .i64 1)) w10 fun (x21 : PUnit) (w22 : World) ↦ ∃ (v23 : Value), World.cell? w22 (Addr.mk c2b c2o none) = some v23 ∧ invC Try.prog v23 #[.string s16] w22 fun (v24 : Value) (w25 : World) ↦ v24 = .tuple #[] ∧ x12 w25) (x12 w10))) (K (.tuple #[]) w10)) :
    callC Try.prog 40 #[.string x0, .pointer (some (Addr.mk c0b c0o none)), .pointer (some (Addr.mk c1b c1o none)), .pointer (some (Addr.mk c2b c2o none))] w K :=
  calls_of_vc ⟨[(6, [])], [(1, [(14, .int .i64)])], []⟩ Try.func40 (of_eq h (by kernel_rfl))

set_option maxRecDepth 100000 in
set_option maxHeartbeats 4000000 in
/-- (*lodger/graph.Graph).Above -/
theorem gabove (x0 : Option Addr) (x1 : ByteArray) (w : World) (K : Value → World → Prop)
    (h : brC (Option.isNone x0) (K (.slice none 0 0) w) (newC w (Obj.map #[] 0) fun (k0 : Nat) (w1 : World) ↦ ptrC x0 fun (a2 : Addr) ↦ ∃ (p3 : Option Nat), World.cell? w1 a2 = some (.map p3) ∧ runC Try.prog (Instr.range 58 (.map p3)) w1 fun (v4 : Value) (w5 : World) ↦ ∃ (x6 : World → Prop), ∃ (x7 : World → Nat), x6 w5 ∧ ∀ (w8 : World), x6 w8 → ∀ (x9 : Nat → Value), runC Try.prog (Instr.next v4 false 0) w8 fun (v10 : Value) (w11 : World) ↦ (v10 = .tuple #[.bool false] ∧ callC Try.prog 42 #[.map (some k0)] w11 fun (v12 : Value) (w13 : World) ↦ ∃ (p14 : Option Addr), ∃ (k15 : Nat), ∃ (k16 : Nat), v12 = .slice p14 k15 k16 ∧ K (.slice p14 k15 k16) w13) ∨ ∃ (v17 : Value), ∃ (v18 : Value), v10 = .tuple #[.bool true, v17, v18] ∧ runC Try.prog (Instr.entry v4) w11 fun (v19 : Value) (w20 : World) ↦ ∃ (s21 : ByteArray), ∃ (p22 : Option Addr), ∃ (k23 : Nat), ∃ (k24 : Nat), v19 = .tuple #[.string s21, .slice p22 k23 k24] ∧ callC Try.prog 36 #[.slice p22 k23 k24, .string x1] w20 fun (v25 : Value) (w26 : World) ↦ ∃ (b27 : Bool), v25 = .bool b27 ∧ brC b27 (runC Try.prog (Instr.mapUpdate 69 (.map (some k0)) (.string s21) (.int .i64 1)) w26 fun (x28 : PUnit) (w29 : World) ↦ x6 w29 ∧ x7 w29 < x7 w8) (x6 w26 ∧ x7 w26 < x7 w8))) :
    callC Try.prog 18 #[.pointer x0, .string x1] w K :=
  calls_of_vc ⟨[], [(5, [])], [(5, .next 0 0), (6, .next 10 23)]⟩ Try.func18 (of_eq h (by kernel_rfl))

set_option maxRecDepth 100000 in
set_option maxHeartbeats 4000000 in
/-- (*lodger/graph.Graph).Order -/
theorem gorder (x0 : Option Addr) (w : World) (K : Value → World → Prop)
    (h : brC (Option.isNone x0) (K (.slice none 0 0) w) (newC w (Obj.map #[] 0) fun (k0 : Nat) (w1 : World) ↦ newC w1 (Obj.map #[] 0) fun (k2 : Nat) (w3 : World) ↦ newC w3 (Obj.cells #[.map none] 69) fun (k4 : Nat) (w5 : World) ↦ stC w5 (Addr.mk k4 0 none) (.map (some k2)) fun (w6 : World) ↦ ptrC x0 fun (a7 : Addr) ↦ ∃ (p8 : Option Nat), World.cell? w6 a7 = some (.map p8) ∧ runC Try.prog (Instr.range 58 (.map p8)) w6 fun (v9 : Value) (w10 : World) ↦ ∃ (x11 : World → Prop), ∃ (x12 : World → Nat), x11 w10 ∧ ∀ (w13 : World), x11 w13 → ∀ (x14 : Nat → Value), runC Try.prog (Instr.next v9 false 0) w13 fun (v15 : Value) (w16 : World) ↦ (v15 = .tuple #[.bool false] ∧ callC Try.prog 42 #[.map (some k0)] w16 fun (v17 : Value) (w18 : World) ↦ ∃ (p19 : Option Addr), ∃ (k20 : Nat), ∃ (k21 : Nat), v17 = .slice p19 k20 k21 ∧ ∃ (x22 : Option Addr → Nat → Nat → World → Prop), ∃ (x23 : Option Addr → Nat → Nat → World → Nat), x22 p19 k20 k21 w18 ∧ ∀ (p24 : Option Addr) (k25 k26 : Nat) (w27 : World), x22 p24 k25 k26 w27 → ∀ (x28 : Nat → Value), ∃ (p29 : Option Nat), World.cell? w27 (Addr.mk k4 0 none) = some (.map p29) ∧ runR Try.prog (Builtin.len_ #[69] 3 #[.map p29]) (some w27) fun (v30 : Value) ↦ ∃ (n31 : Int), v30 = .int .i64 n31 ∧ brC (decide (n31 > 0)) (∃ (p32 : Option Nat), World.cell? w27 (Addr.mk k4 0 none) = some (.map p32) ∧ callC Try.prog 42 #[.map p32] w27 fun (v33 : Value) (w34 : World) ↦ ∃ (p35 : Option Addr), ∃ (k36 : Nat), ∃ (k37 : Nat), v33 = .slice p35 k36 k37 ∧ ∃ (x38 : Option Addr → Nat → Nat → Int → World → Prop), ∃ (x39 : Option Addr → Nat → Nat → Int → World → Nat), x38 p24 k25 k26 0 w34 ∧ ∀ (p40 : Option Addr) (k41 k42 : Nat) (n43 : Int) (w44 : World), x38 p40 k41 k42 n43 w44 → ∀ (x45 : Nat → Value), brC (decide (n43 < (↑k36 : Int))) (idxC n43 k36 (ptrC p35 fun (a46 : Addr) ↦ ∃ (s47 : ByteArray), World.cell? w44 (Addr.add a46 (Int.toNat n43 * 1)) = some (.string s47) ∧ ptrC x0 fun (a48 : Addr) ↦ ∃ (p49 : Option Nat), World.cell? w44 a48 = some (.map p49) ∧ runR Try.prog (Instr.lookup 58 (.map p49) (.string s47) false) (some w44) fun (v50 : Value) ↦ ∃ (p51 : Option Addr), ∃ (k52 : Nat), ∃ (k53 : Nat), v50 = .slice p51 k52 k53 ∧ callC Try.prog 44 #[.slice p51 k52 k53, .func (Fn.func 45) #[] #[.pointer (some (Addr.mk k4 0 none))]] w44 fun (v54 : Value) (w55 : World) ↦ ∃ (b56 : Bool), v54 = .bool b56 ∧ brC (!b56) (∃ (p57 : Option Nat), World.cell? w55 (Addr.mk k4 0 none) = some (.map p57) ∧ runC Try.prog (Builtin.delete_ #[69, 9] 0 #[.map p57, .string s47]) w55 fun (v58 : Value) (w59 : World) ↦ newC w59 (Obj.cells #[.string s47] 9) fun (k60 : Nat) (w61 : World) ↦ runC Try.prog (Builtin.append_ #[22, 22] 22 #[.slice p40 k41 k42, .slice (some (Addr.mk k60 0 none)) 1 1]) w61 fun (v62 : Value) (w63 : World) ↦ ∃ (p64 : Option Addr), ∃ (k65 : Nat), ∃ (k66 : Nat), v62 = .slice p64 k65 k66 ∧ x22 p64 k65 k66 w63 ∧ x23 p64 k65 k66 w63 < x23 p24 k25 k26 w27) (x38 p40 k41 k42 (IntKind.wrap IntKind.i64 (n43 + 1)) w55 ∧ x39 p40 k41 k42 (IntKind.wrap IntKind.i64 (n43 + 1)) w55 < x39 p40 k41 k42 n43 w44))) (x22 p40 k41 k42 w44 ∧ x23 p40 k41 k42 w44 < x23 p24 k25 k26 w27)) (K (.slice p24 k25 k26) w27)) ∨ ∃ (v67 : Value), ∃ (v68 : Value), v15 = .tuple #[.bool true, v67, v68] ∧ runC Try.prog (Instr.entry v9) w16 fun (v69 : Value) (w70 : World) ↦ ∃ (s71 : ByteArray), ∃ (v72 : Value), v69 = .tuple #[.string s71, v72] ∧ callC Try.prog 15 #[.pointer x0, .string s71] w70 fun (v73 : Value) (w74 : World) ↦ ∃ (b75 : Bool), v73 = .bool b75 ∧ brC b75 (runC Try.prog (Instr.mapUpdate 69 (.map (some k0)) (.string s71) (.int .i64 1)) w74 fun (x76 : PUnit) (w77 : World) ↦ x11 w77 ∧ x12 w77 < x12 w13) (∃ (p78 : Option Nat), World.cell? w74 (Addr.mk k4 0 none) = some (.map p78) ∧ runC Try.prog (Instr.mapUpdate 69 (.map p78) (.string s71) (.int .i64 1)) w74 fun (x79 : PUnit) (w80 : World) ↦ x11 w80 ∧ x12 w80 < x12 w13))) :
    callC Try.prog 20 #[.pointer x0] w K :=
  calls_of_vc ⟨[], [(5, []), (11, [(6, .slice)]), (13, [(6, .slice), (37, .int .i64)])], [(5, .next 0 0), (6, .next 10 0)]⟩ Try.func20 (of_eq h (by kernel_rfl))

set_option maxRecDepth 100000 in
set_option maxHeartbeats 4000000 in
/-- lodger/graph.rising[string] -/
theorem rising (x0 : Option Nat) (w : World) (K : Value → World → Prop)
    (h : callC Try.prog 53 #[.map x0] w fun (v0 : Value) (w1 : World) ↦ ∃ (v2 : Value), v0 = v2 ∧ callC Try.prog 52 #[v2] w1 fun (v3 : Value) (w4 : World) ↦ ∃ (p5 : Option Addr), ∃ (k6 : Nat), ∃ (k7 : Nat), v3 = .slice p5 k6 k7 ∧ K (.slice p5 k6 k7) w4) :
    callC Try.prog 42 #[.map x0] w K :=
  calls_of_vc ⟨[], [], []⟩ Try.func42 (of_eq h (by kernel_rfl))

set_option maxRecDepth 100000 in
set_option maxHeartbeats 4000000 in
/-- slices.Contains[[]string,string] -/
theorem contains (x0 : Option Addr) (x0l : Nat) (x0c : Nat) (x1 : ByteArray) (w : World) (K : Value → World → Prop)
    (h : callC Try.prog 51 #[.slice x0 x0l x0c, .string x1] w fun (v0 : Value) (w1 : World) ↦ ∃ (n2 : Int), v0 = .int .i64 n2 ∧ K (.bool (decide (n2 ≥ 0))) w1) :
    callC Try.prog 36 #[.slice x0 x0l x0c, .string x1] w K :=
  calls_of_vc ⟨[], [], []⟩ Try.func36 (of_eq h (by kernel_rfl))

set_option maxRecDepth 100000 in
set_option maxHeartbeats 4000000 in
/-- slices.Index[[]string,string] -/
theorem index (x0 : Option Addr) (x0l : Nat) (x0c : Nat) (x1 : ByteArray) (w : World) (K : Value → World → Prop)
    (h : ∃ (x0_1 : Int → World → Prop), ∃ (x1_1 : Int → World → Nat), x0_1 0 w ∧ ∀ (n2 : Int) (w3 : World), x0_1 n2 w3 → ∀ (x4 : Nat → Value), brC (decide (n2 < (↑x0l : Int))) (idxC n2 x0l (ptrC x0 fun (a5 : Addr) ↦ ∃ (s6 : ByteArray), World.cell? w3 (Addr.add a5 (Int.toNat n2 * 1)) = some (.string s6) ∧ brC (ByteArray.toList x1 == ByteArray.toList s6) (K (.int .i64 n2) w3) (x0_1 (IntKind.wrap IntKind.i64 (n2 + 1)) w3 ∧ x1_1 (IntKind.wrap IntKind.i64 (n2 + 1)) w3 < x1_1 n2 w3))) (K (.int .i64 (-1)) w3)) :
    callC Try.prog 51 #[.slice x0 x0l x0c, .string x1] w K :=
  calls_of_vc ⟨[], [(2, [(8, .int .i64)])], []⟩ Try.func51 (of_eq h (by kernel_rfl))

set_option maxRecDepth 100000 in
set_option maxHeartbeats 4000000 in
/-- slices.ContainsFunc[[]string,string] -/
theorem containsF (x0 : Option Addr) (x0l : Nat) (x0c : Nat) (x1 : Value) (w : World) (K : Value → World → Prop)
    (h : callC Try.prog 54 #[.slice x0 x0l x0c, x1] w fun (v0 : Value) (w1 : World) ↦ ∃ (n2 : Int), v0 = .int .i64 n2 ∧ K (.bool (decide (n2 ≥ 0))) w1) :
    callC Try.prog 44 #[.slice x0 x0l x0c, x1] w K :=
  calls_of_vc ⟨[], [], []⟩ Try.func44 (of_eq h (by kernel_rfl))

set_option maxRecDepth 100000 in
set_option maxHeartbeats 4000000 in
/-- slices.IndexFunc[[]string,string] -/
theorem indexF (x0 : Option Addr) (x0l : Nat) (x0c : Nat) (x1 : Value) (w : World) (K : Value → World → Prop)
    (h : ∃ (x0_1 : Int → World → Prop), ∃ (x1_1 : Int → World → Nat), x0_1 0 w ∧ ∀ (n2 : Int) (w3 : World), x0_1 n2 w3 → ∀ (x4 : Nat → Value), brC (decide (n2 < (↑x0l : Int))) (idxC n2 x0l (ptrC x0 fun (a5 : Addr) ↦ ∃ (s6 : ByteArray), World.cell? w3 (Addr.add a5 (Int.toNat n2 * 1)) = some (.string s6) ∧ invC Try.prog x1 #[.string s6] w3 fun (v7 : Value) (w8 : World) ↦ ∃ (b9 : Bool), v7 = .bool b9 ∧ brC b9 (K (.int .i64 n2) w8) (x0_1 (IntKind.wrap IntKind.i64 (n2 + 1)) w8 ∧ x1_1 (IntKind.wrap IntKind.i64 (n2 + 1)) w8 < x1_1 n2 w3))) (K (.int .i64 (-1)) w3)) :
    callC Try.prog 54 #[.slice x0 x0l x0c, x1] w K :=
  calls_of_vc ⟨[], [(2, [(8, .int .i64)])], []⟩ Try.func54 (of_eq h (by kernel_rfl))

set_option maxRecDepth 100000 in
set_option maxHeartbeats 4000000 in
/-- (*lodger/graph.Graph).Order$1 -/
theorem gorder1 (x0 : ByteArray) (c0b : Nat) (c0o : Nat) (w : World) (K : Value → World → Prop)
    (h : ∃ (p0 : Option Nat), World.cell? w (Addr.mk c0b c0o none) = some (.map p0) ∧ runR Try.prog (Instr.lookup 69 (.map p0) (.string x0) false) (some w) fun (v1 : Value) ↦ ∃ (n2 : Int), v1 = .int .i64 n2 ∧ K (.bool (decide (n2 > 0))) w) :
    callC Try.prog 45 #[.string x0, .pointer (some (Addr.mk c0b c0o none))] w K :=
  calls_of_vc ⟨[], [], []⟩ Try.func45 (of_eq h (by kernel_rfl))

end Go.Proofs.Ytkacocaekffdgaa
