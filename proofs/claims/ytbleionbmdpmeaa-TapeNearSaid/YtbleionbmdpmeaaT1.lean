/- What the abstract semantics knows of each type. Printed by gen_ti.py. -/
import Derived.Test.YtbleionbmdpmeaaProg
import Derived.Test.YtbleionbmdpmeaaAbsP
import Derived.KernelRfl
namespace Go.Proofs.Ytbleionbmdpmeaa
open Go.Abs
theorem ti2 : tiOf Try.prog 2 = ⟨.int .i64, 1, false, [.int .i64 0], true⟩ := nr (by kernel_rfl)
theorem ti3 : tiOf Try.prog 3 = ⟨.int .i64, 1, false, [.int .i64 0], true⟩ := nr (by kernel_rfl)
theorem ti4 : tiOf Try.prog 4 = ⟨.bool, 1, false, [.bool false], true⟩ := nr (by kernel_rfl)
theorem ti5 : tiOf Try.prog 5 = ⟨.int .u8, 1, false, [.int .u8 0], true⟩ := nr (by kernel_rfl)
theorem ti6 : tiOf Try.prog 6 = ⟨.int .u8, 1, false, [.int .u8 0], true⟩ := nr (by kernel_rfl)
theorem ti7 : tiOf Try.prog 7 = ⟨.struct [(0, 1), (1, 1), (2, 1), (3, 1)], 4, true, [.int .i64 0, .int .i64 0, .bool false, .int .u8 0], true⟩ := nr (by kernel_rfl)
theorem ti8 : tiOf Try.prog 8 = ⟨.struct [(0, 1), (1, 1), (2, 1), (3, 1)], 4, true, [.int .i64 0, .int .i64 0, .bool false, .int .u8 0], true⟩ := nr (by kernel_rfl)
theorem ti9 : tiOf Try.prog 9 = ⟨.str, 1, false, [.str []], true⟩ := nr (by kernel_rfl)
theorem ti10 : tiOf Try.prog 10 = ⟨.str, 1, false, [.str []], true⟩ := nr (by kernel_rfl)
theorem ti11 : tiOf Try.prog 11 = ⟨.str, 1, false, [.str []], true⟩ := nr (by kernel_rfl)
theorem ti12 : tiOf Try.prog 12 = ⟨.int .u64, 1, false, [.int .u64 0], true⟩ := nr (by kernel_rfl)
theorem ti13 : tiOf Try.prog 13 = ⟨.struct [(0, 1), (1, 1)], 2, true, [.str [], .int .u64 0], true⟩ := nr (by kernel_rfl)
theorem ti14 : tiOf Try.prog 14 = ⟨.struct [(0, 1), (1, 1)], 2, true, [.str [], .int .u64 0], true⟩ := nr (by kernel_rfl)
theorem ti15 : tiOf Try.prog 15 = ⟨.ptr, 1, false, [.nilp], true⟩ := nr (by kernel_rfl)
theorem ti16 : tiOf Try.prog 16 = ⟨.ptr, 1, false, [.nilp], true⟩ := nr (by kernel_rfl)
theorem ti17 : tiOf Try.prog 17 = ⟨.ptr, 1, false, [.nilp], true⟩ := nr (by kernel_rfl)
theorem ti18 : tiOf Try.prog 18 = ⟨.struct [(0, 1)], 1, true, [.nilp], true⟩ := nr (by kernel_rfl)
theorem ti19 : tiOf Try.prog 19 = ⟨.struct [(0, 1)], 1, true, [.nilp], true⟩ := nr (by kernel_rfl)
theorem ti21 : tiOf Try.prog 21 = ⟨.int .i32, 1, false, [.int .i32 0], true⟩ := nr (by kernel_rfl)
theorem ti22 : tiOf Try.prog 22 = ⟨.slice 1 24 [.lst .nil 0 []] false, 1, false, [.lst .nil 0 []], true⟩ := nr (by kernel_rfl)
theorem ti23 : tiOf Try.prog 23 = ⟨.struct [(0, 1), (1, 1), (2, 1)], 3, true, [.int .i64 0, .int .i64 0, .lst .nil 0 []], true⟩ := nr (by kernel_rfl)
theorem ti24 : tiOf Try.prog 24 = ⟨.struct [(0, 1), (1, 1), (2, 1)], 3, true, [.int .i64 0, .int .i64 0, .lst .nil 0 []], true⟩ := nr (by kernel_rfl)
theorem ti25 : tiOf Try.prog 25 = ⟨.slice 1 8 [.int .i64 0] false, 1, false, [.lst .nil 0 []], true⟩ := nr (by kernel_rfl)
theorem ti26 : tiOf Try.prog 26 = ⟨.struct [(0, 1), (1, 1), (2, 1), (3, 1)], 4, true, [.int .i64 0, .int .i64 0, .int .i64 0, .lst .nil 0 []], true⟩ := nr (by kernel_rfl)
theorem ti27 : tiOf Try.prog 27 = ⟨.struct [(0, 1), (1, 1), (2, 1), (3, 1)], 4, true, [.int .i64 0, .int .i64 0, .int .i64 0, .lst .nil 0 []], true⟩ := nr (by kernel_rfl)
theorem ti31 : tiOf Try.prog 31 = ⟨.int .i64, 1, false, [.int .i64 0], true⟩ := nr (by kernel_rfl)
theorem ti52 : tiOf Try.prog 52 = ⟨.int .u16, 1, false, [.int .u16 0], true⟩ := nr (by kernel_rfl)
theorem ti58 : tiOf Try.prog 58 = ⟨.slice 4 48 [.int .i64 0, .int .i64 0, .int .i64 0, .lst .nil 0 []] false, 1, false, [.lst .nil 0 []], true⟩ := nr (by kernel_rfl)
theorem ti72 : tiOf Try.prog 72 = ⟨.slice 3 24 [.int .i64 0, .int .i64 0, .int .i64 0] false, 1, false, [.lst .nil 0 []], true⟩ := nr (by kernel_rfl)
theorem ti75 : tiOf Try.prog 75 = ⟨.slice 2 16 [.int .i64 0, .int .i64 0] false, 1, false, [.lst .nil 0 []], true⟩ := nr (by kernel_rfl)
theorem ti86 : tiOf Try.prog 86 = ⟨.ptr, 1, false, [.nilp], true⟩ := nr (by kernel_rfl)
theorem ti89 : tiOf Try.prog 89 = ⟨.struct [(0, 3), (3, 1), (4, 1), (5, 1), (6, 1), (7, 1)], 8, true, [.int .i64 0, .int .i64 0, .lst .nil 0 [], .int .i64 0, .int .i64 0, .lst .nil 0 [], .int .i64 0, .int .i64 0], true⟩ := nr (by kernel_rfl)
theorem ti90 : tiOf Try.prog 90 = ⟨.struct [(0, 3), (3, 1), (4, 1), (5, 1), (6, 1), (7, 1)], 8, true, [.int .i64 0, .int .i64 0, .lst .nil 0 [], .int .i64 0, .int .i64 0, .lst .nil 0 [], .int .i64 0, .int .i64 0], true⟩ := nr (by kernel_rfl)
theorem ti93 : tiOf Try.prog 93 = ⟨.struct [(0, 1), (1, 1), (2, 1)], 3, true, [.int .i64 0, .int .i64 0, .int .i64 0], true⟩ := nr (by kernel_rfl)
theorem ti94 : tiOf Try.prog 94 = ⟨.struct [(0, 1), (1, 1), (2, 1)], 3, true, [.int .i64 0, .int .i64 0, .int .i64 0], true⟩ := nr (by kernel_rfl)
theorem ti96 : tiOf Try.prog 96 = ⟨.struct [(0, 1), (1, 1), (2, 1)], 3, true, [.int .i64 0, .int .i64 0, .int .i64 0], true⟩ := nr (by kernel_rfl)
theorem ti97 : tiOf Try.prog 97 = ⟨.struct [(0, 1), (1, 1), (2, 1)], 3, true, [.int .i64 0, .int .i64 0, .int .i64 0], true⟩ := nr (by kernel_rfl)
theorem ti98 : tiOf Try.prog 98 = ⟨.array 2 1, 2, true, [.int .i64 0, .int .i64 0], true⟩ := nr (by kernel_rfl)
theorem ti99 : tiOf Try.prog 99 = ⟨.slice 3 24 [.int .i64 0, .int .i64 0, .int .i64 0] false, 1, false, [.lst .nil 0 []], true⟩ := nr (by kernel_rfl)
theorem ti101 : tiOf Try.prog 101 = ⟨.array 8 1, 8, true, [.int .u8 0, .int .u8 0, .int .u8 0, .int .u8 0, .int .u8 0, .int .u8 0, .int .u8 0, .int .u8 0], true⟩ := nr (by kernel_rfl)
theorem ti103 : tiOf Try.prog 103 = ⟨.slice 1 1 [.int .u8 0] true, 1, false, [.lst .nil 0 []], true⟩ := nr (by kernel_rfl)
theorem ti105 : tiOf Try.prog 105 = ⟨.array 6 1, 6, true, [.int .u8 0, .int .u8 0, .int .u8 0, .int .u8 0, .int .u8 0, .int .u8 0], true⟩ := nr (by kernel_rfl)
theorem ti106 : tiOf Try.prog 106 = ⟨.array 3 1, 3, true, [.int .i64 0, .int .i64 0, .int .i64 0], true⟩ := nr (by kernel_rfl)
theorem ti108 : tiOf Try.prog 108 = ⟨.int .i16, 1, false, [.int .i16 0], true⟩ := nr (by kernel_rfl)
theorem ti123 : tiOf Try.prog 123 = ⟨.ptr, 1, false, [.nilp], true⟩ := nr (by kernel_rfl)
theorem ti125 : tiOf Try.prog 125 = ⟨.struct [(0, 3), (3, 1), (4, 1), (5, 1), (6, 1), (7, 1)], 8, true, [.int .i64 0, .int .i64 0, .lst .nil 0 [], .nilp, .int .i64 0, .int .i64 0, .int .i64 0, .int .i64 0], true⟩ := nr (by kernel_rfl)
theorem ti126 : tiOf Try.prog 126 = ⟨.struct [(0, 3), (3, 1), (4, 1), (5, 1), (6, 1), (7, 1)], 8, true, [.int .i64 0, .int .i64 0, .lst .nil 0 [], .nilp, .int .i64 0, .int .i64 0, .int .i64 0, .int .i64 0], true⟩ := nr (by kernel_rfl)
theorem ti134 : tiOf Try.prog 134 = ⟨.struct [(0, 1), (1, 1), (2, 1), (3, 1)], 4, true, [.int .i64 0, .int .i64 0, .int .i64 0, .int .i64 0], true⟩ := nr (by kernel_rfl)
theorem ti135 : tiOf Try.prog 135 = ⟨.struct [(0, 1), (1, 1), (2, 1), (3, 1)], 4, true, [.int .i64 0, .int .i64 0, .int .i64 0, .int .i64 0], true⟩ := nr (by kernel_rfl)
theorem ti136 : tiOf Try.prog 136 = ⟨.ptr, 1, false, [.nilp], true⟩ := nr (by kernel_rfl)
theorem ti137 : tiOf Try.prog 137 = ⟨.struct [(0, 3), (3, 1), (4, 1), (5, 1), (6, 1)], 7, true, [.int .i64 0, .int .i64 0, .lst .nil 0 [], .int .i64 0, .int .i64 0, .lst .nil 0 [], .lst .nil 0 []], true⟩ := nr (by kernel_rfl)
theorem ti138 : tiOf Try.prog 138 = ⟨.struct [(0, 3), (3, 1), (4, 1), (5, 1), (6, 1)], 7, true, [.int .i64 0, .int .i64 0, .lst .nil 0 [], .int .i64 0, .int .i64 0, .lst .nil 0 [], .lst .nil 0 []], true⟩ := nr (by kernel_rfl)
theorem ti144 : tiOf Try.prog 144 = ⟨.array 3 1, 3, true, [.str [], .str [], .str []], true⟩ := nr (by kernel_rfl)
theorem ti147 : tiOf Try.prog 147 = ⟨.int .u64, 1, false, [.int .u64 0], true⟩ := nr (by kernel_rfl)
theorem ti152 : tiOf Try.prog 152 = ⟨.struct [(0, 1), (1, 1)], 2, true, [.lst .nil 0 [], .int .i64 0], true⟩ := nr (by kernel_rfl)
theorem ti153 : tiOf Try.prog 153 = ⟨.struct [(0, 1), (1, 1)], 2, true, [.lst .nil 0 [], .int .i64 0], true⟩ := nr (by kernel_rfl)
theorem ti154 : tiOf Try.prog 154 = ⟨.ptr, 1, false, [.nilp], true⟩ := nr (by kernel_rfl)
theorem ti158 : tiOf Try.prog 158 = ⟨.slice 1 1 [.bool false] false, 1, false, [.lst .nil 0 []], true⟩ := nr (by kernel_rfl)
theorem ti160 : tiOf Try.prog 160 = ⟨.struct [(0, 1), (1, 1), (2, 1), (3, 1)], 4, true, [.nilp, .nilp, .nilp, .str []], true⟩ := nr (by kernel_rfl)
theorem ti161 : tiOf Try.prog 161 = ⟨.struct [(0, 1), (1, 1), (2, 1), (3, 1)], 4, true, [.nilp, .nilp, .nilp, .str []], true⟩ := nr (by kernel_rfl)
theorem ti162 : tiOf Try.prog 162 = ⟨.array 0 1, 0, true, [], true⟩ := nr (by kernel_rfl)
theorem ti163 : tiOf Try.prog 163 = ⟨.struct [(0, 0)], 0, true, [], true⟩ := nr (by kernel_rfl)
theorem ti164 : tiOf Try.prog 164 = ⟨.struct [(0, 0)], 0, true, [], true⟩ := nr (by kernel_rfl)
theorem ti165 : tiOf Try.prog 165 = ⟨.int .u32, 1, false, [.int .u32 0], true⟩ := nr (by kernel_rfl)
theorem ti166 : tiOf Try.prog 166 = ⟨.int .u8, 1, false, [.int .u8 0], true⟩ := nr (by kernel_rfl)
theorem ti167 : tiOf Try.prog 167 = ⟨.int .u8, 1, false, [.int .u8 0], true⟩ := nr (by kernel_rfl)
theorem ti169 : tiOf Try.prog 169 = ⟨.ptr, 1, false, [.nilp], true⟩ := nr (by kernel_rfl)
theorem ti170 : tiOf Try.prog 170 = ⟨.int .i32, 1, false, [.int .i32 0], true⟩ := nr (by kernel_rfl)
theorem ti171 : tiOf Try.prog 171 = ⟨.int .i32, 1, false, [.int .i32 0], true⟩ := nr (by kernel_rfl)
section
variable {R : Rets} {n0 : Nat} {nd : Bool} {t : List AVal} {L : List Slot} {K : AVal → List Slot → Prop}
@[go_sem] theorem ld2 {x : Operand} : aopW Try.prog R n0 nd (.load 2 x) t L K (un _) = loadK false 1 (ev t x) L K (un _) := aop_loadK ti2
@[go_sem] theorem bx2 {x : Operand} : aopW Try.prog R n0 nd (.box 2 x) t L K (un _) = boxK 1 (ev t x) L K (un _) := aop_boxK ti2
@[go_sem] theorem st2 {x y : Operand} : aopW Try.prog R n0 nd (.store 2 x y) t L K (un _) = storeK (ev t x) (ev t y) 1 true L K (un _) := aop_storeK ti2
@[go_sem] theorem al2  : aopW Try.prog R n0 nd (.alloc 2) t L K (un _) = K (.ptr L.length 0) (L ++ [.obj 0 [.imm (.int .i64 0)]]) := aop_allocK ti2 rfl
@[go_sem] theorem lo2 {e o : Nat} {c : List AVal} : ldO (tiOf Try.prog 2) (.obj e c) o = some (True ∧ o < c.length, getT c o) := by rw [ti2]; exact ldO_one
@[go_sem] theorem ld3 {x : Operand} : aopW Try.prog R n0 nd (.load 3 x) t L K (un _) = loadK false 1 (ev t x) L K (un _) := aop_loadK ti3
@[go_sem] theorem bx3 {x : Operand} : aopW Try.prog R n0 nd (.box 3 x) t L K (un _) = boxK 1 (ev t x) L K (un _) := aop_boxK ti3
@[go_sem] theorem st3 {x y : Operand} : aopW Try.prog R n0 nd (.store 3 x y) t L K (un _) = storeK (ev t x) (ev t y) 1 true L K (un _) := aop_storeK ti3
@[go_sem] theorem al3  : aopW Try.prog R n0 nd (.alloc 3) t L K (un _) = K (.ptr L.length 0) (L ++ [.obj 0 [.imm (.int .i64 0)]]) := aop_allocK ti3 rfl
@[go_sem] theorem lo3 {e o : Nat} {c : List AVal} : ldO (tiOf Try.prog 3) (.obj e c) o = some (True ∧ o < c.length, getT c o) := by rw [ti3]; exact ldO_one
@[go_sem] theorem ld4 {x : Operand} : aopW Try.prog R n0 nd (.load 4 x) t L K (un _) = loadK false 1 (ev t x) L K (un _) := aop_loadK ti4
@[go_sem] theorem bx4 {x : Operand} : aopW Try.prog R n0 nd (.box 4 x) t L K (un _) = boxK 1 (ev t x) L K (un _) := aop_boxK ti4
@[go_sem] theorem st4 {x y : Operand} : aopW Try.prog R n0 nd (.store 4 x y) t L K (un _) = storeK (ev t x) (ev t y) 1 true L K (un _) := aop_storeK ti4
@[go_sem] theorem al4  : aopW Try.prog R n0 nd (.alloc 4) t L K (un _) = K (.ptr L.length 0) (L ++ [.obj 0 [.imm (.bool false)]]) := aop_allocK ti4 rfl
@[go_sem] theorem lo4 {e o : Nat} {c : List AVal} : ldO (tiOf Try.prog 4) (.obj e c) o = some (True ∧ o < c.length, getT c o) := by rw [ti4]; exact ldO_one
@[go_sem] theorem ib4 : (isBoolK (tiOf Try.prog 4).kind = true) = True := by rw [ti4]; exact eq_true rfl
@[go_sem] theorem ld5 {x : Operand} : aopW Try.prog R n0 nd (.load 5 x) t L K (un _) = loadK false 1 (ev t x) L K (un _) := aop_loadK ti5
@[go_sem] theorem bx5 {x : Operand} : aopW Try.prog R n0 nd (.box 5 x) t L K (un _) = boxK 1 (ev t x) L K (un _) := aop_boxK ti5
@[go_sem] theorem st5 {x y : Operand} : aopW Try.prog R n0 nd (.store 5 x y) t L K (un _) = storeK (ev t x) (ev t y) 1 true L K (un _) := aop_storeK ti5
@[go_sem] theorem al5  : aopW Try.prog R n0 nd (.alloc 5) t L K (un _) = K (.ptr L.length 0) (L ++ [.obj 0 [.imm (.int .u8 0)]]) := aop_allocK ti5 rfl
@[go_sem] theorem lo5 {e o : Nat} {c : List AVal} : ldO (tiOf Try.prog 5) (.obj e c) o = some (True ∧ o < c.length, getT c o) := by rw [ti5]; exact ldO_one
@[go_sem] theorem ld6 {x : Operand} : aopW Try.prog R n0 nd (.load 6 x) t L K (un _) = loadK false 1 (ev t x) L K (un _) := aop_loadK ti6
@[go_sem] theorem bx6 {x : Operand} : aopW Try.prog R n0 nd (.box 6 x) t L K (un _) = boxK 1 (ev t x) L K (un _) := aop_boxK ti6
@[go_sem] theorem st6 {x y : Operand} : aopW Try.prog R n0 nd (.store 6 x y) t L K (un _) = storeK (ev t x) (ev t y) 1 true L K (un _) := aop_storeK ti6
@[go_sem] theorem al6  : aopW Try.prog R n0 nd (.alloc 6) t L K (un _) = K (.ptr L.length 0) (L ++ [.obj 0 [.imm (.int .u8 0)]]) := aop_allocK ti6 rfl
@[go_sem] theorem lo6 {e o : Nat} {c : List AVal} : ldO (tiOf Try.prog 6) (.obj e c) o = some (True ∧ o < c.length, getT c o) := by rw [ti6]; exact ldO_one
@[go_sem] theorem ld7 {x : Operand} : aopW Try.prog R n0 nd (.load 7 x) t L K (un _) = loadK true 4 (ev t x) L K (un _) := aop_loadK ti7
@[go_sem] theorem bx7 {x : Operand} : aopW Try.prog R n0 nd (.box 7 x) t L K (un _) = boxK 4 (ev t x) L K (un _) := aop_boxK ti7
@[go_sem] theorem st7 {x y : Operand} : aopW Try.prog R n0 nd (.store 7 x y) t L K (un _) = storeK (ev t x) (ev t y) 4 true L K (un _) := aop_storeK ti7
@[go_sem] theorem al7  : aopW Try.prog R n0 nd (.alloc 7) t L K (un _) = K (.ptr L.length 0) (L ++ [.obj 0 [.imm (.int .i64 0), .imm (.int .i64 0), .imm (.bool false), .imm (.int .u8 0)]]) := aop_allocK ti7 rfl
@[go_sem] theorem fi7 {x : Operand} {f : Nat} : aopW Try.prog R n0 nd (.fieldAddr 7 x f) t L K (un _) = fieldK (nthP [(0, 1), (1, 1), (2, 1), (3, 1)] f) (ev t x) L K (un _) := aop_fieldK ti7
@[go_sem] theorem bd7 {parts : List (Nat × Operand)} : aopW Try.prog R n0 nd (.build 7 parts.toArray) t L K (un _) = bldK [(0, 1), (1, 1), (2, 1), (3, 1)] [.int .i64 0, .int .i64 0, .bool false, .int .u8 0] (mapP (ev t) parts) L K (un _) := aop_bldK ti7 rfl
@[go_sem] theorem lo7 {e o : Nat} {c : List AVal} : ldO (tiOf Try.prog 7) (.obj e c) o = some (True ∧ o + 4 ≤ c.length, .agg ((c.drop o).take 4)) := by rw [ti7]; exact ldO_agg
@[go_sem] theorem ld8 {x : Operand} : aopW Try.prog R n0 nd (.load 8 x) t L K (un _) = loadK true 4 (ev t x) L K (un _) := aop_loadK ti8
@[go_sem] theorem bx8 {x : Operand} : aopW Try.prog R n0 nd (.box 8 x) t L K (un _) = boxK 4 (ev t x) L K (un _) := aop_boxK ti8
@[go_sem] theorem st8 {x y : Operand} : aopW Try.prog R n0 nd (.store 8 x y) t L K (un _) = storeK (ev t x) (ev t y) 4 true L K (un _) := aop_storeK ti8
@[go_sem] theorem al8  : aopW Try.prog R n0 nd (.alloc 8) t L K (un _) = K (.ptr L.length 0) (L ++ [.obj 0 [.imm (.int .i64 0), .imm (.int .i64 0), .imm (.bool false), .imm (.int .u8 0)]]) := aop_allocK ti8 rfl
@[go_sem] theorem fi8 {x : Operand} {f : Nat} : aopW Try.prog R n0 nd (.fieldAddr 8 x f) t L K (un _) = fieldK (nthP [(0, 1), (1, 1), (2, 1), (3, 1)] f) (ev t x) L K (un _) := aop_fieldK ti8
@[go_sem] theorem bd8 {parts : List (Nat × Operand)} : aopW Try.prog R n0 nd (.build 8 parts.toArray) t L K (un _) = bldK [(0, 1), (1, 1), (2, 1), (3, 1)] [.int .i64 0, .int .i64 0, .bool false, .int .u8 0] (mapP (ev t) parts) L K (un _) := aop_bldK ti8 rfl
@[go_sem] theorem lo8 {e o : Nat} {c : List AVal} : ldO (tiOf Try.prog 8) (.obj e c) o = some (True ∧ o + 4 ≤ c.length, .agg ((c.drop o).take 4)) := by rw [ti8]; exact ldO_agg
@[go_sem] theorem ld9 {x : Operand} : aopW Try.prog R n0 nd (.load 9 x) t L K (un _) = loadK false 1 (ev t x) L K (un _) := aop_loadK ti9
@[go_sem] theorem bx9 {x : Operand} : aopW Try.prog R n0 nd (.box 9 x) t L K (un _) = boxK 1 (ev t x) L K (un _) := aop_boxK ti9
@[go_sem] theorem st9 {x y : Operand} : aopW Try.prog R n0 nd (.store 9 x y) t L K (un _) = storeK (ev t x) (ev t y) 1 true L K (un _) := aop_storeK ti9
@[go_sem] theorem al9  : aopW Try.prog R n0 nd (.alloc 9) t L K (un _) = K (.ptr L.length 0) (L ++ [.obj 0 [.imm (.str [])]]) := aop_allocK ti9 rfl
@[go_sem] theorem ls9 {x : Operand} : aopW Try.prog R n0 nd (.call ⟨.builtin .len, #[x], #[9]⟩) t L K (un _) = lenS (ev t x) L K (un _) := aop_lenStr ti9
@[go_sem] theorem lo9 {e o : Nat} {c : List AVal} : ldO (tiOf Try.prog 9) (.obj e c) o = some (True ∧ o < c.length, getT c o) := by rw [ti9]; exact ldO_one
@[go_sem] theorem ld10 {x : Operand} : aopW Try.prog R n0 nd (.load 10 x) t L K (un _) = loadK false 1 (ev t x) L K (un _) := aop_loadK ti10
@[go_sem] theorem bx10 {x : Operand} : aopW Try.prog R n0 nd (.box 10 x) t L K (un _) = boxK 1 (ev t x) L K (un _) := aop_boxK ti10
@[go_sem] theorem st10 {x y : Operand} : aopW Try.prog R n0 nd (.store 10 x y) t L K (un _) = storeK (ev t x) (ev t y) 1 true L K (un _) := aop_storeK ti10
@[go_sem] theorem al10  : aopW Try.prog R n0 nd (.alloc 10) t L K (un _) = K (.ptr L.length 0) (L ++ [.obj 0 [.imm (.str [])]]) := aop_allocK ti10 rfl
@[go_sem] theorem ls10 {x : Operand} : aopW Try.prog R n0 nd (.call ⟨.builtin .len, #[x], #[10]⟩) t L K (un _) = lenS (ev t x) L K (un _) := aop_lenStr ti10
@[go_sem] theorem lo10 {e o : Nat} {c : List AVal} : ldO (tiOf Try.prog 10) (.obj e c) o = some (True ∧ o < c.length, getT c o) := by rw [ti10]; exact ldO_one
@[go_sem] theorem ld11 {x : Operand} : aopW Try.prog R n0 nd (.load 11 x) t L K (un _) = loadK false 1 (ev t x) L K (un _) := aop_loadK ti11
@[go_sem] theorem bx11 {x : Operand} : aopW Try.prog R n0 nd (.box 11 x) t L K (un _) = boxK 1 (ev t x) L K (un _) := aop_boxK ti11
@[go_sem] theorem st11 {x y : Operand} : aopW Try.prog R n0 nd (.store 11 x y) t L K (un _) = storeK (ev t x) (ev t y) 1 true L K (un _) := aop_storeK ti11
@[go_sem] theorem al11  : aopW Try.prog R n0 nd (.alloc 11) t L K (un _) = K (.ptr L.length 0) (L ++ [.obj 0 [.imm (.str [])]]) := aop_allocK ti11 rfl
@[go_sem] theorem ls11 {x : Operand} : aopW Try.prog R n0 nd (.call ⟨.builtin .len, #[x], #[11]⟩) t L K (un _) = lenS (ev t x) L K (un _) := aop_lenStr ti11
@[go_sem] theorem lo11 {e o : Nat} {c : List AVal} : ldO (tiOf Try.prog 11) (.obj e c) o = some (True ∧ o < c.length, getT c o) := by rw [ti11]; exact ldO_one
@[go_sem] theorem ld12 {x : Operand} : aopW Try.prog R n0 nd (.load 12 x) t L K (un _) = loadK false 1 (ev t x) L K (un _) := aop_loadK ti12
@[go_sem] theorem bx12 {x : Operand} : aopW Try.prog R n0 nd (.box 12 x) t L K (un _) = boxK 1 (ev t x) L K (un _) := aop_boxK ti12
@[go_sem] theorem st12 {x y : Operand} : aopW Try.prog R n0 nd (.store 12 x y) t L K (un _) = storeK (ev t x) (ev t y) 1 true L K (un _) := aop_storeK ti12
@[go_sem] theorem al12  : aopW Try.prog R n0 nd (.alloc 12) t L K (un _) = K (.ptr L.length 0) (L ++ [.obj 0 [.imm (.int .u64 0)]]) := aop_allocK ti12 rfl
@[go_sem] theorem lo12 {e o : Nat} {c : List AVal} : ldO (tiOf Try.prog 12) (.obj e c) o = some (True ∧ o < c.length, getT c o) := by rw [ti12]; exact ldO_one
@[go_sem] theorem ld13 {x : Operand} : aopW Try.prog R n0 nd (.load 13 x) t L K (un _) = loadK true 2 (ev t x) L K (un _) := aop_loadK ti13
@[go_sem] theorem bx13 {x : Operand} : aopW Try.prog R n0 nd (.box 13 x) t L K (un _) = boxK 2 (ev t x) L K (un _) := aop_boxK ti13
@[go_sem] theorem st13 {x y : Operand} : aopW Try.prog R n0 nd (.store 13 x y) t L K (un _) = storeK (ev t x) (ev t y) 2 true L K (un _) := aop_storeK ti13
@[go_sem] theorem al13  : aopW Try.prog R n0 nd (.alloc 13) t L K (un _) = K (.ptr L.length 0) (L ++ [.obj 0 [.imm (.str []), .imm (.int .u64 0)]]) := aop_allocK ti13 rfl
@[go_sem] theorem fi13 {x : Operand} {f : Nat} : aopW Try.prog R n0 nd (.fieldAddr 13 x f) t L K (un _) = fieldK (nthP [(0, 1), (1, 1)] f) (ev t x) L K (un _) := aop_fieldK ti13
@[go_sem] theorem bd13 {parts : List (Nat × Operand)} : aopW Try.prog R n0 nd (.build 13 parts.toArray) t L K (un _) = bldK [(0, 1), (1, 1)] [.str [], .int .u64 0] (mapP (ev t) parts) L K (un _) := aop_bldK ti13 rfl
@[go_sem] theorem lo13 {e o : Nat} {c : List AVal} : ldO (tiOf Try.prog 13) (.obj e c) o = some (True ∧ o + 2 ≤ c.length, .agg ((c.drop o).take 2)) := by rw [ti13]; exact ldO_agg
@[go_sem] theorem ld14 {x : Operand} : aopW Try.prog R n0 nd (.load 14 x) t L K (un _) = loadK true 2 (ev t x) L K (un _) := aop_loadK ti14
@[go_sem] theorem bx14 {x : Operand} : aopW Try.prog R n0 nd (.box 14 x) t L K (un _) = boxK 2 (ev t x) L K (un _) := aop_boxK ti14
@[go_sem] theorem st14 {x y : Operand} : aopW Try.prog R n0 nd (.store 14 x y) t L K (un _) = storeK (ev t x) (ev t y) 2 true L K (un _) := aop_storeK ti14
@[go_sem] theorem al14  : aopW Try.prog R n0 nd (.alloc 14) t L K (un _) = K (.ptr L.length 0) (L ++ [.obj 0 [.imm (.str []), .imm (.int .u64 0)]]) := aop_allocK ti14 rfl
@[go_sem] theorem fi14 {x : Operand} {f : Nat} : aopW Try.prog R n0 nd (.fieldAddr 14 x f) t L K (un _) = fieldK (nthP [(0, 1), (1, 1)] f) (ev t x) L K (un _) := aop_fieldK ti14
@[go_sem] theorem bd14 {parts : List (Nat × Operand)} : aopW Try.prog R n0 nd (.build 14 parts.toArray) t L K (un _) = bldK [(0, 1), (1, 1)] [.str [], .int .u64 0] (mapP (ev t) parts) L K (un _) := aop_bldK ti14 rfl
@[go_sem] theorem lo14 {e o : Nat} {c : List AVal} : ldO (tiOf Try.prog 14) (.obj e c) o = some (True ∧ o + 2 ≤ c.length, .agg ((c.drop o).take 2)) := by rw [ti14]; exact ldO_agg
@[go_sem] theorem ld15 {x : Operand} : aopW Try.prog R n0 nd (.load 15 x) t L K (un _) = loadK false 1 (ev t x) L K (un _) := aop_loadK ti15
@[go_sem] theorem bx15 {x : Operand} : aopW Try.prog R n0 nd (.box 15 x) t L K (un _) = boxK 1 (ev t x) L K (un _) := aop_boxK ti15
@[go_sem] theorem st15 {x y : Operand} : aopW Try.prog R n0 nd (.store 15 x y) t L K (un _) = storeK (ev t x) (ev t y) 1 true L K (un _) := aop_storeK ti15
@[go_sem] theorem al15  : aopW Try.prog R n0 nd (.alloc 15) t L K (un _) = K (.ptr L.length 0) (L ++ [.obj 0 [.imm (.nilp)]]) := aop_allocK ti15 rfl
@[go_sem] theorem lo15 {e o : Nat} {c : List AVal} : ldO (tiOf Try.prog 15) (.obj e c) o = some (True ∧ o < c.length, getT c o) := by rw [ti15]; exact ldO_one
@[go_sem] theorem ld16 {x : Operand} : aopW Try.prog R n0 nd (.load 16 x) t L K (un _) = loadK false 1 (ev t x) L K (un _) := aop_loadK ti16
@[go_sem] theorem bx16 {x : Operand} : aopW Try.prog R n0 nd (.box 16 x) t L K (un _) = boxK 1 (ev t x) L K (un _) := aop_boxK ti16
@[go_sem] theorem st16 {x y : Operand} : aopW Try.prog R n0 nd (.store 16 x y) t L K (un _) = storeK (ev t x) (ev t y) 1 true L K (un _) := aop_storeK ti16
@[go_sem] theorem al16  : aopW Try.prog R n0 nd (.alloc 16) t L K (un _) = K (.ptr L.length 0) (L ++ [.obj 0 [.imm (.nilp)]]) := aop_allocK ti16 rfl
@[go_sem] theorem lo16 {e o : Nat} {c : List AVal} : ldO (tiOf Try.prog 16) (.obj e c) o = some (True ∧ o < c.length, getT c o) := by rw [ti16]; exact ldO_one
@[go_sem] theorem ld17 {x : Operand} : aopW Try.prog R n0 nd (.load 17 x) t L K (un _) = loadK false 1 (ev t x) L K (un _) := aop_loadK ti17
@[go_sem] theorem bx17 {x : Operand} : aopW Try.prog R n0 nd (.box 17 x) t L K (un _) = boxK 1 (ev t x) L K (un _) := aop_boxK ti17
@[go_sem] theorem st17 {x y : Operand} : aopW Try.prog R n0 nd (.store 17 x y) t L K (un _) = storeK (ev t x) (ev t y) 1 true L K (un _) := aop_storeK ti17
@[go_sem] theorem al17  : aopW Try.prog R n0 nd (.alloc 17) t L K (un _) = K (.ptr L.length 0) (L ++ [.obj 0 [.imm (.nilp)]]) := aop_allocK ti17 rfl
@[go_sem] theorem lo17 {e o : Nat} {c : List AVal} : ldO (tiOf Try.prog 17) (.obj e c) o = some (True ∧ o < c.length, getT c o) := by rw [ti17]; exact ldO_one
@[go_sem] theorem ld18 {x : Operand} : aopW Try.prog R n0 nd (.load 18 x) t L K (un _) = loadK true 1 (ev t x) L K (un _) := aop_loadK ti18
@[go_sem] theorem bx18 {x : Operand} : aopW Try.prog R n0 nd (.box 18 x) t L K (un _) = boxK 1 (ev t x) L K (un _) := aop_boxK ti18
@[go_sem] theorem st18 {x y : Operand} : aopW Try.prog R n0 nd (.store 18 x y) t L K (un _) = storeK (ev t x) (ev t y) 1 true L K (un _) := aop_storeK ti18
@[go_sem] theorem al18  : aopW Try.prog R n0 nd (.alloc 18) t L K (un _) = K (.ptr L.length 0) (L ++ [.obj 0 [.imm (.nilp)]]) := aop_allocK ti18 rfl
@[go_sem] theorem fi18 {x : Operand} {f : Nat} : aopW Try.prog R n0 nd (.fieldAddr 18 x f) t L K (un _) = fieldK (nthP [(0, 1)] f) (ev t x) L K (un _) := aop_fieldK ti18
@[go_sem] theorem bd18 {parts : List (Nat × Operand)} : aopW Try.prog R n0 nd (.build 18 parts.toArray) t L K (un _) = bldK [(0, 1)] [.nilp] (mapP (ev t) parts) L K (un _) := aop_bldK ti18 rfl
@[go_sem] theorem lo18 {e o : Nat} {c : List AVal} : ldO (tiOf Try.prog 18) (.obj e c) o = some (True ∧ o + 1 ≤ c.length, .agg ((c.drop o).take 1)) := by rw [ti18]; exact ldO_agg
@[go_sem] theorem ld19 {x : Operand} : aopW Try.prog R n0 nd (.load 19 x) t L K (un _) = loadK true 1 (ev t x) L K (un _) := aop_loadK ti19
@[go_sem] theorem bx19 {x : Operand} : aopW Try.prog R n0 nd (.box 19 x) t L K (un _) = boxK 1 (ev t x) L K (un _) := aop_boxK ti19
@[go_sem] theorem st19 {x y : Operand} : aopW Try.prog R n0 nd (.store 19 x y) t L K (un _) = storeK (ev t x) (ev t y) 1 true L K (un _) := aop_storeK ti19
@[go_sem] theorem al19  : aopW Try.prog R n0 nd (.alloc 19) t L K (un _) = K (.ptr L.length 0) (L ++ [.obj 0 [.imm (.nilp)]]) := aop_allocK ti19 rfl
@[go_sem] theorem fi19 {x : Operand} {f : Nat} : aopW Try.prog R n0 nd (.fieldAddr 19 x f) t L K (un _) = fieldK (nthP [(0, 1)] f) (ev t x) L K (un _) := aop_fieldK ti19
@[go_sem] theorem bd19 {parts : List (Nat × Operand)} : aopW Try.prog R n0 nd (.build 19 parts.toArray) t L K (un _) = bldK [(0, 1)] [.nilp] (mapP (ev t) parts) L K (un _) := aop_bldK ti19 rfl
@[go_sem] theorem lo19 {e o : Nat} {c : List AVal} : ldO (tiOf Try.prog 19) (.obj e c) o = some (True ∧ o + 1 ≤ c.length, .agg ((c.drop o).take 1)) := by rw [ti19]; exact ldO_agg
@[go_sem] theorem ld21 {x : Operand} : aopW Try.prog R n0 nd (.load 21 x) t L K (un _) = loadK false 1 (ev t x) L K (un _) := aop_loadK ti21
@[go_sem] theorem bx21 {x : Operand} : aopW Try.prog R n0 nd (.box 21 x) t L K (un _) = boxK 1 (ev t x) L K (un _) := aop_boxK ti21
@[go_sem] theorem st21 {x y : Operand} : aopW Try.prog R n0 nd (.store 21 x y) t L K (un _) = storeK (ev t x) (ev t y) 1 true L K (un _) := aop_storeK ti21
@[go_sem] theorem al21  : aopW Try.prog R n0 nd (.alloc 21) t L K (un _) = K (.ptr L.length 0) (L ++ [.obj 0 [.imm (.int .i32 0)]]) := aop_allocK ti21 rfl
@[go_sem] theorem lo21 {e o : Nat} {c : List AVal} : ldO (tiOf Try.prog 21) (.obj e c) o = some (True ∧ o < c.length, getT c o) := by rw [ti21]; exact ldO_one
@[go_sem] theorem ld22 {x : Operand} : aopW Try.prog R n0 nd (.load 22 x) t L K (un _) = loadK false 1 (ev t x) L K (un _) := aop_loadK ti22
@[go_sem] theorem bx22 {x : Operand} : aopW Try.prog R n0 nd (.box 22 x) t L K (un _) = boxK 1 (ev t x) L K (un _) := aop_boxK ti22
@[go_sem] theorem st22 {x y : Operand} : aopW Try.prog R n0 nd (.store 22 x y) t L K (un _) = storeK (ev t x) (ev t y) 1 true L K (un _) := aop_storeK ti22
@[go_sem] theorem al22  : aopW Try.prog R n0 nd (.alloc 22) t L K (un _) = K (.ptr L.length 0) (L ++ [.obj 0 [.imm (.lst .nil 0 [])]]) := aop_allocK ti22 rfl
@[go_sem] theorem ix22 {x i : Operand} : aopW Try.prog R n0 nd (.indexAddr 22 x i) t L K (un _) = idxK 1 (ev t x) (ev t i) L K (un _) := aop_idxK ti22
@[go_sem] theorem ln22 {x : Operand} : aopW Try.prog R n0 nd (.call ⟨.builtin .len, #[x], #[22]⟩) t L K (un _) = lenL (ev t x) L K (un _) := aop_lenL ti22
@[go_sem] theorem ct22 {x : Operand} {lo hi : Option Operand} : aopW Try.prog R n0 nd (.slice 22 x lo hi none) t L K (un _) = cutE 1 (ev t x) (lo.map (ev t)) (hi.map (ev t)) L K (un _) := aop_cutE ti22
@[go_sem] theorem ap22 {b x : Operand} : aopW Try.prog R n0 nd (.call ⟨.builtin .append, #[b, x], #[22, 22]⟩) t L K (un _) = appK 1 24 (ev t b) (ev t x) L K (un _) := aop_appK ti22 ti22
@[go_sem] theorem mk22 {x y : Operand} : aopW Try.prog R n0 nd (.makeSlice 22 x y) t L K (un _) = makeK 1 24 [.lst .nil 0 []] (ev t x) (ev t y) L K (un _) := aop_makeK ti22
@[go_sem] theorem bs22 {len : Nat} {parts : List (Nat × Operand)} : aopW Try.prog R n0 nd (.buildSlice 22 (len + 1) parts.toArray) t L K (un _) = bsK 1 (len + 1) [.lst .nil 0 []] (mapP (ev t) parts) L K (un _) := aop_bsK ti22
@[go_sem] theorem cp22 {x y : Operand} : aopW Try.prog R n0 nd (.call ⟨.builtin .copy, #[x, y], #[22, 22]⟩) t L K (un _) = cpyK 1 (ev t x) (ev t y) L K (un _) := aop_cpyK ti22
@[go_sem] theorem lo22 {e o : Nat} {c : List AVal} : ldO (tiOf Try.prog 22) (.obj e c) o = some (True ∧ o < c.length, getT c o) := by rw [ti22]; exact ldO_one
@[go_sem] theorem bz22  : aopW Try.prog R n0 nd (.buildSlice 22 0 #[]) t L K (un _) = K (.imm (.lst .void 0 [])) L := aop_bs0 ti22
@[go_sem] theorem an22 {b x : Operand} : aopW Try.prog R n0 nd (.call ⟨.builtin .append, #[b, x], #[22, 3]⟩) t L K (un _) = appN 1 24 [.lst .nil 0 []] (ev t b) (ev t x) L K (un _) := aop_appN ti22 ti3
@[go_sem] theorem is22 : (isSliceK (tiOf Try.prog 22).kind = true) = True := by rw [ti22]; exact eq_true rfl
@[go_sem] theorem ld23 {x : Operand} : aopW Try.prog R n0 nd (.load 23 x) t L K (un _) = loadK true 3 (ev t x) L K (un _) := aop_loadK ti23
@[go_sem] theorem bx23 {x : Operand} : aopW Try.prog R n0 nd (.box 23 x) t L K (un _) = boxK 3 (ev t x) L K (un _) := aop_boxK ti23
@[go_sem] theorem st23 {x y : Operand} : aopW Try.prog R n0 nd (.store 23 x y) t L K (un _) = storeK (ev t x) (ev t y) 3 true L K (un _) := aop_storeK ti23
@[go_sem] theorem al23  : aopW Try.prog R n0 nd (.alloc 23) t L K (un _) = K (.ptr L.length 0) (L ++ [.obj 0 [.imm (.int .i64 0), .imm (.int .i64 0), .imm (.lst .nil 0 [])]]) := aop_allocK ti23 rfl
@[go_sem] theorem fi23 {x : Operand} {f : Nat} : aopW Try.prog R n0 nd (.fieldAddr 23 x f) t L K (un _) = fieldK (nthP [(0, 1), (1, 1), (2, 1)] f) (ev t x) L K (un _) := aop_fieldK ti23
@[go_sem] theorem bd23 {parts : List (Nat × Operand)} : aopW Try.prog R n0 nd (.build 23 parts.toArray) t L K (un _) = bldK [(0, 1), (1, 1), (2, 1)] [.int .i64 0, .int .i64 0, .lst .nil 0 []] (mapP (ev t) parts) L K (un _) := aop_bldK ti23 rfl
@[go_sem] theorem lo23 {e o : Nat} {c : List AVal} : ldO (tiOf Try.prog 23) (.obj e c) o = some (True ∧ o + 3 ≤ c.length, .agg ((c.drop o).take 3)) := by rw [ti23]; exact ldO_agg
@[go_sem] theorem ld24 {x : Operand} : aopW Try.prog R n0 nd (.load 24 x) t L K (un _) = loadK true 3 (ev t x) L K (un _) := aop_loadK ti24
@[go_sem] theorem bx24 {x : Operand} : aopW Try.prog R n0 nd (.box 24 x) t L K (un _) = boxK 3 (ev t x) L K (un _) := aop_boxK ti24
@[go_sem] theorem st24 {x y : Operand} : aopW Try.prog R n0 nd (.store 24 x y) t L K (un _) = storeK (ev t x) (ev t y) 3 true L K (un _) := aop_storeK ti24
@[go_sem] theorem al24  : aopW Try.prog R n0 nd (.alloc 24) t L K (un _) = K (.ptr L.length 0) (L ++ [.obj 0 [.imm (.int .i64 0), .imm (.int .i64 0), .imm (.lst .nil 0 [])]]) := aop_allocK ti24 rfl
@[go_sem] theorem fi24 {x : Operand} {f : Nat} : aopW Try.prog R n0 nd (.fieldAddr 24 x f) t L K (un _) = fieldK (nthP [(0, 1), (1, 1), (2, 1)] f) (ev t x) L K (un _) := aop_fieldK ti24
@[go_sem] theorem bd24 {parts : List (Nat × Operand)} : aopW Try.prog R n0 nd (.build 24 parts.toArray) t L K (un _) = bldK [(0, 1), (1, 1), (2, 1)] [.int .i64 0, .int .i64 0, .lst .nil 0 []] (mapP (ev t) parts) L K (un _) := aop_bldK ti24 rfl
@[go_sem] theorem lo24 {e o : Nat} {c : List AVal} : ldO (tiOf Try.prog 24) (.obj e c) o = some (True ∧ o + 3 ≤ c.length, .agg ((c.drop o).take 3)) := by rw [ti24]; exact ldO_agg
@[go_sem] theorem ld25 {x : Operand} : aopW Try.prog R n0 nd (.load 25 x) t L K (un _) = loadK false 1 (ev t x) L K (un _) := aop_loadK ti25
@[go_sem] theorem bx25 {x : Operand} : aopW Try.prog R n0 nd (.box 25 x) t L K (un _) = boxK 1 (ev t x) L K (un _) := aop_boxK ti25
@[go_sem] theorem st25 {x y : Operand} : aopW Try.prog R n0 nd (.store 25 x y) t L K (un _) = storeK (ev t x) (ev t y) 1 true L K (un _) := aop_storeK ti25
@[go_sem] theorem al25  : aopW Try.prog R n0 nd (.alloc 25) t L K (un _) = K (.ptr L.length 0) (L ++ [.obj 0 [.imm (.lst .nil 0 [])]]) := aop_allocK ti25 rfl
@[go_sem] theorem ix25 {x i : Operand} : aopW Try.prog R n0 nd (.indexAddr 25 x i) t L K (un _) = idxK 1 (ev t x) (ev t i) L K (un _) := aop_idxK ti25
@[go_sem] theorem ln25 {x : Operand} : aopW Try.prog R n0 nd (.call ⟨.builtin .len, #[x], #[25]⟩) t L K (un _) = lenL (ev t x) L K (un _) := aop_lenL ti25
@[go_sem] theorem ct25 {x : Operand} {lo hi : Option Operand} : aopW Try.prog R n0 nd (.slice 25 x lo hi none) t L K (un _) = cutE 1 (ev t x) (lo.map (ev t)) (hi.map (ev t)) L K (un _) := aop_cutE ti25
@[go_sem] theorem ap25 {b x : Operand} : aopW Try.prog R n0 nd (.call ⟨.builtin .append, #[b, x], #[25, 25]⟩) t L K (un _) = appK 1 8 (ev t b) (ev t x) L K (un _) := aop_appK ti25 ti25
@[go_sem] theorem mk25 {x y : Operand} : aopW Try.prog R n0 nd (.makeSlice 25 x y) t L K (un _) = makeK 1 8 [.int .i64 0] (ev t x) (ev t y) L K (un _) := aop_makeK ti25
@[go_sem] theorem bs25 {len : Nat} {parts : List (Nat × Operand)} : aopW Try.prog R n0 nd (.buildSlice 25 (len + 1) parts.toArray) t L K (un _) = bsK 1 (len + 1) [.int .i64 0] (mapP (ev t) parts) L K (un _) := aop_bsK ti25
@[go_sem] theorem cp25 {x y : Operand} : aopW Try.prog R n0 nd (.call ⟨.builtin .copy, #[x, y], #[25, 25]⟩) t L K (un _) = cpyK 1 (ev t x) (ev t y) L K (un _) := aop_cpyK ti25
@[go_sem] theorem lo25 {e o : Nat} {c : List AVal} : ldO (tiOf Try.prog 25) (.obj e c) o = some (True ∧ o < c.length, getT c o) := by rw [ti25]; exact ldO_one
@[go_sem] theorem bz25  : aopW Try.prog R n0 nd (.buildSlice 25 0 #[]) t L K (un _) = K (.imm (.lst .void 0 [])) L := aop_bs0 ti25
@[go_sem] theorem an25 {b x : Operand} : aopW Try.prog R n0 nd (.call ⟨.builtin .append, #[b, x], #[25, 3]⟩) t L K (un _) = appN 1 8 [.int .i64 0] (ev t b) (ev t x) L K (un _) := aop_appN ti25 ti3
@[go_sem] theorem is25 : (isSliceK (tiOf Try.prog 25).kind = true) = True := by rw [ti25]; exact eq_true rfl
@[go_sem] theorem ld26 {x : Operand} : aopW Try.prog R n0 nd (.load 26 x) t L K (un _) = loadK true 4 (ev t x) L K (un _) := aop_loadK ti26
@[go_sem] theorem bx26 {x : Operand} : aopW Try.prog R n0 nd (.box 26 x) t L K (un _) = boxK 4 (ev t x) L K (un _) := aop_boxK ti26
@[go_sem] theorem st26 {x y : Operand} : aopW Try.prog R n0 nd (.store 26 x y) t L K (un _) = storeK (ev t x) (ev t y) 4 true L K (un _) := aop_storeK ti26
@[go_sem] theorem al26  : aopW Try.prog R n0 nd (.alloc 26) t L K (un _) = K (.ptr L.length 0) (L ++ [.obj 0 [.imm (.int .i64 0), .imm (.int .i64 0), .imm (.int .i64 0), .imm (.lst .nil 0 [])]]) := aop_allocK ti26 rfl
@[go_sem] theorem fi26 {x : Operand} {f : Nat} : aopW Try.prog R n0 nd (.fieldAddr 26 x f) t L K (un _) = fieldK (nthP [(0, 1), (1, 1), (2, 1), (3, 1)] f) (ev t x) L K (un _) := aop_fieldK ti26
@[go_sem] theorem bd26 {parts : List (Nat × Operand)} : aopW Try.prog R n0 nd (.build 26 parts.toArray) t L K (un _) = bldK [(0, 1), (1, 1), (2, 1), (3, 1)] [.int .i64 0, .int .i64 0, .int .i64 0, .lst .nil 0 []] (mapP (ev t) parts) L K (un _) := aop_bldK ti26 rfl
@[go_sem] theorem lo26 {e o : Nat} {c : List AVal} : ldO (tiOf Try.prog 26) (.obj e c) o = some (True ∧ o + 4 ≤ c.length, .agg ((c.drop o).take 4)) := by rw [ti26]; exact ldO_agg
@[go_sem] theorem ld27 {x : Operand} : aopW Try.prog R n0 nd (.load 27 x) t L K (un _) = loadK true 4 (ev t x) L K (un _) := aop_loadK ti27
@[go_sem] theorem bx27 {x : Operand} : aopW Try.prog R n0 nd (.box 27 x) t L K (un _) = boxK 4 (ev t x) L K (un _) := aop_boxK ti27
@[go_sem] theorem st27 {x y : Operand} : aopW Try.prog R n0 nd (.store 27 x y) t L K (un _) = storeK (ev t x) (ev t y) 4 true L K (un _) := aop_storeK ti27
@[go_sem] theorem al27  : aopW Try.prog R n0 nd (.alloc 27) t L K (un _) = K (.ptr L.length 0) (L ++ [.obj 0 [.imm (.int .i64 0), .imm (.int .i64 0), .imm (.int .i64 0), .imm (.lst .nil 0 [])]]) := aop_allocK ti27 rfl
@[go_sem] theorem fi27 {x : Operand} {f : Nat} : aopW Try.prog R n0 nd (.fieldAddr 27 x f) t L K (un _) = fieldK (nthP [(0, 1), (1, 1), (2, 1), (3, 1)] f) (ev t x) L K (un _) := aop_fieldK ti27
@[go_sem] theorem bd27 {parts : List (Nat × Operand)} : aopW Try.prog R n0 nd (.build 27 parts.toArray) t L K (un _) = bldK [(0, 1), (1, 1), (2, 1), (3, 1)] [.int .i64 0, .int .i64 0, .int .i64 0, .lst .nil 0 []] (mapP (ev t) parts) L K (un _) := aop_bldK ti27 rfl
@[go_sem] theorem lo27 {e o : Nat} {c : List AVal} : ldO (tiOf Try.prog 27) (.obj e c) o = some (True ∧ o + 4 ≤ c.length, .agg ((c.drop o).take 4)) := by rw [ti27]; exact ldO_agg
@[go_sem] theorem ld31 {x : Operand} : aopW Try.prog R n0 nd (.load 31 x) t L K (un _) = loadK false 1 (ev t x) L K (un _) := aop_loadK ti31
@[go_sem] theorem bx31 {x : Operand} : aopW Try.prog R n0 nd (.box 31 x) t L K (un _) = boxK 1 (ev t x) L K (un _) := aop_boxK ti31
@[go_sem] theorem st31 {x y : Operand} : aopW Try.prog R n0 nd (.store 31 x y) t L K (un _) = storeK (ev t x) (ev t y) 1 true L K (un _) := aop_storeK ti31
@[go_sem] theorem al31  : aopW Try.prog R n0 nd (.alloc 31) t L K (un _) = K (.ptr L.length 0) (L ++ [.obj 0 [.imm (.int .i64 0)]]) := aop_allocK ti31 rfl
@[go_sem] theorem lo31 {e o : Nat} {c : List AVal} : ldO (tiOf Try.prog 31) (.obj e c) o = some (True ∧ o < c.length, getT c o) := by rw [ti31]; exact ldO_one
@[go_sem] theorem ld52 {x : Operand} : aopW Try.prog R n0 nd (.load 52 x) t L K (un _) = loadK false 1 (ev t x) L K (un _) := aop_loadK ti52
@[go_sem] theorem bx52 {x : Operand} : aopW Try.prog R n0 nd (.box 52 x) t L K (un _) = boxK 1 (ev t x) L K (un _) := aop_boxK ti52
@[go_sem] theorem st52 {x y : Operand} : aopW Try.prog R n0 nd (.store 52 x y) t L K (un _) = storeK (ev t x) (ev t y) 1 true L K (un _) := aop_storeK ti52
@[go_sem] theorem al52  : aopW Try.prog R n0 nd (.alloc 52) t L K (un _) = K (.ptr L.length 0) (L ++ [.obj 0 [.imm (.int .u16 0)]]) := aop_allocK ti52 rfl
@[go_sem] theorem lo52 {e o : Nat} {c : List AVal} : ldO (tiOf Try.prog 52) (.obj e c) o = some (True ∧ o < c.length, getT c o) := by rw [ti52]; exact ldO_one
@[go_sem] theorem ld58 {x : Operand} : aopW Try.prog R n0 nd (.load 58 x) t L K (un _) = loadK false 1 (ev t x) L K (un _) := aop_loadK ti58
@[go_sem] theorem bx58 {x : Operand} : aopW Try.prog R n0 nd (.box 58 x) t L K (un _) = boxK 1 (ev t x) L K (un _) := aop_boxK ti58
@[go_sem] theorem st58 {x y : Operand} : aopW Try.prog R n0 nd (.store 58 x y) t L K (un _) = storeK (ev t x) (ev t y) 1 true L K (un _) := aop_storeK ti58
@[go_sem] theorem al58  : aopW Try.prog R n0 nd (.alloc 58) t L K (un _) = K (.ptr L.length 0) (L ++ [.obj 0 [.imm (.lst .nil 0 [])]]) := aop_allocK ti58 rfl
@[go_sem] theorem ix58 {x i : Operand} : aopW Try.prog R n0 nd (.indexAddr 58 x i) t L K (un _) = idxK 4 (ev t x) (ev t i) L K (un _) := aop_idxK ti58
@[go_sem] theorem ln58 {x : Operand} : aopW Try.prog R n0 nd (.call ⟨.builtin .len, #[x], #[58]⟩) t L K (un _) = lenL (ev t x) L K (un _) := aop_lenL ti58
@[go_sem] theorem ct58 {x : Operand} {lo hi : Option Operand} : aopW Try.prog R n0 nd (.slice 58 x lo hi none) t L K (un _) = cutE 4 (ev t x) (lo.map (ev t)) (hi.map (ev t)) L K (un _) := aop_cutE ti58
@[go_sem] theorem ap58 {b x : Operand} : aopW Try.prog R n0 nd (.call ⟨.builtin .append, #[b, x], #[58, 58]⟩) t L K (un _) = appK 4 48 (ev t b) (ev t x) L K (un _) := aop_appK ti58 ti58
@[go_sem] theorem mk58 {x y : Operand} : aopW Try.prog R n0 nd (.makeSlice 58 x y) t L K (un _) = makeK 4 48 [.int .i64 0, .int .i64 0, .int .i64 0, .lst .nil 0 []] (ev t x) (ev t y) L K (un _) := aop_makeK ti58
@[go_sem] theorem bs58 {len : Nat} {parts : List (Nat × Operand)} : aopW Try.prog R n0 nd (.buildSlice 58 (len + 1) parts.toArray) t L K (un _) = bsK 4 (len + 1) [.int .i64 0, .int .i64 0, .int .i64 0, .lst .nil 0 []] (mapP (ev t) parts) L K (un _) := aop_bsK ti58
@[go_sem] theorem cp58 {x y : Operand} : aopW Try.prog R n0 nd (.call ⟨.builtin .copy, #[x, y], #[58, 58]⟩) t L K (un _) = cpyK 4 (ev t x) (ev t y) L K (un _) := aop_cpyK ti58
@[go_sem] theorem lo58 {e o : Nat} {c : List AVal} : ldO (tiOf Try.prog 58) (.obj e c) o = some (True ∧ o < c.length, getT c o) := by rw [ti58]; exact ldO_one
@[go_sem] theorem bz58  : aopW Try.prog R n0 nd (.buildSlice 58 0 #[]) t L K (un _) = K (.imm (.lst .void 0 [])) L := aop_bs0 ti58
@[go_sem] theorem an58 {b x : Operand} : aopW Try.prog R n0 nd (.call ⟨.builtin .append, #[b, x], #[58, 3]⟩) t L K (un _) = appN 4 48 [.int .i64 0, .int .i64 0, .int .i64 0, .lst .nil 0 []] (ev t b) (ev t x) L K (un _) := aop_appN ti58 ti3
@[go_sem] theorem is58 : (isSliceK (tiOf Try.prog 58).kind = true) = True := by rw [ti58]; exact eq_true rfl
@[go_sem] theorem ld72 {x : Operand} : aopW Try.prog R n0 nd (.load 72 x) t L K (un _) = loadK false 1 (ev t x) L K (un _) := aop_loadK ti72
@[go_sem] theorem bx72 {x : Operand} : aopW Try.prog R n0 nd (.box 72 x) t L K (un _) = boxK 1 (ev t x) L K (un _) := aop_boxK ti72
@[go_sem] theorem st72 {x y : Operand} : aopW Try.prog R n0 nd (.store 72 x y) t L K (un _) = storeK (ev t x) (ev t y) 1 true L K (un _) := aop_storeK ti72
@[go_sem] theorem al72  : aopW Try.prog R n0 nd (.alloc 72) t L K (un _) = K (.ptr L.length 0) (L ++ [.obj 0 [.imm (.lst .nil 0 [])]]) := aop_allocK ti72 rfl
@[go_sem] theorem ix72 {x i : Operand} : aopW Try.prog R n0 nd (.indexAddr 72 x i) t L K (un _) = idxK 3 (ev t x) (ev t i) L K (un _) := aop_idxK ti72
@[go_sem] theorem ln72 {x : Operand} : aopW Try.prog R n0 nd (.call ⟨.builtin .len, #[x], #[72]⟩) t L K (un _) = lenL (ev t x) L K (un _) := aop_lenL ti72
@[go_sem] theorem ct72 {x : Operand} {lo hi : Option Operand} : aopW Try.prog R n0 nd (.slice 72 x lo hi none) t L K (un _) = cutE 3 (ev t x) (lo.map (ev t)) (hi.map (ev t)) L K (un _) := aop_cutE ti72
@[go_sem] theorem ap72 {b x : Operand} : aopW Try.prog R n0 nd (.call ⟨.builtin .append, #[b, x], #[72, 72]⟩) t L K (un _) = appK 3 24 (ev t b) (ev t x) L K (un _) := aop_appK ti72 ti72
@[go_sem] theorem mk72 {x y : Operand} : aopW Try.prog R n0 nd (.makeSlice 72 x y) t L K (un _) = makeK 3 24 [.int .i64 0, .int .i64 0, .int .i64 0] (ev t x) (ev t y) L K (un _) := aop_makeK ti72
@[go_sem] theorem bs72 {len : Nat} {parts : List (Nat × Operand)} : aopW Try.prog R n0 nd (.buildSlice 72 (len + 1) parts.toArray) t L K (un _) = bsK 3 (len + 1) [.int .i64 0, .int .i64 0, .int .i64 0] (mapP (ev t) parts) L K (un _) := aop_bsK ti72
@[go_sem] theorem cp72 {x y : Operand} : aopW Try.prog R n0 nd (.call ⟨.builtin .copy, #[x, y], #[72, 72]⟩) t L K (un _) = cpyK 3 (ev t x) (ev t y) L K (un _) := aop_cpyK ti72
@[go_sem] theorem lo72 {e o : Nat} {c : List AVal} : ldO (tiOf Try.prog 72) (.obj e c) o = some (True ∧ o < c.length, getT c o) := by rw [ti72]; exact ldO_one
@[go_sem] theorem bz72  : aopW Try.prog R n0 nd (.buildSlice 72 0 #[]) t L K (un _) = K (.imm (.lst .void 0 [])) L := aop_bs0 ti72
@[go_sem] theorem an72 {b x : Operand} : aopW Try.prog R n0 nd (.call ⟨.builtin .append, #[b, x], #[72, 3]⟩) t L K (un _) = appN 3 24 [.int .i64 0, .int .i64 0, .int .i64 0] (ev t b) (ev t x) L K (un _) := aop_appN ti72 ti3
@[go_sem] theorem is72 : (isSliceK (tiOf Try.prog 72).kind = true) = True := by rw [ti72]; exact eq_true rfl
@[go_sem] theorem ld75 {x : Operand} : aopW Try.prog R n0 nd (.load 75 x) t L K (un _) = loadK false 1 (ev t x) L K (un _) := aop_loadK ti75
@[go_sem] theorem bx75 {x : Operand} : aopW Try.prog R n0 nd (.box 75 x) t L K (un _) = boxK 1 (ev t x) L K (un _) := aop_boxK ti75
@[go_sem] theorem st75 {x y : Operand} : aopW Try.prog R n0 nd (.store 75 x y) t L K (un _) = storeK (ev t x) (ev t y) 1 true L K (un _) := aop_storeK ti75
@[go_sem] theorem al75  : aopW Try.prog R n0 nd (.alloc 75) t L K (un _) = K (.ptr L.length 0) (L ++ [.obj 0 [.imm (.lst .nil 0 [])]]) := aop_allocK ti75 rfl
@[go_sem] theorem ix75 {x i : Operand} : aopW Try.prog R n0 nd (.indexAddr 75 x i) t L K (un _) = idxK 2 (ev t x) (ev t i) L K (un _) := aop_idxK ti75
@[go_sem] theorem ln75 {x : Operand} : aopW Try.prog R n0 nd (.call ⟨.builtin .len, #[x], #[75]⟩) t L K (un _) = lenL (ev t x) L K (un _) := aop_lenL ti75
@[go_sem] theorem ct75 {x : Operand} {lo hi : Option Operand} : aopW Try.prog R n0 nd (.slice 75 x lo hi none) t L K (un _) = cutE 2 (ev t x) (lo.map (ev t)) (hi.map (ev t)) L K (un _) := aop_cutE ti75
@[go_sem] theorem ap75 {b x : Operand} : aopW Try.prog R n0 nd (.call ⟨.builtin .append, #[b, x], #[75, 75]⟩) t L K (un _) = appK 2 16 (ev t b) (ev t x) L K (un _) := aop_appK ti75 ti75
@[go_sem] theorem mk75 {x y : Operand} : aopW Try.prog R n0 nd (.makeSlice 75 x y) t L K (un _) = makeK 2 16 [.int .i64 0, .int .i64 0] (ev t x) (ev t y) L K (un _) := aop_makeK ti75
@[go_sem] theorem bs75 {len : Nat} {parts : List (Nat × Operand)} : aopW Try.prog R n0 nd (.buildSlice 75 (len + 1) parts.toArray) t L K (un _) = bsK 2 (len + 1) [.int .i64 0, .int .i64 0] (mapP (ev t) parts) L K (un _) := aop_bsK ti75
@[go_sem] theorem cp75 {x y : Operand} : aopW Try.prog R n0 nd (.call ⟨.builtin .copy, #[x, y], #[75, 75]⟩) t L K (un _) = cpyK 2 (ev t x) (ev t y) L K (un _) := aop_cpyK ti75
@[go_sem] theorem lo75 {e o : Nat} {c : List AVal} : ldO (tiOf Try.prog 75) (.obj e c) o = some (True ∧ o < c.length, getT c o) := by rw [ti75]; exact ldO_one
@[go_sem] theorem bz75  : aopW Try.prog R n0 nd (.buildSlice 75 0 #[]) t L K (un _) = K (.imm (.lst .void 0 [])) L := aop_bs0 ti75
@[go_sem] theorem an75 {b x : Operand} : aopW Try.prog R n0 nd (.call ⟨.builtin .append, #[b, x], #[75, 3]⟩) t L K (un _) = appN 2 16 [.int .i64 0, .int .i64 0] (ev t b) (ev t x) L K (un _) := aop_appN ti75 ti3
@[go_sem] theorem is75 : (isSliceK (tiOf Try.prog 75).kind = true) = True := by rw [ti75]; exact eq_true rfl
@[go_sem] theorem ld86 {x : Operand} : aopW Try.prog R n0 nd (.load 86 x) t L K (un _) = loadK false 1 (ev t x) L K (un _) := aop_loadK ti86
@[go_sem] theorem bx86 {x : Operand} : aopW Try.prog R n0 nd (.box 86 x) t L K (un _) = boxK 1 (ev t x) L K (un _) := aop_boxK ti86
@[go_sem] theorem st86 {x y : Operand} : aopW Try.prog R n0 nd (.store 86 x y) t L K (un _) = storeK (ev t x) (ev t y) 1 true L K (un _) := aop_storeK ti86
@[go_sem] theorem al86  : aopW Try.prog R n0 nd (.alloc 86) t L K (un _) = K (.ptr L.length 0) (L ++ [.obj 0 [.imm (.nilp)]]) := aop_allocK ti86 rfl
@[go_sem] theorem lo86 {e o : Nat} {c : List AVal} : ldO (tiOf Try.prog 86) (.obj e c) o = some (True ∧ o < c.length, getT c o) := by rw [ti86]; exact ldO_one
@[go_sem] theorem ld89 {x : Operand} : aopW Try.prog R n0 nd (.load 89 x) t L K (un _) = loadK true 8 (ev t x) L K (un _) := aop_loadK ti89
@[go_sem] theorem bx89 {x : Operand} : aopW Try.prog R n0 nd (.box 89 x) t L K (un _) = boxK 8 (ev t x) L K (un _) := aop_boxK ti89
@[go_sem] theorem st89 {x y : Operand} : aopW Try.prog R n0 nd (.store 89 x y) t L K (un _) = storeK (ev t x) (ev t y) 8 true L K (un _) := aop_storeK ti89
@[go_sem] theorem al89  : aopW Try.prog R n0 nd (.alloc 89) t L K (un _) = K (.ptr L.length 0) (L ++ [.obj 0 [.imm (.int .i64 0), .imm (.int .i64 0), .imm (.lst .nil 0 []), .imm (.int .i64 0), .imm (.int .i64 0), .imm (.lst .nil 0 []), .imm (.int .i64 0), .imm (.int .i64 0)]]) := aop_allocK ti89 rfl
@[go_sem] theorem fi89 {x : Operand} {f : Nat} : aopW Try.prog R n0 nd (.fieldAddr 89 x f) t L K (un _) = fieldK (nthP [(0, 3), (3, 1), (4, 1), (5, 1), (6, 1), (7, 1)] f) (ev t x) L K (un _) := aop_fieldK ti89
@[go_sem] theorem bd89 {parts : List (Nat × Operand)} : aopW Try.prog R n0 nd (.build 89 parts.toArray) t L K (un _) = bldK [(0, 3), (3, 1), (4, 1), (5, 1), (6, 1), (7, 1)] [.int .i64 0, .int .i64 0, .lst .nil 0 [], .int .i64 0, .int .i64 0, .lst .nil 0 [], .int .i64 0, .int .i64 0] (mapP (ev t) parts) L K (un _) := aop_bldK ti89 rfl
@[go_sem] theorem lo89 {e o : Nat} {c : List AVal} : ldO (tiOf Try.prog 89) (.obj e c) o = some (True ∧ o + 8 ≤ c.length, .agg ((c.drop o).take 8)) := by rw [ti89]; exact ldO_agg
@[go_sem] theorem ld90 {x : Operand} : aopW Try.prog R n0 nd (.load 90 x) t L K (un _) = loadK true 8 (ev t x) L K (un _) := aop_loadK ti90
@[go_sem] theorem bx90 {x : Operand} : aopW Try.prog R n0 nd (.box 90 x) t L K (un _) = boxK 8 (ev t x) L K (un _) := aop_boxK ti90
@[go_sem] theorem st90 {x y : Operand} : aopW Try.prog R n0 nd (.store 90 x y) t L K (un _) = storeK (ev t x) (ev t y) 8 true L K (un _) := aop_storeK ti90
@[go_sem] theorem al90  : aopW Try.prog R n0 nd (.alloc 90) t L K (un _) = K (.ptr L.length 0) (L ++ [.obj 0 [.imm (.int .i64 0), .imm (.int .i64 0), .imm (.lst .nil 0 []), .imm (.int .i64 0), .imm (.int .i64 0), .imm (.lst .nil 0 []), .imm (.int .i64 0), .imm (.int .i64 0)]]) := aop_allocK ti90 rfl
@[go_sem] theorem fi90 {x : Operand} {f : Nat} : aopW Try.prog R n0 nd (.fieldAddr 90 x f) t L K (un _) = fieldK (nthP [(0, 3), (3, 1), (4, 1), (5, 1), (6, 1), (7, 1)] f) (ev t x) L K (un _) := aop_fieldK ti90
@[go_sem] theorem bd90 {parts : List (Nat × Operand)} : aopW Try.prog R n0 nd (.build 90 parts.toArray) t L K (un _) = bldK [(0, 3), (3, 1), (4, 1), (5, 1), (6, 1), (7, 1)] [.int .i64 0, .int .i64 0, .lst .nil 0 [], .int .i64 0, .int .i64 0, .lst .nil 0 [], .int .i64 0, .int .i64 0] (mapP (ev t) parts) L K (un _) := aop_bldK ti90 rfl
@[go_sem] theorem lo90 {e o : Nat} {c : List AVal} : ldO (tiOf Try.prog 90) (.obj e c) o = some (True ∧ o + 8 ≤ c.length, .agg ((c.drop o).take 8)) := by rw [ti90]; exact ldO_agg
@[go_sem] theorem ld93 {x : Operand} : aopW Try.prog R n0 nd (.load 93 x) t L K (un _) = loadK true 3 (ev t x) L K (un _) := aop_loadK ti93
@[go_sem] theorem bx93 {x : Operand} : aopW Try.prog R n0 nd (.box 93 x) t L K (un _) = boxK 3 (ev t x) L K (un _) := aop_boxK ti93
@[go_sem] theorem st93 {x y : Operand} : aopW Try.prog R n0 nd (.store 93 x y) t L K (un _) = storeK (ev t x) (ev t y) 3 true L K (un _) := aop_storeK ti93
@[go_sem] theorem al93  : aopW Try.prog R n0 nd (.alloc 93) t L K (un _) = K (.ptr L.length 0) (L ++ [.obj 0 [.imm (.int .i64 0), .imm (.int .i64 0), .imm (.int .i64 0)]]) := aop_allocK ti93 rfl
@[go_sem] theorem fi93 {x : Operand} {f : Nat} : aopW Try.prog R n0 nd (.fieldAddr 93 x f) t L K (un _) = fieldK (nthP [(0, 1), (1, 1), (2, 1)] f) (ev t x) L K (un _) := aop_fieldK ti93
@[go_sem] theorem bd93 {parts : List (Nat × Operand)} : aopW Try.prog R n0 nd (.build 93 parts.toArray) t L K (un _) = bldK [(0, 1), (1, 1), (2, 1)] [.int .i64 0, .int .i64 0, .int .i64 0] (mapP (ev t) parts) L K (un _) := aop_bldK ti93 rfl
@[go_sem] theorem lo93 {e o : Nat} {c : List AVal} : ldO (tiOf Try.prog 93) (.obj e c) o = some (True ∧ o + 3 ≤ c.length, .agg ((c.drop o).take 3)) := by rw [ti93]; exact ldO_agg
@[go_sem] theorem ld94 {x : Operand} : aopW Try.prog R n0 nd (.load 94 x) t L K (un _) = loadK true 3 (ev t x) L K (un _) := aop_loadK ti94
@[go_sem] theorem bx94 {x : Operand} : aopW Try.prog R n0 nd (.box 94 x) t L K (un _) = boxK 3 (ev t x) L K (un _) := aop_boxK ti94
@[go_sem] theorem st94 {x y : Operand} : aopW Try.prog R n0 nd (.store 94 x y) t L K (un _) = storeK (ev t x) (ev t y) 3 true L K (un _) := aop_storeK ti94
@[go_sem] theorem al94  : aopW Try.prog R n0 nd (.alloc 94) t L K (un _) = K (.ptr L.length 0) (L ++ [.obj 0 [.imm (.int .i64 0), .imm (.int .i64 0), .imm (.int .i64 0)]]) := aop_allocK ti94 rfl
@[go_sem] theorem fi94 {x : Operand} {f : Nat} : aopW Try.prog R n0 nd (.fieldAddr 94 x f) t L K (un _) = fieldK (nthP [(0, 1), (1, 1), (2, 1)] f) (ev t x) L K (un _) := aop_fieldK ti94
@[go_sem] theorem bd94 {parts : List (Nat × Operand)} : aopW Try.prog R n0 nd (.build 94 parts.toArray) t L K (un _) = bldK [(0, 1), (1, 1), (2, 1)] [.int .i64 0, .int .i64 0, .int .i64 0] (mapP (ev t) parts) L K (un _) := aop_bldK ti94 rfl
@[go_sem] theorem lo94 {e o : Nat} {c : List AVal} : ldO (tiOf Try.prog 94) (.obj e c) o = some (True ∧ o + 3 ≤ c.length, .agg ((c.drop o).take 3)) := by rw [ti94]; exact ldO_agg
@[go_sem] theorem ld96 {x : Operand} : aopW Try.prog R n0 nd (.load 96 x) t L K (un _) = loadK true 3 (ev t x) L K (un _) := aop_loadK ti96
@[go_sem] theorem bx96 {x : Operand} : aopW Try.prog R n0 nd (.box 96 x) t L K (un _) = boxK 3 (ev t x) L K (un _) := aop_boxK ti96
@[go_sem] theorem st96 {x y : Operand} : aopW Try.prog R n0 nd (.store 96 x y) t L K (un _) = storeK (ev t x) (ev t y) 3 true L K (un _) := aop_storeK ti96
@[go_sem] theorem al96  : aopW Try.prog R n0 nd (.alloc 96) t L K (un _) = K (.ptr L.length 0) (L ++ [.obj 0 [.imm (.int .i64 0), .imm (.int .i64 0), .imm (.int .i64 0)]]) := aop_allocK ti96 rfl
@[go_sem] theorem fi96 {x : Operand} {f : Nat} : aopW Try.prog R n0 nd (.fieldAddr 96 x f) t L K (un _) = fieldK (nthP [(0, 1), (1, 1), (2, 1)] f) (ev t x) L K (un _) := aop_fieldK ti96
@[go_sem] theorem bd96 {parts : List (Nat × Operand)} : aopW Try.prog R n0 nd (.build 96 parts.toArray) t L K (un _) = bldK [(0, 1), (1, 1), (2, 1)] [.int .i64 0, .int .i64 0, .int .i64 0] (mapP (ev t) parts) L K (un _) := aop_bldK ti96 rfl
@[go_sem] theorem lo96 {e o : Nat} {c : List AVal} : ldO (tiOf Try.prog 96) (.obj e c) o = some (True ∧ o + 3 ≤ c.length, .agg ((c.drop o).take 3)) := by rw [ti96]; exact ldO_agg
@[go_sem] theorem ld97 {x : Operand} : aopW Try.prog R n0 nd (.load 97 x) t L K (un _) = loadK true 3 (ev t x) L K (un _) := aop_loadK ti97
@[go_sem] theorem bx97 {x : Operand} : aopW Try.prog R n0 nd (.box 97 x) t L K (un _) = boxK 3 (ev t x) L K (un _) := aop_boxK ti97
@[go_sem] theorem st97 {x y : Operand} : aopW Try.prog R n0 nd (.store 97 x y) t L K (un _) = storeK (ev t x) (ev t y) 3 true L K (un _) := aop_storeK ti97
@[go_sem] theorem al97  : aopW Try.prog R n0 nd (.alloc 97) t L K (un _) = K (.ptr L.length 0) (L ++ [.obj 0 [.imm (.int .i64 0), .imm (.int .i64 0), .imm (.int .i64 0)]]) := aop_allocK ti97 rfl
@[go_sem] theorem fi97 {x : Operand} {f : Nat} : aopW Try.prog R n0 nd (.fieldAddr 97 x f) t L K (un _) = fieldK (nthP [(0, 1), (1, 1), (2, 1)] f) (ev t x) L K (un _) := aop_fieldK ti97
@[go_sem] theorem bd97 {parts : List (Nat × Operand)} : aopW Try.prog R n0 nd (.build 97 parts.toArray) t L K (un _) = bldK [(0, 1), (1, 1), (2, 1)] [.int .i64 0, .int .i64 0, .int .i64 0] (mapP (ev t) parts) L K (un _) := aop_bldK ti97 rfl
@[go_sem] theorem lo97 {e o : Nat} {c : List AVal} : ldO (tiOf Try.prog 97) (.obj e c) o = some (True ∧ o + 3 ≤ c.length, .agg ((c.drop o).take 3)) := by rw [ti97]; exact ldO_agg
@[go_sem] theorem ld98 {x : Operand} : aopW Try.prog R n0 nd (.load 98 x) t L K (un _) = loadK true 2 (ev t x) L K (un _) := aop_loadK ti98
@[go_sem] theorem bx98 {x : Operand} : aopW Try.prog R n0 nd (.box 98 x) t L K (un _) = boxK 2 (ev t x) L K (un _) := aop_boxK ti98
@[go_sem] theorem st98 {x y : Operand} : aopW Try.prog R n0 nd (.store 98 x y) t L K (un _) = storeK (ev t x) (ev t y) 2 true L K (un _) := aop_storeK ti98
@[go_sem] theorem al98  : aopW Try.prog R n0 nd (.alloc 98) t L K (un _) = K (.ptr L.length 0) (L ++ [.obj 0 [.imm (.int .i64 0), .imm (.int .i64 0)]]) := aop_allocK ti98 rfl
@[go_sem] theorem lo98 {e o : Nat} {c : List AVal} : ldO (tiOf Try.prog 98) (.obj e c) o = some (True ∧ o + 2 ≤ c.length, .agg ((c.drop o).take 2)) := by rw [ti98]; exact ldO_agg
@[go_sem] theorem ld99 {x : Operand} : aopW Try.prog R n0 nd (.load 99 x) t L K (un _) = loadK false 1 (ev t x) L K (un _) := aop_loadK ti99
@[go_sem] theorem bx99 {x : Operand} : aopW Try.prog R n0 nd (.box 99 x) t L K (un _) = boxK 1 (ev t x) L K (un _) := aop_boxK ti99
@[go_sem] theorem st99 {x y : Operand} : aopW Try.prog R n0 nd (.store 99 x y) t L K (un _) = storeK (ev t x) (ev t y) 1 true L K (un _) := aop_storeK ti99
@[go_sem] theorem al99  : aopW Try.prog R n0 nd (.alloc 99) t L K (un _) = K (.ptr L.length 0) (L ++ [.obj 0 [.imm (.lst .nil 0 [])]]) := aop_allocK ti99 rfl
@[go_sem] theorem ix99 {x i : Operand} : aopW Try.prog R n0 nd (.indexAddr 99 x i) t L K (un _) = idxK 3 (ev t x) (ev t i) L K (un _) := aop_idxK ti99
@[go_sem] theorem ln99 {x : Operand} : aopW Try.prog R n0 nd (.call ⟨.builtin .len, #[x], #[99]⟩) t L K (un _) = lenL (ev t x) L K (un _) := aop_lenL ti99
@[go_sem] theorem ct99 {x : Operand} {lo hi : Option Operand} : aopW Try.prog R n0 nd (.slice 99 x lo hi none) t L K (un _) = cutE 3 (ev t x) (lo.map (ev t)) (hi.map (ev t)) L K (un _) := aop_cutE ti99
@[go_sem] theorem ap99 {b x : Operand} : aopW Try.prog R n0 nd (.call ⟨.builtin .append, #[b, x], #[99, 99]⟩) t L K (un _) = appK 3 24 (ev t b) (ev t x) L K (un _) := aop_appK ti99 ti99
@[go_sem] theorem mk99 {x y : Operand} : aopW Try.prog R n0 nd (.makeSlice 99 x y) t L K (un _) = makeK 3 24 [.int .i64 0, .int .i64 0, .int .i64 0] (ev t x) (ev t y) L K (un _) := aop_makeK ti99
@[go_sem] theorem bs99 {len : Nat} {parts : List (Nat × Operand)} : aopW Try.prog R n0 nd (.buildSlice 99 (len + 1) parts.toArray) t L K (un _) = bsK 3 (len + 1) [.int .i64 0, .int .i64 0, .int .i64 0] (mapP (ev t) parts) L K (un _) := aop_bsK ti99
@[go_sem] theorem cp99 {x y : Operand} : aopW Try.prog R n0 nd (.call ⟨.builtin .copy, #[x, y], #[99, 99]⟩) t L K (un _) = cpyK 3 (ev t x) (ev t y) L K (un _) := aop_cpyK ti99
@[go_sem] theorem lo99 {e o : Nat} {c : List AVal} : ldO (tiOf Try.prog 99) (.obj e c) o = some (True ∧ o < c.length, getT c o) := by rw [ti99]; exact ldO_one
@[go_sem] theorem bz99  : aopW Try.prog R n0 nd (.buildSlice 99 0 #[]) t L K (un _) = K (.imm (.lst .void 0 [])) L := aop_bs0 ti99
@[go_sem] theorem an99 {b x : Operand} : aopW Try.prog R n0 nd (.call ⟨.builtin .append, #[b, x], #[99, 3]⟩) t L K (un _) = appN 3 24 [.int .i64 0, .int .i64 0, .int .i64 0] (ev t b) (ev t x) L K (un _) := aop_appN ti99 ti3
@[go_sem] theorem is99 : (isSliceK (tiOf Try.prog 99).kind = true) = True := by rw [ti99]; exact eq_true rfl
@[go_sem] theorem ld101 {x : Operand} : aopW Try.prog R n0 nd (.load 101 x) t L K (un _) = loadK true 8 (ev t x) L K (un _) := aop_loadK ti101
@[go_sem] theorem bx101 {x : Operand} : aopW Try.prog R n0 nd (.box 101 x) t L K (un _) = boxK 8 (ev t x) L K (un _) := aop_boxK ti101
@[go_sem] theorem st101 {x y : Operand} : aopW Try.prog R n0 nd (.store 101 x y) t L K (un _) = storeK (ev t x) (ev t y) 8 true L K (un _) := aop_storeK ti101
@[go_sem] theorem al101  : aopW Try.prog R n0 nd (.alloc 101) t L K (un _) = K (.ptr L.length 0) (L ++ [.obj 0 [.imm (.int .u8 0), .imm (.int .u8 0), .imm (.int .u8 0), .imm (.int .u8 0), .imm (.int .u8 0), .imm (.int .u8 0), .imm (.int .u8 0), .imm (.int .u8 0)]]) := aop_allocK ti101 rfl
@[go_sem] theorem lo101 {e o : Nat} {c : List AVal} : ldO (tiOf Try.prog 101) (.obj e c) o = some (True ∧ o + 8 ≤ c.length, .agg ((c.drop o).take 8)) := by rw [ti101]; exact ldO_agg
@[go_sem] theorem ld103 {x : Operand} : aopW Try.prog R n0 nd (.load 103 x) t L K (un _) = loadK false 1 (ev t x) L K (un _) := aop_loadK ti103
@[go_sem] theorem bx103 {x : Operand} : aopW Try.prog R n0 nd (.box 103 x) t L K (un _) = boxK 1 (ev t x) L K (un _) := aop_boxK ti103
@[go_sem] theorem st103 {x y : Operand} : aopW Try.prog R n0 nd (.store 103 x y) t L K (un _) = storeK (ev t x) (ev t y) 1 true L K (un _) := aop_storeK ti103
@[go_sem] theorem al103  : aopW Try.prog R n0 nd (.alloc 103) t L K (un _) = K (.ptr L.length 0) (L ++ [.obj 0 [.imm (.lst .nil 0 [])]]) := aop_allocK ti103 rfl
@[go_sem] theorem ix103 {x i : Operand} : aopW Try.prog R n0 nd (.indexAddr 103 x i) t L K (un _) = idxK 1 (ev t x) (ev t i) L K (un _) := aop_idxK ti103
@[go_sem] theorem ln103 {x : Operand} : aopW Try.prog R n0 nd (.call ⟨.builtin .len, #[x], #[103]⟩) t L K (un _) = lenL (ev t x) L K (un _) := aop_lenL ti103
@[go_sem] theorem ct103 {x : Operand} {lo hi : Option Operand} : aopW Try.prog R n0 nd (.slice 103 x lo hi none) t L K (un _) = cutE 1 (ev t x) (lo.map (ev t)) (hi.map (ev t)) L K (un _) := aop_cutE ti103
@[go_sem] theorem ap103 {b x : Operand} : aopW Try.prog R n0 nd (.call ⟨.builtin .append, #[b, x], #[103, 103]⟩) t L K (un _) = appK 1 1 (ev t b) (ev t x) L K (un _) := aop_appK ti103 ti103
@[go_sem] theorem mk103 {x y : Operand} : aopW Try.prog R n0 nd (.makeSlice 103 x y) t L K (un _) = makeK 1 1 [.int .u8 0] (ev t x) (ev t y) L K (un _) := aop_makeK ti103
@[go_sem] theorem bs103 {len : Nat} {parts : List (Nat × Operand)} : aopW Try.prog R n0 nd (.buildSlice 103 (len + 1) parts.toArray) t L K (un _) = bsK 1 (len + 1) [.int .u8 0] (mapP (ev t) parts) L K (un _) := aop_bsK ti103
@[go_sem] theorem cp103 {x y : Operand} : aopW Try.prog R n0 nd (.call ⟨.builtin .copy, #[x, y], #[103, 103]⟩) t L K (un _) = cpyK 1 (ev t x) (ev t y) L K (un _) := aop_cpyK ti103
@[go_sem] theorem lo103 {e o : Nat} {c : List AVal} : ldO (tiOf Try.prog 103) (.obj e c) o = some (True ∧ o < c.length, getT c o) := by rw [ti103]; exact ldO_one
@[go_sem] theorem bz103  : aopW Try.prog R n0 nd (.buildSlice 103 0 #[]) t L K (un _) = K (.imm (.lst .void 0 [])) L := aop_bs0 ti103
@[go_sem] theorem an103 {b x : Operand} : aopW Try.prog R n0 nd (.call ⟨.builtin .append, #[b, x], #[103, 3]⟩) t L K (un _) = appN 1 1 [.int .u8 0] (ev t b) (ev t x) L K (un _) := aop_appN ti103 ti3
@[go_sem] theorem is103 : (isSliceK (tiOf Try.prog 103).kind = true) = True := by rw [ti103]; exact eq_true rfl
@[go_sem] theorem ld105 {x : Operand} : aopW Try.prog R n0 nd (.load 105 x) t L K (un _) = loadK true 6 (ev t x) L K (un _) := aop_loadK ti105
@[go_sem] theorem bx105 {x : Operand} : aopW Try.prog R n0 nd (.box 105 x) t L K (un _) = boxK 6 (ev t x) L K (un _) := aop_boxK ti105
@[go_sem] theorem st105 {x y : Operand} : aopW Try.prog R n0 nd (.store 105 x y) t L K (un _) = storeK (ev t x) (ev t y) 6 true L K (un _) := aop_storeK ti105
@[go_sem] theorem al105  : aopW Try.prog R n0 nd (.alloc 105) t L K (un _) = K (.ptr L.length 0) (L ++ [.obj 0 [.imm (.int .u8 0), .imm (.int .u8 0), .imm (.int .u8 0), .imm (.int .u8 0), .imm (.int .u8 0), .imm (.int .u8 0)]]) := aop_allocK ti105 rfl
@[go_sem] theorem lo105 {e o : Nat} {c : List AVal} : ldO (tiOf Try.prog 105) (.obj e c) o = some (True ∧ o + 6 ≤ c.length, .agg ((c.drop o).take 6)) := by rw [ti105]; exact ldO_agg
@[go_sem] theorem ld106 {x : Operand} : aopW Try.prog R n0 nd (.load 106 x) t L K (un _) = loadK true 3 (ev t x) L K (un _) := aop_loadK ti106
@[go_sem] theorem bx106 {x : Operand} : aopW Try.prog R n0 nd (.box 106 x) t L K (un _) = boxK 3 (ev t x) L K (un _) := aop_boxK ti106
@[go_sem] theorem st106 {x y : Operand} : aopW Try.prog R n0 nd (.store 106 x y) t L K (un _) = storeK (ev t x) (ev t y) 3 true L K (un _) := aop_storeK ti106
@[go_sem] theorem al106  : aopW Try.prog R n0 nd (.alloc 106) t L K (un _) = K (.ptr L.length 0) (L ++ [.obj 0 [.imm (.int .i64 0), .imm (.int .i64 0), .imm (.int .i64 0)]]) := aop_allocK ti106 rfl
@[go_sem] theorem lo106 {e o : Nat} {c : List AVal} : ldO (tiOf Try.prog 106) (.obj e c) o = some (True ∧ o + 3 ≤ c.length, .agg ((c.drop o).take 3)) := by rw [ti106]; exact ldO_agg
@[go_sem] theorem ld108 {x : Operand} : aopW Try.prog R n0 nd (.load 108 x) t L K (un _) = loadK false 1 (ev t x) L K (un _) := aop_loadK ti108
@[go_sem] theorem bx108 {x : Operand} : aopW Try.prog R n0 nd (.box 108 x) t L K (un _) = boxK 1 (ev t x) L K (un _) := aop_boxK ti108
@[go_sem] theorem st108 {x y : Operand} : aopW Try.prog R n0 nd (.store 108 x y) t L K (un _) = storeK (ev t x) (ev t y) 1 true L K (un _) := aop_storeK ti108
@[go_sem] theorem al108  : aopW Try.prog R n0 nd (.alloc 108) t L K (un _) = K (.ptr L.length 0) (L ++ [.obj 0 [.imm (.int .i16 0)]]) := aop_allocK ti108 rfl
@[go_sem] theorem lo108 {e o : Nat} {c : List AVal} : ldO (tiOf Try.prog 108) (.obj e c) o = some (True ∧ o < c.length, getT c o) := by rw [ti108]; exact ldO_one
@[go_sem] theorem ld123 {x : Operand} : aopW Try.prog R n0 nd (.load 123 x) t L K (un _) = loadK false 1 (ev t x) L K (un _) := aop_loadK ti123
@[go_sem] theorem bx123 {x : Operand} : aopW Try.prog R n0 nd (.box 123 x) t L K (un _) = boxK 1 (ev t x) L K (un _) := aop_boxK ti123
@[go_sem] theorem st123 {x y : Operand} : aopW Try.prog R n0 nd (.store 123 x y) t L K (un _) = storeK (ev t x) (ev t y) 1 true L K (un _) := aop_storeK ti123
@[go_sem] theorem al123  : aopW Try.prog R n0 nd (.alloc 123) t L K (un _) = K (.ptr L.length 0) (L ++ [.obj 0 [.imm (.nilp)]]) := aop_allocK ti123 rfl
@[go_sem] theorem lo123 {e o : Nat} {c : List AVal} : ldO (tiOf Try.prog 123) (.obj e c) o = some (True ∧ o < c.length, getT c o) := by rw [ti123]; exact ldO_one
@[go_sem] theorem ld125 {x : Operand} : aopW Try.prog R n0 nd (.load 125 x) t L K (un _) = loadK true 8 (ev t x) L K (un _) := aop_loadK ti125
@[go_sem] theorem bx125 {x : Operand} : aopW Try.prog R n0 nd (.box 125 x) t L K (un _) = boxK 8 (ev t x) L K (un _) := aop_boxK ti125
@[go_sem] theorem st125 {x y : Operand} : aopW Try.prog R n0 nd (.store 125 x y) t L K (un _) = storeK (ev t x) (ev t y) 8 true L K (un _) := aop_storeK ti125
@[go_sem] theorem al125  : aopW Try.prog R n0 nd (.alloc 125) t L K (un _) = K (.ptr L.length 0) (L ++ [.obj 0 [.imm (.int .i64 0), .imm (.int .i64 0), .imm (.lst .nil 0 []), .imm (.nilp), .imm (.int .i64 0), .imm (.int .i64 0), .imm (.int .i64 0), .imm (.int .i64 0)]]) := aop_allocK ti125 rfl
@[go_sem] theorem fi125 {x : Operand} {f : Nat} : aopW Try.prog R n0 nd (.fieldAddr 125 x f) t L K (un _) = fieldK (nthP [(0, 3), (3, 1), (4, 1), (5, 1), (6, 1), (7, 1)] f) (ev t x) L K (un _) := aop_fieldK ti125
@[go_sem] theorem bd125 {parts : List (Nat × Operand)} : aopW Try.prog R n0 nd (.build 125 parts.toArray) t L K (un _) = bldK [(0, 3), (3, 1), (4, 1), (5, 1), (6, 1), (7, 1)] [.int .i64 0, .int .i64 0, .lst .nil 0 [], .nilp, .int .i64 0, .int .i64 0, .int .i64 0, .int .i64 0] (mapP (ev t) parts) L K (un _) := aop_bldK ti125 rfl
@[go_sem] theorem lo125 {e o : Nat} {c : List AVal} : ldO (tiOf Try.prog 125) (.obj e c) o = some (True ∧ o + 8 ≤ c.length, .agg ((c.drop o).take 8)) := by rw [ti125]; exact ldO_agg
@[go_sem] theorem ld126 {x : Operand} : aopW Try.prog R n0 nd (.load 126 x) t L K (un _) = loadK true 8 (ev t x) L K (un _) := aop_loadK ti126
@[go_sem] theorem bx126 {x : Operand} : aopW Try.prog R n0 nd (.box 126 x) t L K (un _) = boxK 8 (ev t x) L K (un _) := aop_boxK ti126
@[go_sem] theorem st126 {x y : Operand} : aopW Try.prog R n0 nd (.store 126 x y) t L K (un _) = storeK (ev t x) (ev t y) 8 true L K (un _) := aop_storeK ti126
@[go_sem] theorem al126  : aopW Try.prog R n0 nd (.alloc 126) t L K (un _) = K (.ptr L.length 0) (L ++ [.obj 0 [.imm (.int .i64 0), .imm (.int .i64 0), .imm (.lst .nil 0 []), .imm (.nilp), .imm (.int .i64 0), .imm (.int .i64 0), .imm (.int .i64 0), .imm (.int .i64 0)]]) := aop_allocK ti126 rfl
@[go_sem] theorem fi126 {x : Operand} {f : Nat} : aopW Try.prog R n0 nd (.fieldAddr 126 x f) t L K (un _) = fieldK (nthP [(0, 3), (3, 1), (4, 1), (5, 1), (6, 1), (7, 1)] f) (ev t x) L K (un _) := aop_fieldK ti126
@[go_sem] theorem bd126 {parts : List (Nat × Operand)} : aopW Try.prog R n0 nd (.build 126 parts.toArray) t L K (un _) = bldK [(0, 3), (3, 1), (4, 1), (5, 1), (6, 1), (7, 1)] [.int .i64 0, .int .i64 0, .lst .nil 0 [], .nilp, .int .i64 0, .int .i64 0, .int .i64 0, .int .i64 0] (mapP (ev t) parts) L K (un _) := aop_bldK ti126 rfl
@[go_sem] theorem lo126 {e o : Nat} {c : List AVal} : ldO (tiOf Try.prog 126) (.obj e c) o = some (True ∧ o + 8 ≤ c.length, .agg ((c.drop o).take 8)) := by rw [ti126]; exact ldO_agg
@[go_sem] theorem ld134 {x : Operand} : aopW Try.prog R n0 nd (.load 134 x) t L K (un _) = loadK true 4 (ev t x) L K (un _) := aop_loadK ti134
@[go_sem] theorem bx134 {x : Operand} : aopW Try.prog R n0 nd (.box 134 x) t L K (un _) = boxK 4 (ev t x) L K (un _) := aop_boxK ti134
@[go_sem] theorem st134 {x y : Operand} : aopW Try.prog R n0 nd (.store 134 x y) t L K (un _) = storeK (ev t x) (ev t y) 4 true L K (un _) := aop_storeK ti134
@[go_sem] theorem al134  : aopW Try.prog R n0 nd (.alloc 134) t L K (un _) = K (.ptr L.length 0) (L ++ [.obj 0 [.imm (.int .i64 0), .imm (.int .i64 0), .imm (.int .i64 0), .imm (.int .i64 0)]]) := aop_allocK ti134 rfl
@[go_sem] theorem fi134 {x : Operand} {f : Nat} : aopW Try.prog R n0 nd (.fieldAddr 134 x f) t L K (un _) = fieldK (nthP [(0, 1), (1, 1), (2, 1), (3, 1)] f) (ev t x) L K (un _) := aop_fieldK ti134
@[go_sem] theorem bd134 {parts : List (Nat × Operand)} : aopW Try.prog R n0 nd (.build 134 parts.toArray) t L K (un _) = bldK [(0, 1), (1, 1), (2, 1), (3, 1)] [.int .i64 0, .int .i64 0, .int .i64 0, .int .i64 0] (mapP (ev t) parts) L K (un _) := aop_bldK ti134 rfl
@[go_sem] theorem lo134 {e o : Nat} {c : List AVal} : ldO (tiOf Try.prog 134) (.obj e c) o = some (True ∧ o + 4 ≤ c.length, .agg ((c.drop o).take 4)) := by rw [ti134]; exact ldO_agg
@[go_sem] theorem ld135 {x : Operand} : aopW Try.prog R n0 nd (.load 135 x) t L K (un _) = loadK true 4 (ev t x) L K (un _) := aop_loadK ti135
@[go_sem] theorem bx135 {x : Operand} : aopW Try.prog R n0 nd (.box 135 x) t L K (un _) = boxK 4 (ev t x) L K (un _) := aop_boxK ti135
@[go_sem] theorem st135 {x y : Operand} : aopW Try.prog R n0 nd (.store 135 x y) t L K (un _) = storeK (ev t x) (ev t y) 4 true L K (un _) := aop_storeK ti135
@[go_sem] theorem al135  : aopW Try.prog R n0 nd (.alloc 135) t L K (un _) = K (.ptr L.length 0) (L ++ [.obj 0 [.imm (.int .i64 0), .imm (.int .i64 0), .imm (.int .i64 0), .imm (.int .i64 0)]]) := aop_allocK ti135 rfl
@[go_sem] theorem fi135 {x : Operand} {f : Nat} : aopW Try.prog R n0 nd (.fieldAddr 135 x f) t L K (un _) = fieldK (nthP [(0, 1), (1, 1), (2, 1), (3, 1)] f) (ev t x) L K (un _) := aop_fieldK ti135
@[go_sem] theorem bd135 {parts : List (Nat × Operand)} : aopW Try.prog R n0 nd (.build 135 parts.toArray) t L K (un _) = bldK [(0, 1), (1, 1), (2, 1), (3, 1)] [.int .i64 0, .int .i64 0, .int .i64 0, .int .i64 0] (mapP (ev t) parts) L K (un _) := aop_bldK ti135 rfl
@[go_sem] theorem lo135 {e o : Nat} {c : List AVal} : ldO (tiOf Try.prog 135) (.obj e c) o = some (True ∧ o + 4 ≤ c.length, .agg ((c.drop o).take 4)) := by rw [ti135]; exact ldO_agg
@[go_sem] theorem ld136 {x : Operand} : aopW Try.prog R n0 nd (.load 136 x) t L K (un _) = loadK false 1 (ev t x) L K (un _) := aop_loadK ti136
@[go_sem] theorem bx136 {x : Operand} : aopW Try.prog R n0 nd (.box 136 x) t L K (un _) = boxK 1 (ev t x) L K (un _) := aop_boxK ti136
@[go_sem] theorem st136 {x y : Operand} : aopW Try.prog R n0 nd (.store 136 x y) t L K (un _) = storeK (ev t x) (ev t y) 1 true L K (un _) := aop_storeK ti136
@[go_sem] theorem al136  : aopW Try.prog R n0 nd (.alloc 136) t L K (un _) = K (.ptr L.length 0) (L ++ [.obj 0 [.imm (.nilp)]]) := aop_allocK ti136 rfl
@[go_sem] theorem lo136 {e o : Nat} {c : List AVal} : ldO (tiOf Try.prog 136) (.obj e c) o = some (True ∧ o < c.length, getT c o) := by rw [ti136]; exact ldO_one
@[go_sem] theorem ld137 {x : Operand} : aopW Try.prog R n0 nd (.load 137 x) t L K (un _) = loadK true 7 (ev t x) L K (un _) := aop_loadK ti137
@[go_sem] theorem bx137 {x : Operand} : aopW Try.prog R n0 nd (.box 137 x) t L K (un _) = boxK 7 (ev t x) L K (un _) := aop_boxK ti137
@[go_sem] theorem st137 {x y : Operand} : aopW Try.prog R n0 nd (.store 137 x y) t L K (un _) = storeK (ev t x) (ev t y) 7 true L K (un _) := aop_storeK ti137
@[go_sem] theorem al137  : aopW Try.prog R n0 nd (.alloc 137) t L K (un _) = K (.ptr L.length 0) (L ++ [.obj 0 [.imm (.int .i64 0), .imm (.int .i64 0), .imm (.lst .nil 0 []), .imm (.int .i64 0), .imm (.int .i64 0), .imm (.lst .nil 0 []), .imm (.lst .nil 0 [])]]) := aop_allocK ti137 rfl
@[go_sem] theorem fi137 {x : Operand} {f : Nat} : aopW Try.prog R n0 nd (.fieldAddr 137 x f) t L K (un _) = fieldK (nthP [(0, 3), (3, 1), (4, 1), (5, 1), (6, 1)] f) (ev t x) L K (un _) := aop_fieldK ti137
@[go_sem] theorem bd137 {parts : List (Nat × Operand)} : aopW Try.prog R n0 nd (.build 137 parts.toArray) t L K (un _) = bldK [(0, 3), (3, 1), (4, 1), (5, 1), (6, 1)] [.int .i64 0, .int .i64 0, .lst .nil 0 [], .int .i64 0, .int .i64 0, .lst .nil 0 [], .lst .nil 0 []] (mapP (ev t) parts) L K (un _) := aop_bldK ti137 rfl
@[go_sem] theorem lo137 {e o : Nat} {c : List AVal} : ldO (tiOf Try.prog 137) (.obj e c) o = some (True ∧ o + 7 ≤ c.length, .agg ((c.drop o).take 7)) := by rw [ti137]; exact ldO_agg
@[go_sem] theorem ld138 {x : Operand} : aopW Try.prog R n0 nd (.load 138 x) t L K (un _) = loadK true 7 (ev t x) L K (un _) := aop_loadK ti138
@[go_sem] theorem bx138 {x : Operand} : aopW Try.prog R n0 nd (.box 138 x) t L K (un _) = boxK 7 (ev t x) L K (un _) := aop_boxK ti138
@[go_sem] theorem st138 {x y : Operand} : aopW Try.prog R n0 nd (.store 138 x y) t L K (un _) = storeK (ev t x) (ev t y) 7 true L K (un _) := aop_storeK ti138
@[go_sem] theorem al138  : aopW Try.prog R n0 nd (.alloc 138) t L K (un _) = K (.ptr L.length 0) (L ++ [.obj 0 [.imm (.int .i64 0), .imm (.int .i64 0), .imm (.lst .nil 0 []), .imm (.int .i64 0), .imm (.int .i64 0), .imm (.lst .nil 0 []), .imm (.lst .nil 0 [])]]) := aop_allocK ti138 rfl
@[go_sem] theorem fi138 {x : Operand} {f : Nat} : aopW Try.prog R n0 nd (.fieldAddr 138 x f) t L K (un _) = fieldK (nthP [(0, 3), (3, 1), (4, 1), (5, 1), (6, 1)] f) (ev t x) L K (un _) := aop_fieldK ti138
@[go_sem] theorem bd138 {parts : List (Nat × Operand)} : aopW Try.prog R n0 nd (.build 138 parts.toArray) t L K (un _) = bldK [(0, 3), (3, 1), (4, 1), (5, 1), (6, 1)] [.int .i64 0, .int .i64 0, .lst .nil 0 [], .int .i64 0, .int .i64 0, .lst .nil 0 [], .lst .nil 0 []] (mapP (ev t) parts) L K (un _) := aop_bldK ti138 rfl
@[go_sem] theorem lo138 {e o : Nat} {c : List AVal} : ldO (tiOf Try.prog 138) (.obj e c) o = some (True ∧ o + 7 ≤ c.length, .agg ((c.drop o).take 7)) := by rw [ti138]; exact ldO_agg
@[go_sem] theorem ld144 {x : Operand} : aopW Try.prog R n0 nd (.load 144 x) t L K (un _) = loadK true 3 (ev t x) L K (un _) := aop_loadK ti144
@[go_sem] theorem bx144 {x : Operand} : aopW Try.prog R n0 nd (.box 144 x) t L K (un _) = boxK 3 (ev t x) L K (un _) := aop_boxK ti144
@[go_sem] theorem st144 {x y : Operand} : aopW Try.prog R n0 nd (.store 144 x y) t L K (un _) = storeK (ev t x) (ev t y) 3 true L K (un _) := aop_storeK ti144
@[go_sem] theorem al144  : aopW Try.prog R n0 nd (.alloc 144) t L K (un _) = K (.ptr L.length 0) (L ++ [.obj 0 [.imm (.str []), .imm (.str []), .imm (.str [])]]) := aop_allocK ti144 rfl
@[go_sem] theorem lo144 {e o : Nat} {c : List AVal} : ldO (tiOf Try.prog 144) (.obj e c) o = some (True ∧ o + 3 ≤ c.length, .agg ((c.drop o).take 3)) := by rw [ti144]; exact ldO_agg
@[go_sem] theorem ld147 {x : Operand} : aopW Try.prog R n0 nd (.load 147 x) t L K (un _) = loadK false 1 (ev t x) L K (un _) := aop_loadK ti147
@[go_sem] theorem bx147 {x : Operand} : aopW Try.prog R n0 nd (.box 147 x) t L K (un _) = boxK 1 (ev t x) L K (un _) := aop_boxK ti147
@[go_sem] theorem st147 {x y : Operand} : aopW Try.prog R n0 nd (.store 147 x y) t L K (un _) = storeK (ev t x) (ev t y) 1 true L K (un _) := aop_storeK ti147
@[go_sem] theorem al147  : aopW Try.prog R n0 nd (.alloc 147) t L K (un _) = K (.ptr L.length 0) (L ++ [.obj 0 [.imm (.int .u64 0)]]) := aop_allocK ti147 rfl
@[go_sem] theorem lo147 {e o : Nat} {c : List AVal} : ldO (tiOf Try.prog 147) (.obj e c) o = some (True ∧ o < c.length, getT c o) := by rw [ti147]; exact ldO_one
@[go_sem] theorem ld152 {x : Operand} : aopW Try.prog R n0 nd (.load 152 x) t L K (un _) = loadK true 2 (ev t x) L K (un _) := aop_loadK ti152
@[go_sem] theorem bx152 {x : Operand} : aopW Try.prog R n0 nd (.box 152 x) t L K (un _) = boxK 2 (ev t x) L K (un _) := aop_boxK ti152
@[go_sem] theorem st152 {x y : Operand} : aopW Try.prog R n0 nd (.store 152 x y) t L K (un _) = storeK (ev t x) (ev t y) 2 true L K (un _) := aop_storeK ti152
@[go_sem] theorem al152  : aopW Try.prog R n0 nd (.alloc 152) t L K (un _) = K (.ptr L.length 0) (L ++ [.obj 0 [.imm (.lst .nil 0 []), .imm (.int .i64 0)]]) := aop_allocK ti152 rfl
@[go_sem] theorem fi152 {x : Operand} {f : Nat} : aopW Try.prog R n0 nd (.fieldAddr 152 x f) t L K (un _) = fieldK (nthP [(0, 1), (1, 1)] f) (ev t x) L K (un _) := aop_fieldK ti152
@[go_sem] theorem bd152 {parts : List (Nat × Operand)} : aopW Try.prog R n0 nd (.build 152 parts.toArray) t L K (un _) = bldK [(0, 1), (1, 1)] [.lst .nil 0 [], .int .i64 0] (mapP (ev t) parts) L K (un _) := aop_bldK ti152 rfl
@[go_sem] theorem lo152 {e o : Nat} {c : List AVal} : ldO (tiOf Try.prog 152) (.obj e c) o = some (True ∧ o + 2 ≤ c.length, .agg ((c.drop o).take 2)) := by rw [ti152]; exact ldO_agg
@[go_sem] theorem ld153 {x : Operand} : aopW Try.prog R n0 nd (.load 153 x) t L K (un _) = loadK true 2 (ev t x) L K (un _) := aop_loadK ti153
@[go_sem] theorem bx153 {x : Operand} : aopW Try.prog R n0 nd (.box 153 x) t L K (un _) = boxK 2 (ev t x) L K (un _) := aop_boxK ti153
@[go_sem] theorem st153 {x y : Operand} : aopW Try.prog R n0 nd (.store 153 x y) t L K (un _) = storeK (ev t x) (ev t y) 2 true L K (un _) := aop_storeK ti153
@[go_sem] theorem al153  : aopW Try.prog R n0 nd (.alloc 153) t L K (un _) = K (.ptr L.length 0) (L ++ [.obj 0 [.imm (.lst .nil 0 []), .imm (.int .i64 0)]]) := aop_allocK ti153 rfl
@[go_sem] theorem fi153 {x : Operand} {f : Nat} : aopW Try.prog R n0 nd (.fieldAddr 153 x f) t L K (un _) = fieldK (nthP [(0, 1), (1, 1)] f) (ev t x) L K (un _) := aop_fieldK ti153
@[go_sem] theorem bd153 {parts : List (Nat × Operand)} : aopW Try.prog R n0 nd (.build 153 parts.toArray) t L K (un _) = bldK [(0, 1), (1, 1)] [.lst .nil 0 [], .int .i64 0] (mapP (ev t) parts) L K (un _) := aop_bldK ti153 rfl
@[go_sem] theorem lo153 {e o : Nat} {c : List AVal} : ldO (tiOf Try.prog 153) (.obj e c) o = some (True ∧ o + 2 ≤ c.length, .agg ((c.drop o).take 2)) := by rw [ti153]; exact ldO_agg
@[go_sem] theorem ld154 {x : Operand} : aopW Try.prog R n0 nd (.load 154 x) t L K (un _) = loadK false 1 (ev t x) L K (un _) := aop_loadK ti154
@[go_sem] theorem bx154 {x : Operand} : aopW Try.prog R n0 nd (.box 154 x) t L K (un _) = boxK 1 (ev t x) L K (un _) := aop_boxK ti154
@[go_sem] theorem st154 {x y : Operand} : aopW Try.prog R n0 nd (.store 154 x y) t L K (un _) = storeK (ev t x) (ev t y) 1 true L K (un _) := aop_storeK ti154
@[go_sem] theorem al154  : aopW Try.prog R n0 nd (.alloc 154) t L K (un _) = K (.ptr L.length 0) (L ++ [.obj 0 [.imm (.nilp)]]) := aop_allocK ti154 rfl
@[go_sem] theorem lo154 {e o : Nat} {c : List AVal} : ldO (tiOf Try.prog 154) (.obj e c) o = some (True ∧ o < c.length, getT c o) := by rw [ti154]; exact ldO_one
@[go_sem] theorem ld158 {x : Operand} : aopW Try.prog R n0 nd (.load 158 x) t L K (un _) = loadK false 1 (ev t x) L K (un _) := aop_loadK ti158
@[go_sem] theorem bx158 {x : Operand} : aopW Try.prog R n0 nd (.box 158 x) t L K (un _) = boxK 1 (ev t x) L K (un _) := aop_boxK ti158
@[go_sem] theorem st158 {x y : Operand} : aopW Try.prog R n0 nd (.store 158 x y) t L K (un _) = storeK (ev t x) (ev t y) 1 true L K (un _) := aop_storeK ti158
@[go_sem] theorem al158  : aopW Try.prog R n0 nd (.alloc 158) t L K (un _) = K (.ptr L.length 0) (L ++ [.obj 0 [.imm (.lst .nil 0 [])]]) := aop_allocK ti158 rfl
@[go_sem] theorem ix158 {x i : Operand} : aopW Try.prog R n0 nd (.indexAddr 158 x i) t L K (un _) = idxK 1 (ev t x) (ev t i) L K (un _) := aop_idxK ti158
@[go_sem] theorem ln158 {x : Operand} : aopW Try.prog R n0 nd (.call ⟨.builtin .len, #[x], #[158]⟩) t L K (un _) = lenL (ev t x) L K (un _) := aop_lenL ti158
@[go_sem] theorem ct158 {x : Operand} {lo hi : Option Operand} : aopW Try.prog R n0 nd (.slice 158 x lo hi none) t L K (un _) = cutE 1 (ev t x) (lo.map (ev t)) (hi.map (ev t)) L K (un _) := aop_cutE ti158
@[go_sem] theorem ap158 {b x : Operand} : aopW Try.prog R n0 nd (.call ⟨.builtin .append, #[b, x], #[158, 158]⟩) t L K (un _) = appK 1 1 (ev t b) (ev t x) L K (un _) := aop_appK ti158 ti158
@[go_sem] theorem mk158 {x y : Operand} : aopW Try.prog R n0 nd (.makeSlice 158 x y) t L K (un _) = makeK 1 1 [.bool false] (ev t x) (ev t y) L K (un _) := aop_makeK ti158
@[go_sem] theorem bs158 {len : Nat} {parts : List (Nat × Operand)} : aopW Try.prog R n0 nd (.buildSlice 158 (len + 1) parts.toArray) t L K (un _) = bsK 1 (len + 1) [.bool false] (mapP (ev t) parts) L K (un _) := aop_bsK ti158
@[go_sem] theorem cp158 {x y : Operand} : aopW Try.prog R n0 nd (.call ⟨.builtin .copy, #[x, y], #[158, 158]⟩) t L K (un _) = cpyK 1 (ev t x) (ev t y) L K (un _) := aop_cpyK ti158
@[go_sem] theorem lo158 {e o : Nat} {c : List AVal} : ldO (tiOf Try.prog 158) (.obj e c) o = some (True ∧ o < c.length, getT c o) := by rw [ti158]; exact ldO_one
@[go_sem] theorem bz158  : aopW Try.prog R n0 nd (.buildSlice 158 0 #[]) t L K (un _) = K (.imm (.lst .void 0 [])) L := aop_bs0 ti158
@[go_sem] theorem an158 {b x : Operand} : aopW Try.prog R n0 nd (.call ⟨.builtin .append, #[b, x], #[158, 3]⟩) t L K (un _) = appN 1 1 [.bool false] (ev t b) (ev t x) L K (un _) := aop_appN ti158 ti3
@[go_sem] theorem is158 : (isSliceK (tiOf Try.prog 158).kind = true) = True := by rw [ti158]; exact eq_true rfl
@[go_sem] theorem ld160 {x : Operand} : aopW Try.prog R n0 nd (.load 160 x) t L K (un _) = loadK true 4 (ev t x) L K (un _) := aop_loadK ti160
@[go_sem] theorem bx160 {x : Operand} : aopW Try.prog R n0 nd (.box 160 x) t L K (un _) = boxK 4 (ev t x) L K (un _) := aop_boxK ti160
@[go_sem] theorem st160 {x y : Operand} : aopW Try.prog R n0 nd (.store 160 x y) t L K (un _) = storeK (ev t x) (ev t y) 4 true L K (un _) := aop_storeK ti160
@[go_sem] theorem al160  : aopW Try.prog R n0 nd (.alloc 160) t L K (un _) = K (.ptr L.length 0) (L ++ [.obj 0 [.imm (.nilp), .imm (.nilp), .imm (.nilp), .imm (.str [])]]) := aop_allocK ti160 rfl
@[go_sem] theorem fi160 {x : Operand} {f : Nat} : aopW Try.prog R n0 nd (.fieldAddr 160 x f) t L K (un _) = fieldK (nthP [(0, 1), (1, 1), (2, 1), (3, 1)] f) (ev t x) L K (un _) := aop_fieldK ti160
@[go_sem] theorem bd160 {parts : List (Nat × Operand)} : aopW Try.prog R n0 nd (.build 160 parts.toArray) t L K (un _) = bldK [(0, 1), (1, 1), (2, 1), (3, 1)] [.nilp, .nilp, .nilp, .str []] (mapP (ev t) parts) L K (un _) := aop_bldK ti160 rfl
@[go_sem] theorem lo160 {e o : Nat} {c : List AVal} : ldO (tiOf Try.prog 160) (.obj e c) o = some (True ∧ o + 4 ≤ c.length, .agg ((c.drop o).take 4)) := by rw [ti160]; exact ldO_agg
@[go_sem] theorem ld161 {x : Operand} : aopW Try.prog R n0 nd (.load 161 x) t L K (un _) = loadK true 4 (ev t x) L K (un _) := aop_loadK ti161
@[go_sem] theorem bx161 {x : Operand} : aopW Try.prog R n0 nd (.box 161 x) t L K (un _) = boxK 4 (ev t x) L K (un _) := aop_boxK ti161
@[go_sem] theorem st161 {x y : Operand} : aopW Try.prog R n0 nd (.store 161 x y) t L K (un _) = storeK (ev t x) (ev t y) 4 true L K (un _) := aop_storeK ti161
@[go_sem] theorem al161  : aopW Try.prog R n0 nd (.alloc 161) t L K (un _) = K (.ptr L.length 0) (L ++ [.obj 0 [.imm (.nilp), .imm (.nilp), .imm (.nilp), .imm (.str [])]]) := aop_allocK ti161 rfl
@[go_sem] theorem fi161 {x : Operand} {f : Nat} : aopW Try.prog R n0 nd (.fieldAddr 161 x f) t L K (un _) = fieldK (nthP [(0, 1), (1, 1), (2, 1), (3, 1)] f) (ev t x) L K (un _) := aop_fieldK ti161
@[go_sem] theorem bd161 {parts : List (Nat × Operand)} : aopW Try.prog R n0 nd (.build 161 parts.toArray) t L K (un _) = bldK [(0, 1), (1, 1), (2, 1), (3, 1)] [.nilp, .nilp, .nilp, .str []] (mapP (ev t) parts) L K (un _) := aop_bldK ti161 rfl
@[go_sem] theorem lo161 {e o : Nat} {c : List AVal} : ldO (tiOf Try.prog 161) (.obj e c) o = some (True ∧ o + 4 ≤ c.length, .agg ((c.drop o).take 4)) := by rw [ti161]; exact ldO_agg
@[go_sem] theorem fi163 {x : Operand} {f : Nat} : aopW Try.prog R n0 nd (.fieldAddr 163 x f) t L K (un _) = fieldK (nthP [(0, 0)] f) (ev t x) L K (un _) := aop_fieldK ti163
@[go_sem] theorem fi164 {x : Operand} {f : Nat} : aopW Try.prog R n0 nd (.fieldAddr 164 x f) t L K (un _) = fieldK (nthP [(0, 0)] f) (ev t x) L K (un _) := aop_fieldK ti164
@[go_sem] theorem ld165 {x : Operand} : aopW Try.prog R n0 nd (.load 165 x) t L K (un _) = loadK false 1 (ev t x) L K (un _) := aop_loadK ti165
@[go_sem] theorem bx165 {x : Operand} : aopW Try.prog R n0 nd (.box 165 x) t L K (un _) = boxK 1 (ev t x) L K (un _) := aop_boxK ti165
@[go_sem] theorem st165 {x y : Operand} : aopW Try.prog R n0 nd (.store 165 x y) t L K (un _) = storeK (ev t x) (ev t y) 1 true L K (un _) := aop_storeK ti165
@[go_sem] theorem al165  : aopW Try.prog R n0 nd (.alloc 165) t L K (un _) = K (.ptr L.length 0) (L ++ [.obj 0 [.imm (.int .u32 0)]]) := aop_allocK ti165 rfl
@[go_sem] theorem lo165 {e o : Nat} {c : List AVal} : ldO (tiOf Try.prog 165) (.obj e c) o = some (True ∧ o < c.length, getT c o) := by rw [ti165]; exact ldO_one
@[go_sem] theorem ld166 {x : Operand} : aopW Try.prog R n0 nd (.load 166 x) t L K (un _) = loadK false 1 (ev t x) L K (un _) := aop_loadK ti166
@[go_sem] theorem bx166 {x : Operand} : aopW Try.prog R n0 nd (.box 166 x) t L K (un _) = boxK 1 (ev t x) L K (un _) := aop_boxK ti166
@[go_sem] theorem st166 {x y : Operand} : aopW Try.prog R n0 nd (.store 166 x y) t L K (un _) = storeK (ev t x) (ev t y) 1 true L K (un _) := aop_storeK ti166
@[go_sem] theorem al166  : aopW Try.prog R n0 nd (.alloc 166) t L K (un _) = K (.ptr L.length 0) (L ++ [.obj 0 [.imm (.int .u8 0)]]) := aop_allocK ti166 rfl
@[go_sem] theorem lo166 {e o : Nat} {c : List AVal} : ldO (tiOf Try.prog 166) (.obj e c) o = some (True ∧ o < c.length, getT c o) := by rw [ti166]; exact ldO_one
@[go_sem] theorem ld167 {x : Operand} : aopW Try.prog R n0 nd (.load 167 x) t L K (un _) = loadK false 1 (ev t x) L K (un _) := aop_loadK ti167
@[go_sem] theorem bx167 {x : Operand} : aopW Try.prog R n0 nd (.box 167 x) t L K (un _) = boxK 1 (ev t x) L K (un _) := aop_boxK ti167
@[go_sem] theorem st167 {x y : Operand} : aopW Try.prog R n0 nd (.store 167 x y) t L K (un _) = storeK (ev t x) (ev t y) 1 true L K (un _) := aop_storeK ti167
@[go_sem] theorem al167  : aopW Try.prog R n0 nd (.alloc 167) t L K (un _) = K (.ptr L.length 0) (L ++ [.obj 0 [.imm (.int .u8 0)]]) := aop_allocK ti167 rfl
@[go_sem] theorem lo167 {e o : Nat} {c : List AVal} : ldO (tiOf Try.prog 167) (.obj e c) o = some (True ∧ o < c.length, getT c o) := by rw [ti167]; exact ldO_one
@[go_sem] theorem ld169 {x : Operand} : aopW Try.prog R n0 nd (.load 169 x) t L K (un _) = loadK false 1 (ev t x) L K (un _) := aop_loadK ti169
@[go_sem] theorem bx169 {x : Operand} : aopW Try.prog R n0 nd (.box 169 x) t L K (un _) = boxK 1 (ev t x) L K (un _) := aop_boxK ti169
@[go_sem] theorem st169 {x y : Operand} : aopW Try.prog R n0 nd (.store 169 x y) t L K (un _) = storeK (ev t x) (ev t y) 1 true L K (un _) := aop_storeK ti169
@[go_sem] theorem al169  : aopW Try.prog R n0 nd (.alloc 169) t L K (un _) = K (.ptr L.length 0) (L ++ [.obj 0 [.imm (.nilp)]]) := aop_allocK ti169 rfl
@[go_sem] theorem lo169 {e o : Nat} {c : List AVal} : ldO (tiOf Try.prog 169) (.obj e c) o = some (True ∧ o < c.length, getT c o) := by rw [ti169]; exact ldO_one
@[go_sem] theorem ld170 {x : Operand} : aopW Try.prog R n0 nd (.load 170 x) t L K (un _) = loadK false 1 (ev t x) L K (un _) := aop_loadK ti170
@[go_sem] theorem bx170 {x : Operand} : aopW Try.prog R n0 nd (.box 170 x) t L K (un _) = boxK 1 (ev t x) L K (un _) := aop_boxK ti170
@[go_sem] theorem st170 {x y : Operand} : aopW Try.prog R n0 nd (.store 170 x y) t L K (un _) = storeK (ev t x) (ev t y) 1 true L K (un _) := aop_storeK ti170
@[go_sem] theorem al170  : aopW Try.prog R n0 nd (.alloc 170) t L K (un _) = K (.ptr L.length 0) (L ++ [.obj 0 [.imm (.int .i32 0)]]) := aop_allocK ti170 rfl
@[go_sem] theorem lo170 {e o : Nat} {c : List AVal} : ldO (tiOf Try.prog 170) (.obj e c) o = some (True ∧ o < c.length, getT c o) := by rw [ti170]; exact ldO_one
@[go_sem] theorem ld171 {x : Operand} : aopW Try.prog R n0 nd (.load 171 x) t L K (un _) = loadK false 1 (ev t x) L K (un _) := aop_loadK ti171
@[go_sem] theorem bx171 {x : Operand} : aopW Try.prog R n0 nd (.box 171 x) t L K (un _) = boxK 1 (ev t x) L K (un _) := aop_boxK ti171
@[go_sem] theorem st171 {x y : Operand} : aopW Try.prog R n0 nd (.store 171 x y) t L K (un _) = storeK (ev t x) (ev t y) 1 true L K (un _) := aop_storeK ti171
@[go_sem] theorem al171  : aopW Try.prog R n0 nd (.alloc 171) t L K (un _) = K (.ptr L.length 0) (L ++ [.obj 0 [.imm (.int .i32 0)]]) := aop_allocK ti171 rfl
@[go_sem] theorem lo171 {e o : Nat} {c : List AVal} : ldO (tiOf Try.prog 171) (.obj e c) o = some (True ∧ o < c.length, getT c o) := by rw [ti171]; exact ldO_one
end
end Go.Proofs.Ytbleionbmdpmeaa
