/- The tables of this translation for the evaluator: written by gen2.py. No conditions. -/
import Derived.Test.YtbiildmljbcmeaaB2
import Derived.Test.YtbiildmljbcmeaaTg
set_option linter.unusedVariables false
set_option maxRecDepth 100000
namespace TabE
open Go Ab
abbrev o (d : Nat) (x : Op) (t : TypeId) : Oper := ⟨some d, x, t, "", #[], none⟩
abbrev m (d i : Nat) (t : TypeId) : Oper := ⟨some d, .move (.tmp i), t, "", #[], none⟩

def opnT : FuncId → Option (List Bool × Bool)
  | 70 => some ([true, false], false)
  | 100 => some ([false, true], true)
  | 101 => some ([false, false, true, true], true)
  | 113 => some ([false, false, true, true], true)
  | 114 => some ([true, true], true)
  | _ => none

def opn13 : FuncId → Option (List Bool × Bool)
  | 53 => some ([true, true], false)
  | i => opnT i

def c10 : Code :=
  (.seq (.region 0 #[o 3 (.box 65 (.tmp 0)) 0, o 6 (.assign (.const (.bool false))) 4] false)
 (.seq (.region 1 #[o 14 (.load 65 (.tmp 3)) 65, o 15 (.call { callee := .value (.func 42), args := #[.tmp 14], argTypes := #[65] }) 30, o 7 (.alloc 30) 0, ⟨none, .store 30 (.tmp 7) (.tmp 15), 0, "", #[], none⟩] false)
 (.seq (.region 2 #[m 16 1 66, o 17 (.call { callee := .value (.func 43), args := #[.tmp 16], argTypes := #[66] }) 67, o 8 (.assign (.tmp 17)) 67] false)
 (.seq (.region 3 #[o 18 (.call { callee := .value (.func 44), args := #[.const (.int .u8 0)], argTypes := #[5] }) 27, o 9 (.alloc 27) 0, ⟨none, .store 27 (.tmp 9) (.tmp 18), 0, "", #[], none⟩] false)
 (.seq (.seq (.region 4 #[m 19 2 5, o 20 (.binOp .rem 5 (.tmp 19) (.const (.int .u8 8)) 5) 5, o 21 (.binOp .eql 5 (.tmp 20) (.const (.int .u8 7)) 5) 4] false)
 (.cond (.tmp 21)
 (.region 5 #[m 22 2 5, o 23 (.binOp .quo 5 (.tmp 22) (.const (.int .u8 8)) 5) 5, o 24 (.call { callee := .value (.func 44), args := #[.tmp 23], argTypes := #[5] }) 27, ⟨none, .store 27 (.tmp 9) (.tmp 24), 0, "", #[], none⟩] false)
 .skip))
 (.seq (.region 6 #[o 26 (.load 30 (.tmp 7)) 30, o 27 (.load 27 (.tmp 9)) 27, m 28 8 67, o 29 (.call { callee := .value (.func 45), args := #[.tmp 26, .tmp 27, .tmp 28], argTypes := #[30, 27, 67] }) 72, m 25 29 72, o 30 (.extract (.tmp 25) 0) 47, o 31 (.extract (.tmp 25) 1) 71, o 11 (.alloc 71) 0, o 10 (.assign (.tmp 30)) 47, ⟨none, .store 71 (.tmp 11) (.tmp 31), 0, "", #[], none⟩] false)
 (.seq (.region 7 #[o 33 (.load 30 (.tmp 7)) 30, o 34 (.load 27 (.tmp 9)) 27, m 35 8 67, o 36 (.call { callee := .value (.func 46), args := #[.tmp 33, .tmp 34, .tmp 35], argTypes := #[30, 27, 67] }) 72, m 32 36 72, o 37 (.extract (.tmp 32) 0) 47, o 38 (.extract (.tmp 32) 1) 71, o 13 (.alloc 71) 0, o 12 (.assign (.tmp 37)) 47, ⟨none, .store 71 (.tmp 13) (.tmp 38), 0, "", #[], none⟩] false)
 (.seq (.region 8 #[m 39 10 47, m 40 12 47, o 41 (.call { callee := .value (.func 47), args := #[.tmp 39, .tmp 40], argTypes := #[47, 47] }) 3, o 42 (.binOp .eql 3 (.tmp 41) (.const (.int .i64 1)) 3) 4, m 43 42 4, ⟨some 44, .move (.tmp 10), 47, "", #[], some (43, true)⟩, ⟨some 45, .call { callee := .builtin .cap, args := #[.tmp 44], argTypes := #[47] }, 3, "", #[], some (43, true)⟩, ⟨some 46, .move (.tmp 10), 47, "", #[], some (43, true)⟩, ⟨some 47, .call { callee := .builtin .len, args := #[.tmp 46], argTypes := #[47] }, 3, "", #[], some (43, true)⟩, ⟨some 48, .binOp .eql 3 (.tmp 45) (.tmp 47) 3, 4, "", #[], some (43, true)⟩, o 49 (.pick (.tmp 43) (.tmp 48) (.const (.bool false))) 4, m 50 49 4, ⟨some 51, .load 71 (.tmp 11), 71, "", #[], some (50, true)⟩, ⟨some 52, .load 71 (.tmp 13), 71, "", #[], some (50, true)⟩, ⟨some 53, .call { callee := .value (.func 48), args := #[.tmp 51, .tmp 52], argTypes := #[71, 71] }, 3, "", #[], some (50, true)⟩, ⟨some 54, .binOp .eql 3 (.tmp 53) (.const (.int .i64 1)) 3, 4, "", #[], some (50, true)⟩, o 55 (.pick (.tmp 50) (.tmp 54) (.const (.bool false))) 4, m 56 55 4, ⟨some 57, .load 30 (.tmp 7), 30, "", #[], some (56, true)⟩, ⟨some 58, .load 65 (.tmp 3), 65, "", #[], some (56, true)⟩, ⟨some 59, .call { callee := .value (.func 42), args := #[.tmp 58], argTypes := #[65] }, 30, "", #[], some (56, true)⟩, ⟨some 60, .call { callee := .value (.func 49), args := #[.tmp 57, .tmp 59], argTypes := #[30, 30] }, 3, "", #[], some (56, true)⟩, ⟨some 61, .binOp .eql 3 (.tmp 60) (.const (.int .i64 1)) 3, 4, "", #[], some (56, true)⟩, o 62 (.pick (.tmp 56) (.tmp 61) (.const (.bool false))) 4, m 63 62 4, ⟨some 64, .call { callee := .value (.func 50), args := #[], argTypes := #[] }, 4, "", #[], some (63, true)⟩, o 65 (.pick (.tmp 63) (.tmp 64) (.const (.bool false))) 4, o 6 (.assign (.tmp 65)) 4] true)
 .ret))))))))
def fn10 : AFn := { ntmps := 66, results := [.tmp 6], body := c10, keep := fun | 0 => some [1, 2, 3] | 1 => some [1, 2, 3, 7] | 2 => some [2, 3, 7, 8] | 3 => some [2, 3, 7, 8, 9] | 4 => some [2, 3, 7, 8, 9, 21] | 5 => some [3, 7, 8, 9] | 6 => some [3, 7, 8, 9, 10, 11] | 7 => some [3, 7, 10, 11, 12, 13] | 8 => some [6] | _ => none, head := fun  | _ => none, opn := fun _ => none, dyn := fun _ => [] }
def c11 : Code :=
  (.seq (.region 0 #[o 2 (.box 65 (.tmp 0)) 0, o 4 (.assign (.const (.bool false))) 4] false)
 (.seq (.region 1 #[o 11 (.load 65 (.tmp 2)) 65, o 12 (.call { callee := .value (.func 42), args := #[.tmp 11], argTypes := #[65] }) 30, o 5 (.alloc 30) 0, ⟨none, .store 30 (.tmp 5) (.tmp 12), 0, "", #[], none⟩] false)
 (.seq (.region 2 #[m 13 1 66, o 14 (.call { callee := .value (.func 43), args := #[.tmp 13], argTypes := #[66] }) 67, o 6 (.assign (.tmp 14)) 67] false)
 (.seq (.region 3 #[o 16 (.load 30 (.tmp 5)) 30, o 17 (.call { callee := .value (.func 44), args := #[.const (.int .u8 0)], argTypes := #[5] }) 27, m 18 6 67, o 19 (.call { callee := .value (.func 45), args := #[.tmp 16, .tmp 17, .tmp 18], argTypes := #[30, 27, 67] }) 72, m 15 19 72, o 20 (.extract (.tmp 15) 0) 47, o 21 (.extract (.tmp 15) 1) 71, o 8 (.alloc 71) 0, o 7 (.assign (.tmp 20)) 47, ⟨none, .store 71 (.tmp 8) (.tmp 21), 0, "", #[], none⟩] true)
 (.seq (.seq (.region 4 #[o 22 (.fieldAddr 71 (.tmp 8) 1) 0, o 23 (.load 34 (.tmp 22)) 34, o 24 (.binOp .neq 34 (.tmp 23) (.const (.int .i64 0)) 34) 4] false)
 (.cond (.tmp 24)
 (.seq (.region 5 #[m 25 7 47, o 26 (.call { callee := .builtin .len, args := #[.tmp 25], argTypes := #[47] }) 3, o 27 (.binOp .eql 3 (.tmp 26) (.const (.int .i64 0)) 3) 4, m 28 27 4, ⟨some 29, .fieldAddr 71 (.tmp 8) 0, 0, "", #[], some (28, true)⟩, ⟨some 30, .load 47 (.tmp 29), 47, "", #[], some (28, true)⟩, ⟨some 31, .call { callee := .builtin .len, args := #[.tmp 30], argTypes := #[47] }, 3, "", #[], some (28, true)⟩, ⟨some 32, .binOp .lss 3 (.tmp 31) (.const (.int .i64 2)) 3, 4, "", #[], some (28, true)⟩, o 33 (.pick (.tmp 28) (.tmp 32) (.const (.bool false))) 4, m 34 33 4, ⟨some 35, .call { callee := .value (.func 50), args := #[], argTypes := #[] }, 4, "", #[], some (34, true)⟩, o 36 (.pick (.tmp 34) (.tmp 35) (.const (.bool false))) 4, o 4 (.assign (.tmp 36)) 4] false)
 .ret)
 .skip))
 (.seq (.seq (.region 6 #[m 37 7 47, o 38 (.call { callee := .builtin .len, args := #[.tmp 37], argTypes := #[47] }) 3, m 39 6 67, o 40 (.call { callee := .builtin .len, args := #[.tmp 39], argTypes := #[67] }) 3, o 41 (.binOp .neq 3 (.tmp 38) (.tmp 40) 3) 4] false)
 (.cond (.tmp 41)
 (.seq (.region 7 #[o 4 (.assign (.const (.bool false))) 4] false)
 .ret)
 .skip))
 (.seq (.region 8 #[o 9 (.assign (.const (.int .i64 0))) 3] false)
 (.seq (.seq (.region 9 #[o 10 (.assign (.const (.int .i64 0))) 3] false)
 (.block 0 (.loop (.seq (.seq (.region 10 #[m 42 10 3, m 43 6 67, o 44 (.call { callee := .builtin .len, args := #[.tmp 43], argTypes := #[67] }) 3, o 45 (.binOp .lss 3 (.tmp 42) (.tmp 44) 3) 4] false)
 (.cond (.tmp 45)
 .skip
 (.exit 0)))
 (.seq (.block 1 (.seq (.seq (.region 12 #[m 48 7 47, m 49 10 3, o 50 (.indexAddr 47 (.tmp 48) (.tmp 49)) 0, o 51 (.load 3 (.tmp 50)) 3, o 52 (.binOp .eql 3 (.tmp 51) (.const (.int .i64 (-1))) 3) 4, m 53 52 4, ⟨some 54, .move (.tmp 6), 67, "", #[], some (53, true)⟩, ⟨some 55, .move (.tmp 10), 3, "", #[], some (53, true)⟩, ⟨some 56, .indexAddr 67 (.tmp 54) (.tmp 55), 0, "", #[], some (53, true)⟩, ⟨some 57, .fieldAddr 78 (.tmp 56) 2, 0, "", #[], some (53, true)⟩, ⟨some 58, .load 4 (.tmp 57), 4, "", #[], some (53, true)⟩, o 59 (.pick (.tmp 53) (.tmp 58) (.const (.bool false))) 4] false)
 (.cond (.tmp 59)
 (.exit 1)
 .skip))
 (.seq (.seq (.region 13 #[m 60 7 47, m 61 10 3, o 62 (.indexAddr 47 (.tmp 60) (.tmp 61)) 0, o 63 (.load 3 (.tmp 62)) 3, m 64 9 3, o 65 (.binOp .neq 3 (.tmp 63) (.tmp 64) 3) 4, m 66 65 4, ⟨some 67, .move (.tmp 9), 3, "", #[], some (66, false)⟩, ⟨some 68, .fieldAddr 30 (.tmp 5) 2, 0, "", #[], some (66, false)⟩, ⟨some 69, .load 28 (.tmp 68), 28, "", #[], some (66, false)⟩, ⟨some 70, .call { callee := .builtin .len, args := #[.tmp 69], argTypes := #[28] }, 3, "", #[], some (66, false)⟩, ⟨some 71, .binOp .geq 3 (.tmp 67) (.tmp 70) 3, 4, "", #[], some (66, false)⟩, o 72 (.pick (.tmp 66) (.const (.bool true)) (.tmp 71)) 4, m 73 72 4, ⟨some 74, .move (.tmp 6), 67, "", #[], some (73, false)⟩, ⟨some 75, .move (.tmp 10), 3, "", #[], some (73, false)⟩, ⟨some 76, .indexAddr 67 (.tmp 74) (.tmp 75), 0, "", #[], some (73, false)⟩, ⟨some 77, .fieldAddr 78 (.tmp 76) 1, 0, "", #[], some (73, false)⟩, ⟨some 78, .load 4 (.tmp 77), 4, "", #[], some (73, false)⟩, ⟨some 79, .unOp .not 4 (.tmp 78), 4, "", #[], some (73, false)⟩, ⟨some 80, .move (.tmp 79), 4, "", #[], some (73, false)⟩, ⟨some 81, .fieldAddr 30 (.tmp 5) 2, 0, "", #[], some (80, true)⟩, ⟨some 82, .load 28 (.tmp 81), 28, "", #[], some (80, true)⟩, ⟨some 83, .move (.tmp 9), 3, "", #[], some (80, true)⟩, ⟨some 84, .indexAddr 28 (.tmp 82) (.tmp 83), 0, "", #[], some (80, true)⟩, ⟨some 85, .fieldAddr 30 (.tmp 84) 0, 0, "", #[], some (80, true)⟩, ⟨some 86, .load 27 (.tmp 85), 27, "", #[], some (80, true)⟩, ⟨some 87, .move (.tmp 6), 67, "", #[], some (80, true)⟩, ⟨some 88, .move (.tmp 10), 3, "", #[], some (80, true)⟩, ⟨some 89, .indexAddr 67 (.tmp 87) (.tmp 88), 0, "", #[], some (80, true)⟩, ⟨some 90, .fieldAddr 78 (.tmp 89) 0, 0, "", #[], some (80, true)⟩, ⟨some 91, .load 27 (.tmp 90), 27, "", #[], some (80, true)⟩, ⟨some 92, .binOp .neq 27 (.tmp 86) (.tmp 91) 27, 4, "", #[], some (80, true)⟩, ⟨some 93, .pick (.tmp 80) (.tmp 92) (.const (.bool false)), 4, "", #[], some (73, false)⟩, o 94 (.pick (.tmp 73) (.const (.bool true)) (.tmp 93)) 4] true)
 (.cond (.tmp 94)
 (.seq (.region 14 #[o 4 (.assign (.const (.bool false))) 4] false)
 .ret)
 .skip))
 (.region 15 #[m 95 9 3, o 96 (.binOp .add 3 (.tmp 95) (.const (.int .i64 1)) 3) 3, o 9 (.assign (.tmp 96)) 3] false))))
 (.region 11 #[m 46 10 3, o 47 (.binOp .add 3 (.tmp 46) (.const (.int .i64 1)) 3) 3, o 10 (.assign (.tmp 47)) 3] false))))))
 (.seq (.region 16 #[m 97 9 3, o 98 (.fieldAddr 30 (.tmp 5) 2) 0, o 99 (.load 28 (.tmp 98)) 28, o 100 (.call { callee := .builtin .len, args := #[.tmp 99], argTypes := #[28] }) 3, o 101 (.binOp .eql 3 (.tmp 97) (.tmp 100) 3) 4, m 102 101 4, ⟨some 103, .call { callee := .value (.func 50), args := #[], argTypes := #[] }, 4, "", #[], some (102, true)⟩, o 104 (.pick (.tmp 102) (.tmp 103) (.const (.bool false))) 4, o 4 (.assign (.tmp 104)) 4] false)
 .ret)))))))))
def fn11 : AFn := { ntmps := 105, results := [.tmp 4], body := c11, keep := fun | 0 => some [1, 2] | 1 => some [1, 5] | 2 => some [5, 6] | 3 => some [5, 6, 7, 8] | 4 => some [5, 6, 7, 8, 24] | 5 => some [4] | 6 => some [5, 6, 7, 41] | 7 => some [4] | 8 => some [5, 6, 7, 9] | 9 => some [5, 6, 7, 9, 10] | 10 => some [5, 6, 7, 9, 10, 45] | 11 => some [5, 6, 7, 9, 10] | 12 => some [5, 6, 7, 9, 10, 59] | 13 => some [5, 6, 7, 9, 10, 94] | 14 => some [4] | 15 => some [5, 6, 7, 9, 10] | 16 => some [4] | _ => none, head := fun | 10 => some [5, 6, 7, 9, 10] | _ => none, opn := fun _ => none, dyn := fun _ => [] }
def c13 : Code :=
  (.seq (.region 0 #[o 5 (.box 82 (.tmp 2)) 0, o 6 (.assign (.const (.bool false))) 4] false)
 (.seq (.seq (.region 1 #[m 13 0 47, o 14 (.call { callee := .builtin .len, args := #[.tmp 13], argTypes := #[47] }) 3, o 15 (.binOp .gtr 3 (.tmp 14) (.const (.int .i64 20)) 3) 4] false)
 (.cond (.tmp 15)
 (.seq (.region 2 #[o 16 (.call { callee := .value (.func 50), args := #[], argTypes := #[] }) 4, o 6 (.assign (.tmp 16)) 4] false)
 .ret)
 .skip))
 (.seq (.region 3 #[m 17 0 47, o 18 (.call { callee := .builtin .append, args := #[.const (.slice none 0 0), .tmp 17], argTypes := #[47, 47] }) 47, m 19 1 5, o 20 (.binOp .rem 5 (.tmp 19) (.const (.int .u8 26)) 5) 5, o 21 (.convert 5 34 (.tmp 20)) 34, o 22 (.build 71 #[(0, .tmp 18), (1, .tmp 21)]) 71, o 7 (.alloc 71) 0, ⟨none, .store 71 (.tmp 7) (.tmp 22), 0, "", #[], none⟩] false)
 (.seq (.region 4 #[o 23 (.indexAddr 82 (.tmp 5) (.const (.int .i64 0))) 0, o 24 (.load 3 (.tmp 23)) 3, o 25 (.load 71 (.tmp 7)) 71, o 26 (.call { callee := .value (.func 53), args := #[.tmp 24, .tmp 25], argTypes := #[3, 71] }) 71, o 8 (.alloc 71) 0, ⟨none, .store 71 (.tmp 8) (.tmp 26), 0, "", #[], none⟩] false)
 (.seq (.region 5 #[o 27 (.indexAddr 82 (.tmp 5) (.const (.int .i64 1))) 0, o 28 (.load 3 (.tmp 27)) 3, o 29 (.load 71 (.tmp 8)) 71, o 30 (.call { callee := .value (.func 53), args := #[.tmp 28, .tmp 29], argTypes := #[3, 71] }) 71, o 9 (.alloc 71) 0, ⟨none, .store 71 (.tmp 9) (.tmp 30), 0, "", #[], none⟩] false)
 (.seq (.seq (.region 6 #[o 31 (.fieldAddr 71 (.tmp 7) 1) 0, o 32 (.load 34 (.tmp 31)) 34, o 33 (.binOp .eql 34 (.tmp 32) (.const (.int .i64 0)) 34) 4] false)
 (.cond (.tmp 33)
 (.seq (.region 7 #[o 35 (.call { callee := .value (.func 55), args := #[], argTypes := #[] }) 30, o 36 (.load 71 (.tmp 7)) 71, o 37 (.call { callee := .value (.func 54), args := #[.tmp 35, .tmp 36], argTypes := #[30, 71] }) 84, m 34 37 84, o 38 (.extract (.tmp 34) 0) 3, o 39 (.extract (.tmp 34) 1) 34, o 10 (.assign (.tmp 38)) 3, o 11 (.assign (.tmp 39)) 34] true)
 (.seq (.region 8 #[o 40 (.load 71 (.tmp 8)) 71, o 41 (.build 71 #[]) 71, o 42 (.call { callee := .value (.func 48), args := #[.tmp 40, .tmp 41], argTypes := #[71, 71] }) 3, o 43 (.load 71 (.tmp 9)) 71, o 44 (.build 71 #[]) 71, o 45 (.call { callee := .value (.func 48), args := #[.tmp 43, .tmp 44], argTypes := #[71, 71] }) 3, o 46 (.binOp .mul 3 (.tmp 42) (.tmp 45) 3) 3, o 47 (.binOp .eql 3 (.tmp 46) (.const (.int .i64 1)) 3) 4, m 48 47 4, ⟨some 49, .move (.tmp 10), 3, "", #[], some (48, true)⟩, ⟨some 50, .binOp .eql 3 (.tmp 49) (.const (.int .i64 0)) 3, 4, "", #[], some (48, true)⟩, o 51 (.pick (.tmp 48) (.tmp 50) (.const (.bool false))) 4, m 52 51 4, ⟨some 53, .move (.tmp 11), 34, "", #[], some (52, true)⟩, ⟨some 54, .binOp .eql 34 (.tmp 53) (.const (.int .i64 0)) 34, 4, "", #[], some (52, true)⟩, o 55 (.pick (.tmp 52) (.tmp 54) (.const (.bool false))) 4, m 56 55 4, ⟨some 57, .call { callee := .value (.func 50), args := #[], argTypes := #[] }, 4, "", #[], some (56, true)⟩, o 58 (.pick (.tmp 56) (.tmp 57) (.const (.bool false))) 4, o 6 (.assign (.tmp 58)) 4] true)
 .ret))
 .skip))
 (.seq (.region 9 #[o 59 (.indexAddr 82 (.tmp 5) (.const (.int .i64 1))) 0, o 60 (.load 3 (.tmp 59)) 3, o 61 (.indexAddr 82 (.tmp 5) (.const (.int .i64 0))) 0, o 62 (.load 3 (.tmp 61)) 3, o 63 (.buildSlice 47 2 #[(0, .tmp 60), (1, .tmp 62)]) 47, m 64 0 47, o 65 (.call { callee := .builtin .append, args := #[.tmp 63, .tmp 64], argTypes := #[47, 47] }) 47, o 66 (.fieldAddr 71 (.tmp 7) 1) 0, o 67 (.load 34 (.tmp 66)) 34, o 68 (.build 71 #[(0, .tmp 65), (1, .tmp 67)]) 71, o 12 (.alloc 71) 0, ⟨none, .store 71 (.tmp 12) (.tmp 68), 0, "", #[], none⟩] true)
 (.seq (.seq (.region 10 #[o 69 (.load 71 (.tmp 9)) 71, o 70 (.load 71 (.tmp 12)) 71, o 71 (.call { callee := .value (.func 48), args := #[.tmp 69, .tmp 70], argTypes := #[71, 71] }) 3, o 72 (.binOp .eql 3 (.tmp 71) (.const (.int .i64 0)) 3) 4, m 73 72 4, ⟨some 74, .load 71 (.tmp 8), 71, "", #[], some (73, false)⟩, ⟨some 75, .fieldAddr 71 (.tmp 12) 0, 0, "", #[], some (73, false)⟩, ⟨some 76, .load 47 (.tmp 75), 47, "", #[], some (73, false)⟩, ⟨some 77, .slice 47 (.tmp 76) (some (.const (.int .i64 1))) none none, 47, "", #[], some (73, false)⟩, ⟨some 78, .fieldAddr 71 (.tmp 7) 1, 0, "", #[], some (73, false)⟩, ⟨some 79, .load 34 (.tmp 78), 34, "", #[], some (73, false)⟩, ⟨some 80, .build 71 #[(0, .tmp 77), (1, .tmp 79)], 71, "", #[], some (73, false)⟩, ⟨some 81, .call { callee := .value (.func 48), args := #[.tmp 74, .tmp 80], argTypes := #[71, 71] }, 3, "", #[], some (73, false)⟩, ⟨some 82, .binOp .eql 3 (.tmp 81) (.const (.int .i64 0)) 3, 4, "", #[], some (73, false)⟩, o 83 (.pick (.tmp 73) (.const (.bool true)) (.tmp 82)) 4] true)
 (.cond (.tmp 83)
 (.seq (.region 11 #[o 6 (.assign (.const (.bool false))) 4] false)
 .ret)
 .skip))
 (.seq (.region 12 #[o 84 (.fieldAddr 71 (.tmp 8) 0) 0, o 85 (.load 47 (.tmp 84)) 47, o 86 (.indexAddr 47 (.tmp 85) (.const (.int .i64 0))) 0, o 87 (.load 3 (.tmp 86)) 3, o 88 (.binOp .add 3 (.tmp 87) (.const (.int .i64 1)) 3) 3, o 89 (.indexAddr 47 (.tmp 85) (.const (.int .i64 0))) 0, ⟨none, .store 3 (.tmp 89) (.tmp 88), 0, "", #[], none⟩] false)
 (.seq (.region 13 #[o 90 (.fieldAddr 71 (.tmp 7) 0) 0, o 91 (.load 47 (.tmp 90)) 47, m 92 0 47, o 93 (.call { callee := .value (.func 47), args := #[.tmp 91, .tmp 92], argTypes := #[47, 47] }) 3, o 94 (.binOp .eql 3 (.tmp 93) (.const (.int .i64 1)) 3) 4, m 95 94 4, ⟨some 96, .fieldAddr 71 (.tmp 9) 0, 0, "", #[], some (95, true)⟩, ⟨some 97, .load 47 (.tmp 96), 47, "", #[], some (95, true)⟩, ⟨some 98, .indexAddr 47 (.tmp 97) (.const (.int .i64 1)), 0, "", #[], some (95, true)⟩, ⟨some 99, .load 3 (.tmp 98), 3, "", #[], some (95, true)⟩, ⟨some 100, .indexAddr 82 (.tmp 5) (.const (.int .i64 0)), 0, "", #[], some (95, true)⟩, ⟨some 101, .load 3 (.tmp 100), 3, "", #[], some (95, true)⟩, ⟨some 102, .binOp .eql 3 (.tmp 99) (.tmp 101) 3, 4, "", #[], some (95, true)⟩, o 103 (.pick (.tmp 95) (.tmp 102) (.const (.bool false))) 4, m 104 103 4, ⟨some 105, .call { callee := .value (.func 50), args := #[], argTypes := #[] }, 4, "", #[], some (104, true)⟩, o 106 (.pick (.tmp 104) (.tmp 105) (.const (.bool false))) 4, o 6 (.assign (.tmp 106)) 4] true)
 .ret))))))))))
def fn13 : AFn := { ntmps := 107, results := [.tmp 6], body := c13, keep := fun | 0 => some [0, 1, 5] | 1 => some [0, 1, 5, 15] | 2 => some [6] | 3 => some [0, 5, 7] | 4 => some [0, 5, 7, 8] | 5 => some [0, 5, 7, 8, 9] | 6 => some [0, 5, 7, 8, 9, 33] | 7 => some [8, 9, 10, 11] | 8 => some [6] | 9 => some [0, 5, 7, 8, 9, 12] | 10 => some [0, 5, 7, 8, 9, 83] | 11 => some [6] | 12 => some [0, 5, 7, 9] | 13 => some [6] | _ => none, head := fun  | _ => none, opn := opn13, dyn := fun | 9 => [(6, 8)] | _ => [] }
def c14 : Code :=
  (.seq (.region 0 #[o 3 (.box 65 (.tmp 0)) 0, o 4 (.box 82 (.tmp 1)) 0, o 6 (.assign (.const (.bool false))) 4] false)
 (.seq (.region 1 #[o 11 (.load 65 (.tmp 3)) 65, o 12 (.call { callee := .value (.func 42), args := #[.tmp 11], argTypes := #[65] }) 30, o 7 (.alloc 30) 0, ⟨none, .store 30 (.tmp 7) (.tmp 12), 0, "", #[], none⟩] false)
 (.seq (.region 2 #[o 13 (.call { callee := .value (.func 44), args := #[.const (.int .u8 0)], argTypes := #[5] }) 27, o 8 (.alloc 27) 0, ⟨none, .store 27 (.tmp 8) (.tmp 13), 0, "", #[], none⟩] false)
 (.seq (.seq (.region 3 #[m 14 2 25, o 15 (.binOp .rem 25 (.tmp 14) (.const (.int .u32 5)) 25) 25, o 16 (.binOp .eql 25 (.tmp 15) (.const (.int .u32 4)) 25) 4] false)
 (.cond (.tmp 16)
 (.region 4 #[m 17 2 25, o 18 (.convert 25 5 (.tmp 17)) 5, o 19 (.call { callee := .value (.func 44), args := #[.tmp 18], argTypes := #[5] }) 27, ⟨none, .store 27 (.tmp 8) (.tmp 19), 0, "", #[], none⟩] false)
 .skip))
 (.seq (.seq (.region 5 #[o 20 (.load 30 (.tmp 7)) 30, o 21 (.load 27 (.tmp 8)) 27, o 22 (.indexAddr 82 (.tmp 4) (.const (.int .i64 0))) 0, o 23 (.load 3 (.tmp 22)) 3, o 24 (.indexAddr 82 (.tmp 4) (.const (.int .i64 1))) 0, o 25 (.load 3 (.tmp 24)) 3, o 26 (.call { callee := .value (.func 56), args := #[.tmp 20, .tmp 21, .tmp 23, .tmp 25], argTypes := #[30, 27, 3, 3] }) 71, o 27 (.load 30 (.tmp 7)) 30, o 28 (.load 27 (.tmp 8)) 27, o 29 (.indexAddr 82 (.tmp 4) (.const (.int .i64 0))) 0, o 30 (.load 3 (.tmp 29)) 3, o 31 (.indexAddr 82 (.tmp 4) (.const (.int .i64 1))) 0, o 32 (.load 3 (.tmp 31)) 3, o 33 (.call { callee := .value (.func 57), args := #[.tmp 27, .tmp 28, .tmp 30, .tmp 32], argTypes := #[30, 27, 3, 3] }) 71, o 34 (.call { callee := .value (.func 48), args := #[.tmp 26, .tmp 33], argTypes := #[71, 71] }) 3, o 35 (.binOp .eql 3 (.tmp 34) (.const (.int .i64 0)) 3) 4] true)
 (.cond (.tmp 35)
 (.seq (.region 6 #[o 6 (.assign (.const (.bool false))) 4] false)
 .ret)
 .skip))
 (.seq (.seq (.region 7 #[o 9 (.assign (.const (.int .i64 0))) 3] false)
 (.block 0 (.loop (.seq (.seq (.region 8 #[m 36 9 3, o 37 (.fieldAddr 30 (.tmp 7) 2) 0, o 38 (.load 28 (.tmp 37)) 28, o 39 (.call { callee := .builtin .len, args := #[.tmp 38], argTypes := #[28] }) 3, o 40 (.binOp .lss 3 (.tmp 36) (.tmp 39) 3) 4] false)
 (.cond (.tmp 40)
 .skip
 (.exit 0)))
 (.seq (.block 1 (.seq (.region 10 #[o 43 (.fieldAddr 30 (.tmp 7) 2) 0, o 44 (.load 28 (.tmp 43)) 28, m 45 9 3, o 46 (.indexAddr 28 (.tmp 44) (.tmp 45)) 0, o 47 (.load 30 (.tmp 46)) 30, o 10 (.alloc 30) 0, ⟨none, .store 30 (.tmp 10) (.tmp 47), 0, "", #[], none⟩] false)
 (.seq (.region 11 #[o 48 (.load 30 (.tmp 10)) 30, m 49 2 25, o 50 (.call { callee := .value (.func 58), args := #[.tmp 48, .tmp 49], argTypes := #[30, 25] }) 71, o 51 (.load 30 (.tmp 10)) 30, m 52 2 25, o 53 (.call { callee := .value (.func 59), args := #[.tmp 51, .tmp 52], argTypes := #[30, 25] }) 71, o 54 (.call { callee := .value (.func 48), args := #[.tmp 50, .tmp 53], argTypes := #[71, 71] }) 3, o 55 (.binOp .eql 3 (.tmp 54) (.const (.int .i64 0)) 3) 4, m 56 55 4, ⟨some 57, .load 30 (.tmp 10), 30, "", #[], some (56, false)⟩, ⟨some 58, .fieldAddr 30 (.tmp 10) 0, 0, "", #[], some (56, false)⟩, ⟨some 59, .fieldAddr 27 (.tmp 58) 2, 0, "", #[], some (56, false)⟩, ⟨some 60, .load 25 (.tmp 59), 25, "", #[], some (56, false)⟩, ⟨some 61, .call { callee := .value (.func 58), args := #[.tmp 57, .tmp 60], argTypes := #[30, 25] }, 71, "", #[], some (56, false)⟩, ⟨some 62, .load 30 (.tmp 10), 30, "", #[], some (56, false)⟩, ⟨some 63, .fieldAddr 30 (.tmp 10) 0, 0, "", #[], some (56, false)⟩, ⟨some 64, .fieldAddr 27 (.tmp 63) 2, 0, "", #[], some (56, false)⟩, ⟨some 65, .load 25 (.tmp 64), 25, "", #[], some (56, false)⟩, ⟨some 66, .call { callee := .value (.func 59), args := #[.tmp 62, .tmp 65], argTypes := #[30, 25] }, 71, "", #[], some (56, false)⟩, ⟨some 67, .call { callee := .value (.func 48), args := #[.tmp 61, .tmp 66], argTypes := #[71, 71] }, 3, "", #[], some (56, false)⟩, ⟨some 68, .binOp .eql 3 (.tmp 67) (.const (.int .i64 0)) 3, 4, "", #[], some (56, false)⟩, o 69 (.pick (.tmp 56) (.const (.bool true)) (.tmp 68)) 4] true)
 (.cond (.tmp 69)
 (.seq (.region 12 #[o 6 (.assign (.const (.bool false))) 4] false)
 .ret)
 .skip))))
 (.region 9 #[m 41 9 3, o 42 (.binOp .add 3 (.tmp 41) (.const (.int .i64 1)) 3) 3, o 9 (.assign (.tmp 42)) 3] false))))))
 (.seq (.region 13 #[o 70 (.load 30 (.tmp 7)) 30, m 71 2 25, o 72 (.call { callee := .value (.func 58), args := #[.tmp 70, .tmp 71], argTypes := #[30, 25] }) 71, o 73 (.load 30 (.tmp 7)) 30, m 74 2 25, o 75 (.call { callee := .value (.func 59), args := #[.tmp 73, .tmp 74], argTypes := #[30, 25] }) 71, o 76 (.call { callee := .value (.func 48), args := #[.tmp 72, .tmp 75], argTypes := #[71, 71] }) 3, o 77 (.binOp .eql 3 (.tmp 76) (.const (.int .i64 1)) 3) 4, m 78 77 4, ⟨some 79, .call { callee := .value (.func 50), args := #[], argTypes := #[] }, 4, "", #[], some (78, true)⟩, o 80 (.pick (.tmp 78) (.tmp 79) (.const (.bool false))) 4, o 6 (.assign (.tmp 80)) 4] true)
 .ret)))))))
def fn14 : AFn := { ntmps := 81, results := [.tmp 6], body := c14, keep := fun | 0 => some [2, 3, 4] | 1 => some [2, 4, 7] | 2 => some [2, 4, 7, 8] | 3 => some [2, 4, 7, 8, 16] | 4 => some [2, 4, 7, 8] | 5 => some [2, 7, 35] | 6 => some [6] | 7 => some [2, 7, 9] | 8 => some [2, 7, 9, 40] | 9 => some [2, 7, 9] | 10 => some [2, 7, 9, 10] | 11 => some [2, 7, 9, 69] | 12 => some [6] | 13 => some [6] | _ => none, head := fun | 8 => some [2, 7, 9] | _ => none, opn := fun _ => none, dyn := fun _ => [] }
def c21 : Code :=
  (.seq (.region 0 #[o 1 (.box 30 (.tmp 0)) 0, o 2 (.assign (.const (.slice none 0 0))) 22, o 3 (.assign (.const (.int .i64 0))) 34] false)
 (.seq (.seq (.region 1 #[o 6 (.load 30 (.tmp 1)) 30, o 7 (.call { callee := .value (.func 32), args := #[.tmp 6], argTypes := #[30] }) 34, o 4 (.assign (.tmp 7)) 34] false)
 (.seq (.region 2 #[m 8 4 34, o 9 (.binOp .neq 34 (.tmp 8) (.const (.int .i64 0)) 34) 4] false)
 (.cond (.tmp 9)
 (.seq (.region 3 #[m 10 4 34, o 2 (.assign (.const (.slice none 0 0))) 22, o 3 (.assign (.tmp 10)) 34] false)
 .ret)
 .skip)))
 (.seq (.region 4 #[o 11 (.load 30 (.tmp 1)) 30, o 12 (.call { callee := .value (.func 69), args := #[.tmp 11], argTypes := #[30] }) 3, o 5 (.assign (.tmp 12)) 3] false)
 (.seq (.seq (.region 5 #[m 13 5 3, o 14 (.binOp .gtr 3 (.tmp 13) (.const (.int .i64 1048576)) 3) 4] false)
 (.cond (.tmp 14)
 (.seq (.region 6 #[o 2 (.assign (.const (.slice none 0 0))) 22, o 3 (.assign (.const (.int .i64 3))) 34] false)
 .ret)
 .skip))
 (.seq (.region 7 #[m 15 5 3, o 16 (.makeSlice 22 (.const (.int .i64 0)) (.tmp 15)) 22, o 17 (.load 30 (.tmp 1)) 30, o 18 (.call { callee := .value (.func 70), args := #[.tmp 16, .tmp 17], argTypes := #[22, 30] }) 22, o 2 (.assign (.tmp 18)) 22, o 3 (.assign (.const (.int .i64 0))) 34] true)
 .ret)))))
def fn21 : AFn := { ntmps := 19, results := [.tmp 2, .tmp 3], body := c21, keep := fun | 0 => some [1] | 1 => some [1, 4] | 2 => some [1, 4, 9] | 3 => some [2, 3] | 4 => some [1, 5] | 5 => some [1, 5, 14] | 6 => some [2, 3] | 7 => some [2, 3] | _ => none, head := fun  | _ => none, opn := opnT, dyn := fun | 7 => [(3, 3)] | _ => [] }
def c25 : Code :=
  (.seq (.region 0 #[o 2 (.box 30 (.tmp 0)) 0, o 4 (.alloc 30) 0, o 5 (.assign (.const (.int .i64 0))) 34] false)
 (.seq (.seq (.region 1 #[o 9 (.load 30 (.tmp 2)) 30, o 10 (.call { callee := .value (.func 32), args := #[.tmp 9], argTypes := #[30] }) 34, o 6 (.assign (.tmp 10)) 34] false)
 (.seq (.region 2 #[m 11 6 34, o 12 (.binOp .neq 34 (.tmp 11) (.const (.int .i64 0)) 34) 4] false)
 (.cond (.tmp 12)
 (.seq (.region 3 #[o 13 (.build 30 #[]) 30, m 14 6 34, ⟨none, .store 30 (.tmp 4) (.tmp 13), 0, "", #[], none⟩, o 5 (.assign (.tmp 14)) 34] false)
 .ret)
 .skip)))
 (.seq (.seq (.region 4 #[m 15 1 47, o 16 (.call { callee := .builtin .len, args := #[.tmp 15], argTypes := #[47] }) 3, o 17 (.move (.const (.int .i64 0))) 3] false)
 (.block 0 (.loop (.seq (.region 5 #[o 18 (.binOp .lss 3 (.tmp 17) (.tmp 16) 3) 0] false)
 (.seq (.cond (.tmp 18)
 .skip
 (.exit 0))
 (.seq (.block 1 (.seq (.region 6 #[o 19 (.indexAddr 47 (.tmp 15) (.tmp 17)) 0, o 20 (.load 3 (.tmp 19)) 3, o 8 (.assign (.tmp 20)) 3] false)
 (.seq (.seq (.region 7 #[m 21 8 3, o 22 (.binOp .lss 3 (.tmp 21) (.const (.int .i64 0)) 3) 4, m 23 22 4, ⟨some 24, .move (.tmp 8), 3, "", #[], some (23, false)⟩, ⟨some 25, .fieldAddr 30 (.tmp 2) 2, 0, "", #[], some (23, false)⟩, ⟨some 26, .load 28 (.tmp 25), 28, "", #[], some (23, false)⟩, ⟨some 27, .call { callee := .builtin .len, args := #[.tmp 26], argTypes := #[28] }, 3, "", #[], some (23, false)⟩, ⟨some 28, .binOp .geq 3 (.tmp 24) (.tmp 27) 3, 4, "", #[], some (23, false)⟩, o 29 (.pick (.tmp 23) (.const (.bool true)) (.tmp 28)) 4] false)
 (.cond (.tmp 29)
 (.seq (.region 8 #[o 30 (.build 30 #[]) 30, ⟨none, .store 30 (.tmp 4) (.tmp 30), 0, "", #[], none⟩, o 5 (.assign (.const (.int .i64 19))) 34] false)
 .ret)
 .skip))
 (.region 9 #[o 31 (.fieldAddr 30 (.tmp 2) 2) 0, o 32 (.load 28 (.tmp 31)) 28, m 33 8 3, o 34 (.indexAddr 28 (.tmp 32) (.tmp 33)) 0, o 35 (.load 30 (.tmp 34)) 30, ⟨none, .store 30 (.tmp 2) (.tmp 35), 0, "", #[], none⟩] false))))
 (.region 10 #[o 36 (.binOp .add 3 (.tmp 17) (.const (.int .i64 1)) 3) 3, m 17 36 3] false)))))))
 (.seq (.region 11 #[o 37 (.load 30 (.tmp 2)) 30, o 38 (.call { callee := .value (.func 74), args := #[.tmp 37], argTypes := #[30] }) 30, ⟨none, .store 30 (.tmp 4) (.tmp 38), 0, "", #[], none⟩, o 5 (.assign (.const (.int .i64 0))) 34] false)
 .ret))))
def fn25 : AFn := { ntmps := 39, results := [.cell 4 30, .tmp 5], body := c25, keep := fun | 0 => some [1, 2, 4] | 1 => some [1, 2, 4, 6] | 2 => some [1, 2, 4, 6, 12] | 3 => some [4, 5] | 4 => some [2, 4, 15, 16, 17] | 5 => some [2, 4, 15, 16, 17, 18] | 6 => some [2, 4, 8, 15, 16, 17] | 7 => some [2, 4, 8, 15, 16, 17, 29] | 8 => some [4, 5] | 9 => some [2, 4, 15, 16, 17] | 10 => some [2, 4, 15, 16, 17] | 11 => some [4, 5] | _ => none, head := fun | 5 => some [2, 4, 15, 16, 17] | _ => none, opn := fun _ => none, dyn := fun _ => [] }
def c32 : Code :=
  (.seq (.region 0 #[o 1 (.box 30 (.tmp 0)) 0, o 2 (.assign (.const (.int .i64 0))) 34] false)
 (.seq (.region 1 #[o 7 (.load 30 (.tmp 1)) 30, o 8 (.call { callee := .value (.func 75), args := #[.tmp 7], argTypes := #[30] }) 116, m 6 8 116, o 9 (.extract (.tmp 6) 0) 34, o 10 (.extract (.tmp 6) 1) 3, o 11 (.extract (.tmp 6) 2) 3, o 3 (.assign (.tmp 9)) 34, o 4 (.assign (.tmp 10)) 3, o 5 (.assign (.tmp 11)) 3] false)
 (.seq (.region 2 #[m 12 3 34, o 2 (.assign (.tmp 12)) 34] false)
 .ret)))
def fn32 : AFn := { ntmps := 13, results := [.tmp 2], body := c32, keep := fun | 0 => some [1] | 1 => some [3] | 2 => some [2] | _ => none, head := fun  | _ => none, opn := fun _ => none, dyn := fun _ => [] }
def c37 : Code :=
  (.seq (.region 0 #[o 2 (.box 30 (.tmp 0)) 0, o 3 (.box 30 (.tmp 1)) 0, o 4 (.assign (.const (.int .i64 0))) 3] false)
 (.seq (.region 1 #[o 10 (.load 30 (.tmp 2)) 30, o 11 (.call { callee := .value (.func 21), args := #[.tmp 10], argTypes := #[30] }) 35, m 9 11 35, o 12 (.extract (.tmp 9) 0) 22, o 13 (.extract (.tmp 9) 1) 34, o 5 (.assign (.tmp 12)) 22, o 6 (.assign (.tmp 13)) 34] false)
 (.seq (.region 2 #[o 15 (.load 30 (.tmp 3)) 30, o 16 (.call { callee := .value (.func 21), args := #[.tmp 15], argTypes := #[30] }) 35, m 14 16 35, o 17 (.extract (.tmp 14) 0) 22, o 18 (.extract (.tmp 14) 1) 34, o 7 (.assign (.tmp 17)) 22, o 8 (.assign (.tmp 18)) 34] false)
 (.seq (.region 3 #[m 19 5 22, m 20 7 22, o 21 (.call { callee := .value (.func 79), args := #[.tmp 19, .tmp 20], argTypes := #[22, 22] }) 3, o 4 (.assign (.tmp 21)) 3] false)
 .ret))))
def fn37 : AFn := { ntmps := 22, results := [.tmp 4], body := c37, keep := fun | 0 => some [2, 3] | 1 => some [3, 5] | 2 => some [5, 7] | 3 => some [4] | _ => none, head := fun  | _ => none, opn := fun _ => none, dyn := fun _ => [] }
def c42 : Code :=
  (.seq (.region 0 #[o 1 (.box 65 (.tmp 0)) 0, o 2 (.alloc 30) 0] false)
 (.seq (.region 1 #[o 6 (.fieldAddr 65 (.tmp 1) 0) 0, o 7 (.load 22 (.tmp 6)) 22, o 8 (.call { callee := .value (.func 81), args := #[.tmp 7, .const (.int .i64 0), .const (.int .i64 2)], argTypes := #[22, 3, 3] }) 122, m 5 8 122, o 9 (.extract (.tmp 5) 0) 28, o 10 (.extract (.tmp 5) 1) 3, o 3 (.assign (.tmp 9)) 28, o 4 (.assign (.tmp 10)) 3] false)
 (.seq (.region 2 #[o 11 (.call { callee := .value (.func 44), args := #[.const (.int .u8 0)], argTypes := #[5] }) 27, m 12 3 28, o 13 (.build 30 #[(0, .tmp 11), (2, .tmp 12)]) 30, ⟨none, .store 30 (.tmp 2) (.tmp 13), 0, "", #[], none⟩] false)
 .ret)))
def fn42 : AFn := { ntmps := 14, results := [.cell 2 30], body := c42, keep := fun | 0 => some [1, 2] | 1 => some [2, 3] | 2 => some [2] | _ => none, head := fun  | _ => none, opn := fun _ => none, dyn := fun _ => [] }
def c43 : Code :=
  (.seq (.region 0 #[o 2 (.assign (.const (.slice none 0 0))) 67] false)
 (.seq (.region 1 #[o 3 (.assign (.const (.slice none 0 0))) 67] false)
 (.seq (.seq (.region 2 #[o 4 (.assign (.const (.int .i64 0))) 3] false)
 (.block 0 (.loop (.seq (.seq (.region 3 #[m 5 4 3, m 6 0 66, o 7 (.call { callee := .builtin .len, args := #[.tmp 6], argTypes := #[66] }) 3, o 8 (.binOp .lss 3 (.tmp 5) (.tmp 7) 3) 4, m 9 8 4, ⟨some 10, .move (.tmp 4), 3, "", #[], some (9, true)⟩, ⟨some 11, .binOp .lss 3 (.tmp 10) (.const (.int .i64 20)) 3, 4, "", #[], some (9, true)⟩, o 12 (.pick (.tmp 9) (.tmp 11) (.const (.bool false))) 4] false)
 (.cond (.tmp 12)
 .skip
 (.exit 0)))
 (.seq (.block 1 (.region 5 #[m 15 3 67, m 16 0 66, m 17 4 3, o 18 (.indexAddr 66 (.tmp 16) (.tmp 17)) 0, o 19 (.fieldAddr 125 (.tmp 18) 0) 0, o 20 (.load 5 (.tmp 19)) 5, o 21 (.call { callee := .value (.func 44), args := #[.tmp 20], argTypes := #[5] }) 27, m 22 0 66, m 23 4 3, o 24 (.indexAddr 66 (.tmp 22) (.tmp 23)) 0, o 25 (.fieldAddr 125 (.tmp 24) 1) 0, o 26 (.load 5 (.tmp 25)) 5, o 27 (.binOp .rem 5 (.tmp 26) (.const (.int .u8 4)) 5) 5, o 28 (.binOp .eql 5 (.tmp 27) (.const (.int .u8 3)) 5) 4, m 29 0 66, m 30 4 3, o 31 (.indexAddr 66 (.tmp 29) (.tmp 30)) 0, o 32 (.fieldAddr 125 (.tmp 31) 1) 0, o 33 (.load 5 (.tmp 32)) 5, o 34 (.binOp .quo 5 (.tmp 33) (.const (.int .u8 4)) 5) 5, o 35 (.binOp .rem 5 (.tmp 34) (.const (.int .u8 2)) 5) 5, o 36 (.binOp .eql 5 (.tmp 35) (.const (.int .u8 1)) 5) 4, o 37 (.build 78 #[(0, .tmp 21), (1, .tmp 28), (2, .tmp 36)]) 78, o 38 (.buildSlice 67 1 #[(0, .tmp 37)]) 67, o 39 (.call { callee := .builtin .append, args := #[.tmp 15, .tmp 38], argTypes := #[67, 67] }) 67, o 3 (.assign (.tmp 39)) 67] true))
 (.region 4 #[m 13 4 3, o 14 (.binOp .add 3 (.tmp 13) (.const (.int .i64 1)) 3) 3, o 4 (.assign (.tmp 14)) 3] false))))))
 (.seq (.region 6 #[m 40 3 67, o 2 (.assign (.tmp 40)) 67] false)
 .ret))))
def fn43 : AFn := { ntmps := 41, results := [.tmp 2], body := c43, keep := fun | 0 => some [0] | 1 => some [0, 3] | 2 => some [0, 3, 4] | 3 => some [0, 3, 4, 12] | 4 => some [0, 3, 4] | 5 => some [0, 3, 4] | 6 => some [2] | _ => none, head := fun | 3 => some [0, 3, 4] | _ => none, opn := fun _ => none, dyn := fun _ => [] }
def c44 : Code :=
  (.seq (.region 0 #[o 2 (.alloc 27) 0] false)
 (.seq (.seq (.region 1 #[m 3 0 5, o 4 (.binOp .rem 5 (.tmp 3) (.const (.int .u8 8)) 5) 5] false)
 (.block 0 (.seq (.region 2 #[o 6 (.binOp .eql 5 (.tmp 4) (.const (.int .u8 0)) 5) 4, o 5 (.assign (.tmp 6)) 4] false)
 (.cond (.tmp 5)
 (.seq (.region 3 #[o 7 (.build 27 #[(1, .const (.bool true)), (2, .const (.int .u32 16))]) 27, ⟨none, .store 27 (.tmp 2) (.tmp 7), 0, "", #[], none⟩] false)
 .ret)
 (.seq (.region 4 #[o 9 (.binOp .eql 5 (.tmp 4) (.const (.int .u8 1)) 5) 4, o 8 (.assign (.tmp 9)) 4] false)
 (.cond (.tmp 8)
 (.seq (.region 5 #[o 10 (.build 27 #[(1, .const (.bool true)), (2, .const (.int .u32 17))]) 27, ⟨none, .store 27 (.tmp 2) (.tmp 10), 0, "", #[], none⟩] false)
 .ret)
 (.seq (.region 6 #[o 12 (.binOp .eql 5 (.tmp 4) (.const (.int .u8 2)) 5) 4, o 11 (.assign (.tmp 12)) 4] false)
 (.cond (.tmp 11)
 (.seq (.region 7 #[m 13 0 5, o 14 (.binOp .quo 5 (.tmp 13) (.const (.int .u8 8)) 5) 5, o 15 (.binOp .rem 5 (.tmp 14) (.const (.int .u8 4)) 5) 5, o 16 (.convert 5 25 (.tmp 15)) 25, o 17 (.binOp .mul 25 (.tmp 16) (.const (.int .u32 12)) 25) 25, o 18 (.build 27 #[(0, .const (.int .u8 2)), (1, .const (.bool true)), (2, .tmp 17)]) 27, ⟨none, .store 27 (.tmp 2) (.tmp 18), 0, "", #[], none⟩] false)
 .ret)
 (.seq (.region 8 #[o 20 (.binOp .eql 5 (.tmp 4) (.const (.int .u8 3)) 5) 4, o 19 (.assign (.tmp 20)) 4] false)
 (.cond (.tmp 19)
 (.seq (.region 9 #[m 21 0 5, o 22 (.binOp .quo 5 (.tmp 21) (.const (.int .u8 8)) 5) 5, o 23 (.binOp .rem 5 (.tmp 22) (.const (.int .u8 4)) 5) 5, o 24 (.convert 5 25 (.tmp 23)) 25, o 25 (.build 27 #[(0, .const (.int .u8 2)), (2, .tmp 24)]) 27, ⟨none, .store 27 (.tmp 2) (.tmp 25), 0, "", #[], none⟩] false)
 .ret)
 (.seq (.region 10 #[o 27 (.binOp .eql 5 (.tmp 4) (.const (.int .u8 4)) 5) 4, o 26 (.assign (.tmp 27)) 4] false)
 (.cond (.tmp 26)
 (.seq (.region 11 #[o 28 (.build 27 #[(2, .const (.int .u32 1))]) 27, ⟨none, .store 27 (.tmp 2) (.tmp 28), 0, "", #[], none⟩] false)
 .ret)
 (.seq (.region 12 #[o 30 (.binOp .eql 5 (.tmp 4) (.const (.int .u8 5)) 5) 4, o 29 (.assign (.tmp 30)) 4] false)
 (.cond (.tmp 29)
 (.seq (.region 13 #[o 31 (.build 27 #[(2, .const (.int .u32 4))]) 27, ⟨none, .store 27 (.tmp 2) (.tmp 31), 0, "", #[], none⟩] false)
 .ret)
 .skip))))))))))))))
 (.seq (.region 14 #[o 32 (.build 27 #[(2, .const (.int .u32 2))]) 27, ⟨none, .store 27 (.tmp 2) (.tmp 32), 0, "", #[], none⟩] false)
 .ret)))
def fn44 : AFn := { ntmps := 33, results := [.cell 2 27], body := c44, keep := fun | 0 => some [0, 2] | 1 => some [0, 2, 4] | 2 => some [0, 2, 4, 5] | 3 => some [2] | 4 => some [0, 2, 4, 8] | 5 => some [2] | 6 => some [0, 2, 4, 11] | 7 => some [2] | 8 => some [0, 2, 4, 19] | 9 => some [2] | 10 => some [2, 4, 26] | 11 => some [2] | 12 => some [2, 29] | 13 => some [2] | 14 => some [2] | _ => none, head := fun  | _ => none, opn := fun _ => none, dyn := fun _ => [] }
def c45 : Code :=
  (.seq (.region 0 #[o 3 (.box 30 (.tmp 0)) 0, o 4 (.box 27 (.tmp 1)) 0, o 6 (.assign (.const (.slice none 0 0))) 47, o 7 (.alloc 71) 0] false)
 (.seq (.block 0 (.seq (.region 1 #[m 14 2 67, o 15 (.call { callee := .builtin .len, args := #[.tmp 14], argTypes := #[67] }) 3, o 16 (.binOp .gtr 3 (.tmp 15) (.const (.int .i64 256)) 3) 4, o 13 (.assign (.tmp 16)) 4] false)
 (.cond (.tmp 13)
 (.seq (.region 2 #[o 17 (.call { callee := .value (.func 82), args := #[.const (.int .i64 3), .const (.slice none 0 0)], argTypes := #[34, 47] }) 71, o 6 (.assign (.const (.slice none 0 0))) 47, ⟨none, .store 71 (.tmp 7) (.tmp 17), 0, "", #[], none⟩] false)
 .ret)
 (.seq (.region 3 #[o 19 (.fieldAddr 30 (.tmp 3) 0) 0, o 20 (.load 27 (.tmp 19)) 27, o 21 (.load 27 (.tmp 4)) 27, o 22 (.binOp .neq 27 (.tmp 20) (.tmp 21) 27) 4, o 18 (.assign (.tmp 22)) 4] false)
 (.cond (.tmp 18)
 (.seq (.region 4 #[o 23 (.call { callee := .value (.func 82), args := #[.const (.int .i64 9), .const (.slice none 0 0)], argTypes := #[34, 47] }) 71, o 6 (.assign (.const (.slice none 0 0))) 47, ⟨none, .store 71 (.tmp 7) (.tmp 23), 0, "", #[], none⟩] false)
 .ret)
 .skip)))))
 (.seq (.region 5 #[o 8 (.assign (.const (.int .i64 0))) 3] false)
 (.seq (.region 6 #[m 24 2 67, o 25 (.call { callee := .builtin .len, args := #[.tmp 24], argTypes := #[67] }) 3, o 26 (.makeSlice 47 (.const (.int .i64 0)) (.tmp 25)) 47, o 9 (.assign (.tmp 26)) 47] false)
 (.seq (.seq (.region 7 #[m 27 2 67, o 28 (.call { callee := .builtin .len, args := #[.tmp 27], argTypes := #[67] }) 3, o 29 (.move (.const (.int .i64 0))) 3] false)
 (.block 1 (.loop (.seq (.region 8 #[o 30 (.binOp .lss 3 (.tmp 29) (.tmp 28) 3) 0] false)
 (.seq (.cond (.tmp 30)
 .skip
 (.exit 1))
 (.seq (.block 2 (.seq (.region 9 #[o 31 (.indexAddr 67 (.tmp 27) (.tmp 29)) 0, o 32 (.load 78 (.tmp 31)) 78, o 11 (.alloc 78) 0, ⟨none, .store 78 (.tmp 11) (.tmp 32), 0, "", #[], none⟩] false)
 (.seq (.region 10 #[o 33 (.load 78 (.tmp 11)) 78, o 34 (.makeFunc (.func 83) #[.tmp 33] #[]) 51, o 12 (.assign (.tmp 34)) 51] false)
 (.block 3 (.seq (.region 12 #[m 39 8 3, o 40 (.fieldAddr 30 (.tmp 3) 2) 0, o 41 (.load 28 (.tmp 40)) 28, o 42 (.call { callee := .builtin .len, args := #[.tmp 41], argTypes := #[28] }) 3, o 43 (.binOp .lss 3 (.tmp 39) (.tmp 42) 3) 4, m 44 43 4, ⟨some 45, .move (.tmp 12), 51, "", #[], some (44, true)⟩, ⟨some 46, .fieldAddr 30 (.tmp 3) 2, 0, "", #[], some (44, true)⟩, ⟨some 47, .load 28 (.tmp 46), 28, "", #[], some (44, true)⟩, ⟨some 48, .move (.tmp 8), 3, "", #[], some (44, true)⟩, ⟨some 49, .indexAddr 28 (.tmp 47) (.tmp 48), 0, "", #[], some (44, true)⟩, ⟨some 50, .load 30 (.tmp 49), 30, "", #[], some (44, true)⟩, ⟨some 51, .call { callee := .value (.tmp 45), args := #[.tmp 50], argTypes := #[30] }, 4, "", #[], some (44, true)⟩, o 52 (.pick (.tmp 44) (.tmp 51) (.const (.bool false))) 4, o 38 (.assign (.tmp 52)) 4] false)
 (.cond (.tmp 38)
 (.seq (.region 13 #[m 53 9 47, m 54 8 3, o 55 (.buildSlice 47 1 #[(0, .tmp 54)]) 47, o 56 (.call { callee := .builtin .append, args := #[.tmp 53, .tmp 55], argTypes := #[47, 47] }) 47, o 9 (.assign (.tmp 56)) 47] false)
 (.region 14 #[m 57 8 3, o 58 (.binOp .add 3 (.tmp 57) (.const (.int .i64 1)) 3) 3, o 8 (.assign (.tmp 58)) 3] false))
 (.seq (.region 15 #[o 60 (.fieldAddr 78 (.tmp 11) 2) 0, o 61 (.load 4 (.tmp 60)) 4, o 59 (.assign (.tmp 61)) 4] false)
 (.cond (.tmp 59)
 (.region 16 #[m 62 9 47, o 63 (.buildSlice 47 1 #[(0, .const (.int .i64 (-1)))]) 47, o 64 (.call { callee := .builtin .append, args := #[.tmp 62, .tmp 63], argTypes := #[47, 47] }) 47, o 9 (.assign (.tmp 64)) 47] false)
 (.seq (.region 17 #[m 66 8 3, o 67 (.fieldAddr 30 (.tmp 3) 2) 0, o 68 (.load 28 (.tmp 67)) 28, o 69 (.call { callee := .builtin .len, args := #[.tmp 68], argTypes := #[28] }) 3, o 70 (.binOp .eql 3 (.tmp 66) (.tmp 69) 3) 4, o 65 (.assign (.tmp 70)) 4] false)
 (.cond (.tmp 65)
 (.seq (.region 18 #[o 71 (.call { callee := .value (.func 82), args := #[.const (.int .i64 7), .const (.slice none 0 0)], argTypes := #[34, 47] }) 71, o 6 (.assign (.const (.slice none 0 0))) 47, ⟨none, .store 71 (.tmp 7) (.tmp 71), 0, "", #[], none⟩] false)
 .ret)
 (.seq (.region 11 #[m 35 8 3, ⟨some 36, .buildSlice 47 1 #[(0, .tmp 35)], 47, "", fz, none⟩, o 37 (.call { callee := .value (.func 82), args := #[.const (.int .i64 9), .tmp 36], argTypes := #[34, 47] }) 71, o 6 (.assign (.const (.slice none 0 0))) 47, ⟨none, .store 71 (.tmp 7) (.tmp 37), 0, "", #[], none⟩] false)
 .ret)))))))))))
 (.region 19 #[o 72 (.binOp .add 3 (.tmp 29) (.const (.int .i64 1)) 3) 3, m 29 72 3] false)))))))
 (.seq (.seq (.region 20 #[m 73 8 3, o 74 (.fieldAddr 30 (.tmp 3) 2) 0, o 75 (.load 28 (.tmp 74)) 28, o 76 (.call { callee := .builtin .len, args := #[.tmp 75], argTypes := #[28] }) 3, o 77 (.binOp .lss 3 (.tmp 73) (.tmp 76) 3) 4] false)
 (.cond (.tmp 77)
 (.seq (.region 21 #[m 78 8 3, ⟨some 79, .buildSlice 47 1 #[(0, .tmp 78)], 47, "", fz, none⟩, o 80 (.call { callee := .value (.func 82), args := #[.const (.int .i64 8), .tmp 79], argTypes := #[34, 47] }) 71, o 6 (.assign (.const (.slice none 0 0))) 47, ⟨none, .store 71 (.tmp 7) (.tmp 80), 0, "", #[], none⟩] false)
 .ret)
 .skip))
 (.seq (.region 22 #[m 81 9 47, o 82 (.build 71 #[]) 71, o 6 (.assign (.tmp 81)) 47, ⟨none, .store 71 (.tmp 7) (.tmp 82), 0, "", #[], none⟩] false)
 .ret)))))))
def fn45 : AFn := { ntmps := 83, results := [.tmp 6, .cell 7 71], body := c45, keep := fun | 0 => some [2, 3, 4, 7] | 1 => some [2, 3, 4, 7, 13] | 2 => some [6, 7] | 3 => some [2, 3, 7, 18] | 4 => some [6, 7] | 5 => some [2, 3, 7, 8] | 6 => some [2, 3, 7, 8, 9] | 7 => some [3, 7, 8, 9, 27, 28, 29] | 8 => some [3, 7, 8, 9, 27, 28, 29, 30] | 9 => some [3, 7, 8, 9, 11, 27, 28, 29] | 10 => some [3, 7, 8, 9, 11, 12, 27, 28, 29] | 11 => some [6, 7] | 12 => some [3, 7, 8, 9, 11, 27, 28, 29, 38] | 13 => some [3, 7, 8, 9, 27, 28, 29] | 14 => some [3, 7, 8, 9, 27, 28, 29] | 15 => some [3, 7, 8, 9, 27, 28, 29, 59] | 16 => some [3, 7, 8, 9, 27, 28, 29] | 17 => some [7, 8, 65] | 18 => some [6, 7] | 19 => some [3, 7, 8, 9, 27, 28, 29] | 20 => some [7, 8, 9, 77] | 21 => some [6, 7] | 22 => some [6, 7] | _ => none, head := fun | 8 => some [3, 7, 8, 9, 27, 28, 29] | _ => none, opn := opnT, dyn := fun _ => [] }
def c46 : Code :=
  (.seq (.region 0 #[o 3 (.box 30 (.tmp 0)) 0, o 4 (.box 27 (.tmp 1)) 0, o 6 (.assign (.const (.slice none 0 0))) 47, o 7 (.alloc 71) 0] false)
 (.seq (.seq (.region 1 #[m 11 2 67, o 12 (.call { callee := .builtin .len, args := #[.tmp 11], argTypes := #[67] }) 3, o 13 (.binOp .gtr 3 (.tmp 12) (.const (.int .i64 256)) 3) 4] false)
 (.cond (.tmp 13)
 (.seq (.region 2 #[o 14 (.call { callee := .value (.func 67), args := #[.const (.int .i64 3), .const (.int .i64 (-1))], argTypes := #[34, 3] }) 71, o 6 (.assign (.const (.slice none 0 0))) 47, ⟨none, .store 71 (.tmp 7) (.tmp 14), 0, "", #[], none⟩] false)
 .ret)
 .skip))
 (.seq (.seq (.region 3 #[o 15 (.fieldAddr 30 (.tmp 3) 0) 0, o 16 (.load 27 (.tmp 15)) 27, o 17 (.load 27 (.tmp 4)) 27, o 18 (.binOp .neq 27 (.tmp 16) (.tmp 17) 27) 4] false)
 (.cond (.tmp 18)
 (.seq (.region 4 #[o 19 (.call { callee := .value (.func 67), args := #[.const (.int .i64 9), .const (.int .i64 (-1))], argTypes := #[34, 3] }) 71, o 6 (.assign (.const (.slice none 0 0))) 47, ⟨none, .store 71 (.tmp 7) (.tmp 19), 0, "", #[], none⟩] false)
 .ret)
 .skip))
 (.seq (.region 5 #[o 8 (.assign (.const (.slice none 0 0))) 47] false)
 (.seq (.region 6 #[o 9 (.assign (.const (.int .i64 0))) 3] false)
 (.seq (.seq (.region 7 #[o 10 (.assign (.const (.int .i64 0))) 3] false)
 (.block 0 (.loop (.seq (.seq (.region 8 #[m 20 10 3, m 21 2 67, o 22 (.call { callee := .builtin .len, args := #[.tmp 21], argTypes := #[67] }) 3, o 23 (.binOp .lss 3 (.tmp 20) (.tmp 22) 3) 4] false)
 (.cond (.tmp 23)
 .skip
 (.exit 0)))
 (.seq (.block 1 (.seq (.seq (.region 10 #[m 26 9 3, o 27 (.fieldAddr 30 (.tmp 3) 2) 0, o 28 (.load 28 (.tmp 27)) 28, o 29 (.call { callee := .builtin .len, args := #[.tmp 28], argTypes := #[28] }) 3, o 30 (.binOp .lss 3 (.tmp 26) (.tmp 29) 3) 4, m 31 30 4, ⟨some 32, .move (.tmp 2), 67, "", #[], some (31, true)⟩, ⟨some 33, .move (.tmp 10), 3, "", #[], some (31, true)⟩, ⟨some 34, .indexAddr 67 (.tmp 32) (.tmp 33), 0, "", #[], some (31, true)⟩, ⟨some 35, .fieldAddr 78 (.tmp 34) 1, 0, "", #[], some (31, true)⟩, ⟨some 36, .load 4 (.tmp 35), 4, "", #[], some (31, true)⟩, ⟨some 37, .move (.tmp 36), 4, "", #[], some (31, true)⟩, ⟨some 38, .move (.tmp 2), 67, "", #[], some (37, false)⟩, ⟨some 39, .move (.tmp 10), 3, "", #[], some (37, false)⟩, ⟨some 40, .indexAddr 67 (.tmp 38) (.tmp 39), 0, "", #[], some (37, false)⟩, ⟨some 41, .fieldAddr 78 (.tmp 40) 0, 0, "", #[], some (37, false)⟩, ⟨some 42, .load 27 (.tmp 41), 27, "", #[], some (37, false)⟩, ⟨some 43, .fieldAddr 30 (.tmp 3) 2, 0, "", #[], some (37, false)⟩, ⟨some 44, .load 28 (.tmp 43), 28, "", #[], some (37, false)⟩, ⟨some 45, .move (.tmp 9), 3, "", #[], some (37, false)⟩, ⟨some 46, .indexAddr 28 (.tmp 44) (.tmp 45), 0, "", #[], some (37, false)⟩, ⟨some 47, .fieldAddr 30 (.tmp 46) 0, 0, "", #[], some (37, false)⟩, ⟨some 48, .load 27 (.tmp 47), 27, "", #[], some (37, false)⟩, ⟨some 49, .binOp .eql 27 (.tmp 42) (.tmp 48) 27, 4, "", #[], some (37, false)⟩, ⟨some 50, .pick (.tmp 37) (.const (.bool true)) (.tmp 49), 4, "", #[], some (31, true)⟩, o 51 (.pick (.tmp 31) (.tmp 50) (.const (.bool false))) 4] true)
 (.cond (.tmp 51)
 (.seq (.region 11 #[m 52 8 47, m 53 9 3, o 54 (.buildSlice 47 1 #[(0, .tmp 53)]) 47, o 55 (.call { callee := .builtin .append, args := #[.tmp 52, .tmp 54], argTypes := #[47, 47] }) 47, o 8 (.assign (.tmp 55)) 47] false)
 (.seq (.region 12 #[m 56 9 3, o 57 (.binOp .add 3 (.tmp 56) (.const (.int .i64 1)) 3) 3, o 9 (.assign (.tmp 57)) 3] false)
 (.exit 1)))
 .skip))
 (.seq (.seq (.region 13 #[m 58 2 67, m 59 10 3, o 60 (.indexAddr 67 (.tmp 58) (.tmp 59)) 0, o 61 (.fieldAddr 78 (.tmp 60) 2) 0, o 62 (.load 4 (.tmp 61)) 4] false)
 (.cond (.tmp 62)
 (.seq (.region 14 #[m 63 8 47, o 64 (.buildSlice 47 1 #[(0, .const (.int .i64 (-1)))]) 47, o 65 (.call { callee := .builtin .append, args := #[.tmp 63, .tmp 64], argTypes := #[47, 47] }) 47, o 8 (.assign (.tmp 65)) 47] false)
 (.exit 1))
 .skip))
 (.seq (.seq (.region 15 #[m 66 9 3, o 67 (.fieldAddr 30 (.tmp 3) 2) 0, o 68 (.load 28 (.tmp 67)) 28, o 69 (.call { callee := .builtin .len, args := #[.tmp 68], argTypes := #[28] }) 3, o 70 (.binOp .eql 3 (.tmp 66) (.tmp 69) 3) 4] false)
 (.cond (.tmp 70)
 (.seq (.region 16 #[o 71 (.call { callee := .value (.func 67), args := #[.const (.int .i64 7), .const (.int .i64 (-1))], argTypes := #[34, 3] }) 71, o 6 (.assign (.const (.slice none 0 0))) 47, ⟨none, .store 71 (.tmp 7) (.tmp 71), 0, "", #[], none⟩] false)
 .ret)
 .skip))
 (.seq (.region 17 #[m 72 9 3, o 73 (.call { callee := .value (.func 67), args := #[.const (.int .i64 9), .tmp 72], argTypes := #[34, 3] }) 71, o 6 (.assign (.const (.slice none 0 0))) 47, ⟨none, .store 71 (.tmp 7) (.tmp 73), 0, "", #[], none⟩] false)
 .ret)))))
 (.region 9 #[m 24 10 3, o 25 (.binOp .add 3 (.tmp 24) (.const (.int .i64 1)) 3) 3, o 10 (.assign (.tmp 25)) 3] false))))))
 (.seq (.seq (.region 18 #[m 74 9 3, o 75 (.fieldAddr 30 (.tmp 3) 2) 0, o 76 (.load 28 (.tmp 75)) 28, o 77 (.call { callee := .builtin .len, args := #[.tmp 76], argTypes := #[28] }) 3, o 78 (.binOp .lss 3 (.tmp 74) (.tmp 77) 3) 4] false)
 (.cond (.tmp 78)
 (.seq (.region 19 #[m 79 9 3, o 80 (.call { callee := .value (.func 67), args := #[.const (.int .i64 8), .tmp 79], argTypes := #[34, 3] }) 71, o 6 (.assign (.const (.slice none 0 0))) 47, ⟨none, .store 71 (.tmp 7) (.tmp 80), 0, "", #[], none⟩] false)
 .ret)
 .skip))
 (.seq (.region 20 #[m 81 8 47, o 82 (.build 71 #[]) 71, o 6 (.assign (.tmp 81)) 47, ⟨none, .store 71 (.tmp 7) (.tmp 82), 0, "", #[], none⟩] false)
 .ret))))))))
def fn46 : AFn := { ntmps := 83, results := [.tmp 6, .cell 7 71], body := c46, keep := fun | 0 => some [2, 3, 4, 7] | 1 => some [2, 3, 4, 7, 13] | 2 => some [6, 7] | 3 => some [2, 3, 7, 18] | 4 => some [6, 7] | 5 => some [2, 3, 7, 8] | 6 => some [2, 3, 7, 8, 9] | 7 => some [2, 3, 7, 8, 9, 10] | 8 => some [2, 3, 7, 8, 9, 10, 23] | 9 => some [2, 3, 7, 8, 9, 10] | 10 => some [2, 3, 7, 8, 9, 10, 51] | 11 => some [2, 3, 7, 8, 9, 10] | 12 => some [2, 3, 7, 8, 9, 10] | 13 => some [2, 3, 7, 8, 9, 10, 62] | 14 => some [2, 3, 7, 8, 9, 10] | 15 => some [7, 9, 70] | 16 => some [6, 7] | 17 => some [6, 7] | 18 => some [7, 8, 9, 78] | 19 => some [6, 7] | 20 => some [6, 7] | _ => none, head := fun | 8 => some [2, 3, 7, 8, 9, 10] | _ => none, opn := fun _ => none, dyn := fun _ => [] }
def c47 : Code :=
  (.seq (.region 0 #[o 4 (.assign (.const (.int .i64 0))) 3] false)
 (.seq (.seq (.region 1 #[m 6 0 47, o 7 (.call { callee := .builtin .len, args := #[.tmp 6], argTypes := #[47] }) 3, m 8 1 47, o 9 (.call { callee := .builtin .len, args := #[.tmp 8], argTypes := #[47] }) 3, o 10 (.binOp .neq 3 (.tmp 7) (.tmp 9) 3) 4] false)
 (.cond (.tmp 10)
 (.seq (.region 2 #[o 4 (.assign (.const (.int .i64 0))) 3] false)
 .ret)
 .skip))
 (.seq (.seq (.region 3 #[o 5 (.assign (.const (.int .i64 0))) 3] false)
 (.block 0 (.loop (.seq (.seq (.region 4 #[m 11 5 3, m 12 0 47, o 13 (.call { callee := .builtin .len, args := #[.tmp 12], argTypes := #[47] }) 3, o 14 (.binOp .lss 3 (.tmp 11) (.tmp 13) 3) 4] false)
 (.cond (.tmp 14)
 .skip
 (.exit 0)))
 (.seq (.block 1 (.seq (.region 6 #[m 17 0 47, m 18 5 3, o 19 (.indexAddr 47 (.tmp 17) (.tmp 18)) 0, o 20 (.load 3 (.tmp 19)) 3, m 21 1 47, m 22 5 3, o 23 (.indexAddr 47 (.tmp 21) (.tmp 22)) 0, o 24 (.load 3 (.tmp 23)) 3, o 25 (.binOp .neq 3 (.tmp 20) (.tmp 24) 3) 4] true)
 (.cond (.tmp 25)
 (.seq (.region 7 #[o 4 (.assign (.const (.int .i64 0))) 3] false)
 .ret)
 .skip)))
 (.region 5 #[m 15 5 3, o 16 (.binOp .add 3 (.tmp 15) (.const (.int .i64 1)) 3) 3, o 5 (.assign (.tmp 16)) 3] false))))))
 (.seq (.region 8 #[o 4 (.assign (.const (.int .i64 1))) 3] false)
 .ret))))
def fn47 : AFn := { ntmps := 26, results := [.tmp 4], body := c47, keep := fun | 0 => some [0, 1] | 1 => some [0, 1, 10] | 2 => some [4] | 3 => some [0, 1, 5] | 4 => some [0, 1, 5, 14] | 5 => some [0, 1, 5] | 6 => some [0, 1, 5, 25] | 7 => some [4] | 8 => some [4] | _ => none, head := fun | 4 => some [0, 1, 5] | _ => none, opn := fun _ => none, dyn := fun _ => [] }
def c48 : Code :=
  (.seq (.region 0 #[o 2 (.box 71 (.tmp 0)) 0, o 3 (.box 71 (.tmp 1)) 0, o 4 (.assign (.const (.int .i64 0))) 3] false)
 (.seq (.seq (.region 1 #[o 6 (.fieldAddr 71 (.tmp 2) 1) 0, o 7 (.load 34 (.tmp 6)) 34, o 8 (.fieldAddr 71 (.tmp 3) 1) 0, o 9 (.load 34 (.tmp 8)) 34, o 10 (.binOp .neq 34 (.tmp 7) (.tmp 9) 34) 4, m 11 10 4, ⟨some 12, .fieldAddr 71 (.tmp 2) 0, 0, "", #[], some (11, false)⟩, ⟨some 13, .load 47 (.tmp 12), 47, "", #[], some (11, false)⟩, ⟨some 14, .call { callee := .builtin .len, args := #[.tmp 13], argTypes := #[47] }, 3, "", #[], some (11, false)⟩, ⟨some 15, .fieldAddr 71 (.tmp 3) 0, 0, "", #[], some (11, false)⟩, ⟨some 16, .load 47 (.tmp 15), 47, "", #[], some (11, false)⟩, ⟨some 17, .call { callee := .builtin .len, args := #[.tmp 16], argTypes := #[47] }, 3, "", #[], some (11, false)⟩, ⟨some 18, .binOp .neq 3 (.tmp 14) (.tmp 17) 3, 4, "", #[], some (11, false)⟩, o 19 (.pick (.tmp 11) (.const (.bool true)) (.tmp 18)) 4, m 20 19 4, ⟨some 21, .fieldAddr 71 (.tmp 2) 0, 0, "", #[], some (20, false)⟩, ⟨some 22, .load 47 (.tmp 21), 47, "", #[], some (20, false)⟩, ⟨some 23, .call { callee := .builtin .cap, args := #[.tmp 22], argTypes := #[47] }, 3, "", #[], some (20, false)⟩, ⟨some 24, .fieldAddr 71 (.tmp 2) 0, 0, "", #[], some (20, false)⟩, ⟨some 25, .load 47 (.tmp 24), 47, "", #[], some (20, false)⟩, ⟨some 26, .call { callee := .builtin .len, args := #[.tmp 25], argTypes := #[47] }, 3, "", #[], some (20, false)⟩, ⟨some 27, .binOp .neq 3 (.tmp 23) (.tmp 26) 3, 4, "", #[], some (20, false)⟩, o 28 (.pick (.tmp 20) (.const (.bool true)) (.tmp 27)) 4] false)
 (.cond (.tmp 28)
 (.seq (.region 2 #[o 4 (.assign (.const (.int .i64 0))) 3] false)
 .ret)
 .skip))
 (.seq (.seq (.region 3 #[o 5 (.assign (.const (.int .i64 0))) 3] false)
 (.block 0 (.loop (.seq (.seq (.region 4 #[m 29 5 3, o 30 (.fieldAddr 71 (.tmp 2) 0) 0, o 31 (.load 47 (.tmp 30)) 47, o 32 (.call { callee := .builtin .len, args := #[.tmp 31], argTypes := #[47] }) 3, o 33 (.binOp .lss 3 (.tmp 29) (.tmp 32) 3) 4] false)
 (.cond (.tmp 33)
 .skip
 (.exit 0)))
 (.seq (.block 1 (.seq (.region 6 #[o 36 (.fieldAddr 71 (.tmp 2) 0) 0, o 37 (.load 47 (.tmp 36)) 47, m 38 5 3, o 39 (.indexAddr 47 (.tmp 37) (.tmp 38)) 0, o 40 (.load 3 (.tmp 39)) 3, o 41 (.fieldAddr 71 (.tmp 3) 0) 0, o 42 (.load 47 (.tmp 41)) 47, m 43 5 3, o 44 (.indexAddr 47 (.tmp 42) (.tmp 43)) 0, o 45 (.load 3 (.tmp 44)) 3, o 46 (.binOp .neq 3 (.tmp 40) (.tmp 45) 3) 4] true)
 (.cond (.tmp 46)
 (.seq (.region 7 #[o 4 (.assign (.const (.int .i64 0))) 3] false)
 .ret)
 .skip)))
 (.region 5 #[m 34 5 3, o 35 (.binOp .add 3 (.tmp 34) (.const (.int .i64 1)) 3) 3, o 5 (.assign (.tmp 35)) 3] false))))))
 (.seq (.region 8 #[o 4 (.assign (.const (.int .i64 1))) 3] false)
 .ret))))
def fn48 : AFn := { ntmps := 47, results := [.tmp 4], body := c48, keep := fun | 0 => some [2, 3] | 1 => some [2, 3, 28] | 2 => some [4] | 3 => some [2, 3, 5] | 4 => some [2, 3, 5, 33] | 5 => some [2, 3, 5] | 6 => some [2, 3, 5, 46] | 7 => some [4] | 8 => some [4] | _ => none, head := fun | 4 => some [2, 3, 5] | _ => none, opn := fun _ => none, dyn := fun _ => [] }
def c49 : Code :=
  (.seq (.region 0 #[o 2 (.box 30 (.tmp 0)) 0, o 3 (.box 30 (.tmp 1)) 0, o 4 (.assign (.const (.int .i64 0))) 3] false)
 (.seq (.seq (.region 1 #[o 6 (.fieldAddr 30 (.tmp 2) 0) 0, o 7 (.load 27 (.tmp 6)) 27, o 8 (.fieldAddr 30 (.tmp 3) 0) 0, o 9 (.load 27 (.tmp 8)) 27, o 10 (.binOp .neq 27 (.tmp 7) (.tmp 9) 27) 4, m 11 10 4, ⟨some 12, .fieldAddr 30 (.tmp 2) 1, 0, "", #[], some (11, false)⟩, ⟨some 13, .load 22 (.tmp 12), 22, "", #[], some (11, false)⟩, ⟨some 14, .convert 22 9 (.tmp 13), 9, "", #[], some (11, false)⟩, ⟨some 15, .fieldAddr 30 (.tmp 3) 1, 0, "", #[], some (11, false)⟩, ⟨some 16, .load 22 (.tmp 15), 22, "", #[], some (11, false)⟩, ⟨some 17, .convert 22 9 (.tmp 16), 9, "", #[], some (11, false)⟩, ⟨some 18, .binOp .neq 9 (.tmp 14) (.tmp 17) 9, 4, "", #[], some (11, false)⟩, o 19 (.pick (.tmp 11) (.const (.bool true)) (.tmp 18)) 4, m 20 19 4, ⟨some 21, .fieldAddr 30 (.tmp 2) 2, 0, "", #[], some (20, false)⟩, ⟨some 22, .load 28 (.tmp 21), 28, "", #[], some (20, false)⟩, ⟨some 23, .call { callee := .builtin .len, args := #[.tmp 22], argTypes := #[28] }, 3, "", #[], some (20, false)⟩, ⟨some 24, .fieldAddr 30 (.tmp 3) 2, 0, "", #[], some (20, false)⟩, ⟨some 25, .load 28 (.tmp 24), 28, "", #[], some (20, false)⟩, ⟨some 26, .call { callee := .builtin .len, args := #[.tmp 25], argTypes := #[28] }, 3, "", #[], some (20, false)⟩, ⟨some 27, .binOp .neq 3 (.tmp 23) (.tmp 26) 3, 4, "", #[], some (20, false)⟩, o 28 (.pick (.tmp 20) (.const (.bool true)) (.tmp 27)) 4] false)
 (.cond (.tmp 28)
 (.seq (.region 2 #[o 4 (.assign (.const (.int .i64 0))) 3] false)
 .ret)
 .skip))
 (.seq (.seq (.region 3 #[o 5 (.assign (.const (.int .i64 0))) 3] false)
 (.block 0 (.loop (.seq (.seq (.region 4 #[m 29 5 3, o 30 (.fieldAddr 30 (.tmp 2) 2) 0, o 31 (.load 28 (.tmp 30)) 28, o 32 (.call { callee := .builtin .len, args := #[.tmp 31], argTypes := #[28] }) 3, o 33 (.binOp .lss 3 (.tmp 29) (.tmp 32) 3) 4] false)
 (.cond (.tmp 33)
 .skip
 (.exit 0)))
 (.seq (.block 1 (.seq (.region 6 #[o 36 (.fieldAddr 30 (.tmp 2) 2) 0, o 37 (.load 28 (.tmp 36)) 28, m 38 5 3, o 39 (.indexAddr 28 (.tmp 37) (.tmp 38)) 0, o 40 (.load 30 (.tmp 39)) 30, o 41 (.fieldAddr 30 (.tmp 3) 2) 0, o 42 (.load 28 (.tmp 41)) 28, m 43 5 3, o 44 (.indexAddr 28 (.tmp 42) (.tmp 43)) 0, o 45 (.load 30 (.tmp 44)) 30, o 46 (.call { callee := .value (.func 49), args := #[.tmp 40, .tmp 45], argTypes := #[30, 30] }) 3, o 47 (.binOp .eql 3 (.tmp 46) (.const (.int .i64 0)) 3) 4] true)
 (.cond (.tmp 47)
 (.seq (.region 7 #[o 4 (.assign (.const (.int .i64 0))) 3] false)
 .ret)
 .skip)))
 (.region 5 #[m 34 5 3, o 35 (.binOp .add 3 (.tmp 34) (.const (.int .i64 1)) 3) 3, o 5 (.assign (.tmp 35)) 3] false))))))
 (.seq (.region 8 #[o 4 (.assign (.const (.int .i64 1))) 3] false)
 .ret))))
def fn49 : AFn := { ntmps := 48, results := [.tmp 4], body := c49, keep := fun | 0 => some [2, 3] | 1 => some [2, 3, 28] | 2 => some [4] | 3 => some [2, 3, 5] | 4 => some [2, 3, 5, 33] | 5 => some [2, 3, 5] | 6 => some [2, 3, 5, 47] | 7 => some [4] | 8 => some [4] | _ => none, head := fun | 4 => some [2, 3, 5] | _ => none, opn := fun _ => none, dyn := fun _ => [] }
def c50 : Code :=
  (.seq (.region 0 #[o 0 (.assign (.const (.bool false))) 4] false)
 (.seq (.region 1 #[o 26 (.call { callee := .value (.func 55), args := #[], argTypes := #[] }) 30, o 1 (.alloc 30) 0, ⟨none, .store 30 (.tmp 1) (.tmp 26), 0, "", #[], none⟩] false)
 (.seq (.region 2 #[o 27 (.call { callee := .value (.func 44), args := #[.const (.int .u8 0)], argTypes := #[5] }) 27, o 28 (.call { callee := .value (.func 44), args := #[.const (.int .u8 4)], argTypes := #[5] }) 27, o 29 (.call { callee := .value (.func 44), args := #[.const (.int .u8 6)], argTypes := #[5] }) 27, o 2 (.alloc 27) 0, o 3 (.alloc 27) 0, o 4 (.alloc 27) 0, ⟨none, .store 27 (.tmp 2) (.tmp 27), 0, "", #[], none⟩, ⟨none, .store 27 (.tmp 3) (.tmp 28), 0, "", #[], none⟩, ⟨none, .store 27 (.tmp 4) (.tmp 29), 0, "", #[], none⟩] false)
 (.seq (.region 3 #[o 31 (.load 30 (.tmp 1)) 30, o 32 (.load 27 (.tmp 2)) 27, o 33 (.load 27 (.tmp 4)) 27, o 34 (.build 78 #[(0, .tmp 33)]) 78, o 35 (.load 27 (.tmp 3)) 27, o 36 (.build 78 #[(0, .tmp 35)]) 78, ⟨some 37, .buildSlice 67 2 #[(0, .tmp 34), (1, .tmp 36)], 67, "", fz, none⟩, o 38 (.call { callee := .value (.func 45), args := #[.tmp 31, .tmp 32, .tmp 37], argTypes := #[30, 27, 67] }) 72, m 30 38 72, o 39 (.extract (.tmp 30) 0) 47, o 40 (.extract (.tmp 30) 1) 71, o 6 (.alloc 71) 0, o 5 (.assign (.tmp 39)) 47, ⟨none, .store 71 (.tmp 6) (.tmp 40), 0, "", #[], none⟩] false)
 (.seq (.region 4 #[o 42 (.load 30 (.tmp 1)) 30, o 43 (.load 27 (.tmp 2)) 27, o 44 (.load 27 (.tmp 4)) 27, o 45 (.build 78 #[(0, .tmp 44)]) 78, o 46 (.load 27 (.tmp 4)) 27, o 47 (.build 78 #[(0, .tmp 46), (2, .const (.bool true))]) 78, o 48 (.load 27 (.tmp 3)) 27, o 49 (.build 78 #[(0, .tmp 48)]) 78, o 50 (.build 78 #[(1, .const (.bool true)), (2, .const (.bool true))]) 78, ⟨some 51, .buildSlice 67 4 #[(0, .tmp 45), (1, .tmp 47), (2, .tmp 49), (3, .tmp 50)], 67, "", fz, none⟩, o 52 (.call { callee := .value (.func 45), args := #[.tmp 42, .tmp 43, .tmp 51], argTypes := #[30, 27, 67] }) 72, m 41 52 72, o 53 (.extract (.tmp 41) 0) 47, o 54 (.extract (.tmp 41) 1) 71, o 8 (.alloc 71) 0, o 7 (.assign (.tmp 53)) 47, ⟨none, .store 71 (.tmp 8) (.tmp 54), 0, "", #[], none⟩] false)
 (.seq (.seq (.region 5 #[m 55 5 47, ⟨some 56, .buildSlice 47 2 #[(0, .const (.int .i64 0)), (1, .const (.int .i64 1))], 47, "", fz, none⟩, o 57 (.call { callee := .value (.func 47), args := #[.tmp 55, .tmp 56], argTypes := #[47, 47] }) 3, m 58 7 47, ⟨some 59, .buildSlice 47 4 #[(0, .const (.int .i64 0)), (1, .const (.int .i64 (-1))), (2, .const (.int .i64 1)), (3, .const (.int .i64 (-1)))], 47, "", fz, none⟩, o 60 (.call { callee := .value (.func 47), args := #[.tmp 58, .tmp 59], argTypes := #[47, 47] }) 3, o 61 (.binOp .mul 3 (.tmp 57) (.tmp 60) 3) 3, o 62 (.load 71 (.tmp 6)) 71, o 63 (.build 71 #[]) 71, o 64 (.call { callee := .value (.func 48), args := #[.tmp 62, .tmp 63], argTypes := #[71, 71] }) 3, o 65 (.binOp .mul 3 (.tmp 61) (.tmp 64) 3) 3, o 66 (.load 71 (.tmp 8)) 71, o 67 (.build 71 #[]) 71, o 68 (.call { callee := .value (.func 48), args := #[.tmp 66, .tmp 67], argTypes := #[71, 71] }) 3, o 69 (.binOp .mul 3 (.tmp 65) (.tmp 68) 3) 3, o 70 (.binOp .eql 3 (.tmp 69) (.const (.int .i64 0)) 3) 4] true)
 (.cond (.tmp 70)
 (.seq (.region 6 #[o 0 (.assign (.const (.bool false))) 4] false)
 .ret)
 .skip))
 (.seq (.region 7 #[o 72 (.load 30 (.tmp 1)) 30, o 73 (.load 27 (.tmp 2)) 27, o 74 (.load 27 (.tmp 3)) 27, o 75 (.build 78 #[(0, .tmp 74)]) 78, o 76 (.load 27 (.tmp 4)) 27, o 77 (.build 78 #[(0, .tmp 76)]) 78, ⟨some 78, .buildSlice 67 2 #[(0, .tmp 75), (1, .tmp 77)], 67, "", fz, none⟩, o 79 (.call { callee := .value (.func 45), args := #[.tmp 72, .tmp 73, .tmp 78], argTypes := #[30, 27, 67] }) 72, m 71 79 72, o 80 (.extract (.tmp 71) 0) 47, o 81 (.extract (.tmp 71) 1) 71, o 10 (.alloc 71) 0, o 9 (.assign (.tmp 80)) 47, ⟨none, .store 71 (.tmp 10) (.tmp 81), 0, "", #[], none⟩] false)
 (.seq (.region 8 #[o 83 (.load 30 (.tmp 1)) 30, o 84 (.load 27 (.tmp 2)) 27, o 85 (.load 27 (.tmp 4)) 27, o 86 (.build 78 #[(0, .tmp 85)]) 78, ⟨some 87, .buildSlice 67 1 #[(0, .tmp 86)], 67, "", fz, none⟩, o 88 (.call { callee := .value (.func 45), args := #[.tmp 83, .tmp 84, .tmp 87], argTypes := #[30, 27, 67] }) 72, m 82 88 72, o 89 (.extract (.tmp 82) 0) 47, o 90 (.extract (.tmp 82) 1) 71, o 12 (.alloc 71) 0, o 11 (.assign (.tmp 89)) 47, ⟨none, .store 71 (.tmp 12) (.tmp 90), 0, "", #[], none⟩] false)
 (.seq (.region 9 #[o 92 (.load 30 (.tmp 1)) 30, o 93 (.load 27 (.tmp 2)) 27, o 94 (.load 27 (.tmp 4)) 27, o 95 (.build 78 #[(0, .tmp 94)]) 78, o 96 (.load 27 (.tmp 3)) 27, o 97 (.build 78 #[(0, .tmp 96)]) 78, o 98 (.load 27 (.tmp 4)) 27, o 99 (.build 78 #[(0, .tmp 98)]) 78, ⟨some 100, .buildSlice 67 3 #[(0, .tmp 95), (1, .tmp 97), (2, .tmp 99)], 67, "", fz, none⟩, o 101 (.call { callee := .value (.func 45), args := #[.tmp 92, .tmp 93, .tmp 100], argTypes := #[30, 27, 67] }) 72, m 91 101 72, o 102 (.extract (.tmp 91) 0) 47, o 103 (.extract (.tmp 91) 1) 71, o 14 (.alloc 71) 0, o 13 (.assign (.tmp 102)) 47, ⟨none, .store 71 (.tmp 14) (.tmp 103), 0, "", #[], none⟩] false)
 (.seq (.region 10 #[o 105 (.load 30 (.tmp 1)) 30, o 106 (.load 27 (.tmp 4)) 27, o 107 (.call { callee := .value (.func 45), args := #[.tmp 105, .tmp 106, .const (.slice none 0 0)], argTypes := #[30, 27, 67] }) 72, m 104 107 72, o 108 (.extract (.tmp 104) 0) 47, o 109 (.extract (.tmp 104) 1) 71, o 16 (.alloc 71) 0, o 15 (.assign (.tmp 108)) 47, ⟨none, .store 71 (.tmp 16) (.tmp 109), 0, "", #[], none⟩] false)
 (.seq (.seq (.region 11 #[o 110 (.load 71 (.tmp 10)) 71, o 111 (.call { callee := .value (.func 67), args := #[.const (.int .i64 9), .const (.int .i64 0)], argTypes := #[34, 3] }) 71, o 112 (.call { callee := .value (.func 48), args := #[.tmp 110, .tmp 111], argTypes := #[71, 71] }) 3, o 113 (.load 71 (.tmp 12)) 71, o 114 (.call { callee := .value (.func 67), args := #[.const (.int .i64 8), .const (.int .i64 1)], argTypes := #[34, 3] }) 71, o 115 (.call { callee := .value (.func 48), args := #[.tmp 113, .tmp 114], argTypes := #[71, 71] }) 3, o 116 (.binOp .mul 3 (.tmp 112) (.tmp 115) 3) 3, o 117 (.load 71 (.tmp 14)) 71, o 118 (.call { callee := .value (.func 67), args := #[.const (.int .i64 7), .const (.int .i64 (-1))], argTypes := #[34, 3] }) 71, o 119 (.call { callee := .value (.func 48), args := #[.tmp 117, .tmp 118], argTypes := #[71, 71] }) 3, o 120 (.binOp .mul 3 (.tmp 116) (.tmp 119) 3) 3, o 121 (.load 71 (.tmp 16)) 71, o 122 (.call { callee := .value (.func 67), args := #[.const (.int .i64 9), .const (.int .i64 (-1))], argTypes := #[34, 3] }) 71, o 123 (.call { callee := .value (.func 48), args := #[.tmp 121, .tmp 122], argTypes := #[71, 71] }) 3, o 124 (.binOp .mul 3 (.tmp 120) (.tmp 123) 3) 3, o 125 (.binOp .eql 3 (.tmp 124) (.const (.int .i64 0)) 3) 4] true)
 (.cond (.tmp 125)
 (.seq (.region 12 #[o 0 (.assign (.const (.bool false))) 4] false)
 .ret)
 .skip))
 (.seq (.seq (.region 13 #[o 126 (.load 30 (.tmp 1)) 30, o 127 (.load 27 (.tmp 2)) 27, o 128 (.call { callee := .value (.func 56), args := #[.tmp 126, .tmp 127, .const (.int .i64 1), .const (.int .i64 1)], argTypes := #[30, 27, 3, 3] }) 71, o 129 (.call { callee := .value (.func 67), args := #[.const (.int .i64 3), .const (.int .i64 1)], argTypes := #[34, 3] }) 71, o 130 (.call { callee := .value (.func 48), args := #[.tmp 128, .tmp 129], argTypes := #[71, 71] }) 3, o 131 (.load 30 (.tmp 1)) 30, o 132 (.load 27 (.tmp 2)) 27, o 133 (.call { callee := .value (.func 56), args := #[.tmp 131, .tmp 132, .const (.int .i64 3), .const (.int .i64 4)], argTypes := #[30, 27, 3, 3] }) 71, o 134 (.call { callee := .value (.func 67), args := #[.const (.int .i64 7), .const (.int .i64 (-1))], argTypes := #[34, 3] }) 71, o 135 (.call { callee := .value (.func 48), args := #[.tmp 133, .tmp 134], argTypes := #[71, 71] }) 3, o 136 (.binOp .mul 3 (.tmp 130) (.tmp 135) 3) 3, o 137 (.load 30 (.tmp 1)) 30, o 138 (.call { callee := .value (.func 51), args := #[.tmp 137], argTypes := #[30] }) 71, o 139 (.call { callee := .value (.func 67), args := #[.const (.int .i64 13), .const (.int .i64 1)], argTypes := #[34, 3] }) 71, o 140 (.call { callee := .value (.func 48), args := #[.tmp 138, .tmp 139], argTypes := #[71, 71] }) 3, o 141 (.binOp .mul 3 (.tmp 136) (.tmp 140) 3) 3, o 142 (.binOp .eql 3 (.tmp 141) (.const (.int .i64 0)) 3) 4] true)
 (.cond (.tmp 142)
 (.seq (.region 14 #[o 0 (.assign (.const (.bool false))) 4] false)
 .ret)
 .skip))
 (.seq (.region 15 #[o 144 (.load 30 (.tmp 1)) 30, ⟨some 145, .buildSlice 47 1 #[(0, .const (.int .i64 1))], 47, "", fz, none⟩, o 146 (.call { callee := .value (.func 63), args := #[.tmp 144, .tmp 145], argTypes := #[30, 47] }) 84, m 143 146 84, o 147 (.extract (.tmp 143) 0) 3, o 148 (.extract (.tmp 143) 1) 34, o 17 (.assign (.tmp 147)) 3, o 18 (.assign (.tmp 148)) 34] false)
 (.seq (.region 16 #[o 150 (.load 30 (.tmp 1)) 30, ⟨some 151, .buildSlice 47 1 #[(0, .const (.int .i64 2))], 47, "", fz, none⟩, o 152 (.call { callee := .value (.func 63), args := #[.tmp 150, .tmp 151], argTypes := #[30, 47] }) 84, m 149 152 84, o 153 (.extract (.tmp 149) 0) 3, o 154 (.extract (.tmp 149) 1) 34, o 19 (.assign (.tmp 153)) 3, o 20 (.assign (.tmp 154)) 34] false)
 (.seq (.region 17 #[o 156 (.load 30 (.tmp 1)) 30, o 157 (.call { callee := .value (.func 63), args := #[.tmp 156, .const (.slice none 0 0)], argTypes := #[30, 47] }) 84, m 155 157 84, o 158 (.extract (.tmp 155) 0) 3, o 159 (.extract (.tmp 155) 1) 34, o 21 (.assign (.tmp 158)) 3, o 22 (.assign (.tmp 159)) 34] false)
 (.seq (.region 18 #[o 161 (.load 30 (.tmp 1)) 30, o 162 (.call { callee := .value (.func 67), args := #[.const (.int .i64 8), .const (.int .i64 1)], argTypes := #[34, 3] }) 71, o 163 (.call { callee := .value (.func 54), args := #[.tmp 161, .tmp 162], argTypes := #[30, 71] }) 84, m 160 163 84, o 164 (.extract (.tmp 160) 0) 3, o 165 (.extract (.tmp 160) 1) 34, o 23 (.assign (.tmp 164)) 3, o 24 (.assign (.tmp 165)) 34] true)
 (.seq (.region 19 #[o 166 (.call { callee := .value (.func 67), args := #[.const (.int .i64 9), .const (.int .i64 1)], argTypes := #[34, 3] }) 71, o 167 (.call { callee := .value (.func 53), args := #[.const (.int .i64 3), .tmp 166], argTypes := #[3, 71] }) 71, o 25 (.alloc 71) 0, ⟨none, .store 71 (.tmp 25) (.tmp 167), 0, "", #[], none⟩] false)
 (.seq (.region 20 #[m 168 17 3, o 169 (.binOp .eql 3 (.tmp 168) (.const (.int .i64 5)) 3) 4, m 170 169 4, ⟨some 171, .move (.tmp 18), 34, "", #[], some (170, true)⟩, ⟨some 172, .binOp .eql 34 (.tmp 171) (.const (.int .i64 0)) 34, 4, "", #[], some (170, true)⟩, o 173 (.pick (.tmp 170) (.tmp 172) (.const (.bool false))) 4, m 174 173 4, ⟨some 175, .move (.tmp 20), 34, "", #[], some (174, true)⟩, ⟨some 176, .binOp .eql 34 (.tmp 175) (.const (.int .i64 19)) 34, 4, "", #[], some (174, true)⟩, o 177 (.pick (.tmp 174) (.tmp 176) (.const (.bool false))) 4, m 178 177 4, ⟨some 179, .move (.tmp 21), 3, "", #[], some (178, true)⟩, ⟨some 180, .binOp .eql 3 (.tmp 179) (.const (.int .i64 0)) 3, 4, "", #[], some (178, true)⟩, o 181 (.pick (.tmp 178) (.tmp 180) (.const (.bool false))) 4, m 182 181 4, ⟨some 183, .move (.tmp 22), 34, "", #[], some (182, true)⟩, ⟨some 184, .binOp .eql 34 (.tmp 183) (.const (.int .i64 0)) 34, 4, "", #[], some (182, true)⟩, o 185 (.pick (.tmp 182) (.tmp 184) (.const (.bool false))) 4, m 186 185 4, ⟨some 187, .move (.tmp 23), 3, "", #[], some (186, true)⟩, ⟨some 188, .binOp .eql 3 (.tmp 187) (.const (.int .i64 5)) 3, 4, "", #[], some (186, true)⟩, o 189 (.pick (.tmp 186) (.tmp 188) (.const (.bool false))) 4, m 190 189 4, ⟨some 191, .move (.tmp 24), 34, "", #[], some (190, true)⟩, ⟨some 192, .binOp .eql 34 (.tmp 191) (.const (.int .i64 8)) 34, 4, "", #[], some (190, true)⟩, o 193 (.pick (.tmp 190) (.tmp 192) (.const (.bool false))) 4, m 194 193 4, ⟨some 195, .load 71 (.tmp 25), 71, "", #[], some (194, true)⟩, ⟨some 196, .buildSlice 47 2 #[(0, .const (.int .i64 3)), (1, .const (.int .i64 1))], 47, "", #[], some (194, true)⟩, ⟨some 197, .build 71 #[(0, .tmp 196), (1, .const (.int .i64 9))], 71, "", #[], some (194, true)⟩, ⟨some 198, .call { callee := .value (.func 48), args := #[.tmp 195, .tmp 197], argTypes := #[71, 71] }, 3, "", #[], some (194, true)⟩, ⟨some 199, .binOp .eql 3 (.tmp 198) (.const (.int .i64 1)) 3, 4, "", #[], some (194, true)⟩, o 200 (.pick (.tmp 194) (.tmp 199) (.const (.bool false))) 4, o 0 (.assign (.tmp 200)) 4] false)
 .ret))))))))))))))))))
def fn50 : AFn := { ntmps := 201, results := [.tmp 0], body := c50, keep := fun | 0 => some [] | 1 => some [1] | 2 => some [1, 2, 3, 4] | 3 => some [1, 2, 3, 4, 5, 6] | 4 => some [1, 2, 3, 4, 5, 6, 7, 8] | 5 => some [1, 2, 3, 4, 70] | 6 => some [0] | 7 => some [1, 2, 3, 4, 10] | 8 => some [1, 2, 3, 4, 10, 12] | 9 => some [1, 2, 4, 10, 12, 14] | 10 => some [1, 2, 10, 12, 14, 16] | 11 => some [1, 2, 125] | 12 => some [0] | 13 => some [1, 142] | 14 => some [0] | 15 => some [1, 17, 18] | 16 => some [1, 17, 18, 20] | 17 => some [1, 17, 18, 20, 21, 22] | 18 => some [17, 18, 20, 21, 22, 23, 24] | 19 => some [17, 18, 20, 21, 22, 23, 24, 25] | 20 => some [0] | _ => none, head := fun  | _ => none, opn := fun _ => none, dyn := fun _ => [] }
def c51 : Code :=
  (.seq (.region 0 #[o 1 (.box 30 (.tmp 0)) 0, o 2 (.alloc 71) 0] false)
 (.seq (.seq (.region 1 #[o 7 (.fieldAddr 30 (.tmp 1) 2) 0, o 8 (.load 28 (.tmp 7)) 28, o 9 (.call { callee := .builtin .len, args := #[.tmp 8], argTypes := #[28] }) 3, o 10 (.move (.const (.int .i64 0))) 3] false)
 (.block 0 (.loop (.seq (.region 2 #[o 11 (.binOp .lss 3 (.tmp 10) (.tmp 9) 3) 0] false)
 (.seq (.cond (.tmp 11)
 .skip
 (.exit 0))
 (.seq (.block 1 (.seq (.region 3 #[m 12 10 3, o 13 (.indexAddr 28 (.tmp 8) (.tmp 10)) 0, o 14 (.load 30 (.tmp 13)) 30, o 4 (.alloc 30) 0, o 3 (.assign (.tmp 12)) 3, ⟨none, .store 30 (.tmp 4) (.tmp 14), 0, "", #[], none⟩] false)
 (.seq (.seq (.region 4 #[o 15 (.load 30 (.tmp 4)) 30, o 16 (.call { callee := .value (.func 32), args := #[.tmp 15], argTypes := #[30] }) 34, o 5 (.assign (.tmp 16)) 34] false)
 (.seq (.region 5 #[m 17 5 34, o 18 (.binOp .neq 34 (.tmp 17) (.const (.int .i64 0)) 34) 4] false)
 (.cond (.tmp 18)
 (.seq (.region 6 #[m 19 5 34, m 20 3 3, ⟨some 21, .buildSlice 47 1 #[(0, .tmp 20)], 47, "", fz, none⟩, o 22 (.call { callee := .value (.func 82), args := #[.tmp 19, .tmp 21], argTypes := #[34, 47] }) 71, ⟨none, .store 71 (.tmp 2) (.tmp 22), 0, "", #[], none⟩] false)
 .ret)
 .skip)))
 (.seq (.seq (.region 7 #[m 23 3 3, o 24 (.binOp .eql 3 (.tmp 23) (.const (.int .i64 0)) 3) 4] false)
 (.cond (.tmp 24)
 (.exit 1)
 .skip))
 (.seq (.region 8 #[o 25 (.fieldAddr 30 (.tmp 1) 2) 0, o 26 (.load 28 (.tmp 25)) 28, m 27 3 3, o 28 (.binOp .sub 3 (.tmp 27) (.const (.int .i64 1)) 3) 3, o 29 (.indexAddr 28 (.tmp 26) (.tmp 28)) 0, o 30 (.load 30 (.tmp 29)) 30, o 31 (.load 30 (.tmp 4)) 30, o 32 (.call { callee := .value (.func 37), args := #[.tmp 30, .tmp 31], argTypes := #[30, 30] }) 3, o 6 (.assign (.tmp 32)) 3] true)
 (.block 2 (.seq (.region 9 #[m 34 6 3, o 35 (.binOp .gtr 3 (.tmp 34) (.const (.int .i64 0)) 3) 4, o 33 (.assign (.tmp 35)) 4] false)
 (.cond (.tmp 33)
 (.seq (.region 10 #[m 36 3 3, ⟨some 37, .buildSlice 47 1 #[(0, .tmp 36)], 47, "", fz, none⟩, o 38 (.call { callee := .value (.func 82), args := #[.const (.int .i64 13), .tmp 37], argTypes := #[34, 47] }) 71, ⟨none, .store 71 (.tmp 2) (.tmp 38), 0, "", #[], none⟩] false)
 .ret)
 (.seq (.region 11 #[m 40 6 3, o 41 (.binOp .eql 3 (.tmp 40) (.const (.int .i64 0)) 3) 4, o 39 (.assign (.tmp 41)) 4] false)
 (.cond (.tmp 39)
 (.seq (.region 12 #[m 42 3 3, ⟨some 43, .buildSlice 47 1 #[(0, .tmp 42)], 47, "", fz, none⟩, o 44 (.call { callee := .value (.func 82), args := #[.const (.int .i64 14), .tmp 43], argTypes := #[34, 47] }) 71, ⟨none, .store 71 (.tmp 2) (.tmp 44), 0, "", #[], none⟩] false)
 .ret)
 .skip))))))))))
 (.region 13 #[o 45 (.binOp .add 3 (.tmp 10) (.const (.int .i64 1)) 3) 3, m 10 45 3] false)))))))
 (.seq (.region 14 #[o 46 (.build 71 #[]) 71, ⟨none, .store 71 (.tmp 2) (.tmp 46), 0, "", #[], none⟩] false)
 .ret)))
def fn51 : AFn := { ntmps := 47, results := [.cell 2 71], body := c51, keep := fun | 0 => some [1, 2] | 1 => some [1, 2, 8, 9, 10] | 2 => some [1, 2, 8, 9, 10, 11] | 3 => some [1, 2, 3, 4, 8, 9, 10] | 4 => some [1, 2, 3, 4, 5, 8, 9, 10] | 5 => some [1, 2, 3, 4, 5, 8, 9, 10, 18] | 6 => some [2] | 7 => some [1, 2, 3, 4, 8, 9, 10, 24] | 8 => some [1, 2, 3, 6, 8, 9, 10] | 9 => some [1, 2, 3, 6, 8, 9, 10, 33] | 10 => some [2] | 11 => some [1, 2, 3, 8, 9, 10, 39] | 12 => some [2] | 13 => some [1, 2, 8, 9, 10] | 14 => some [2] | _ => none, head := fun | 2 => some [1, 2, 8, 9, 10] | _ => none, opn := fun _ => none, dyn := fun _ => [] }
def c53 : Code :=
  (.seq (.region 0 #[o 3 (.box 71 (.tmp 1)) 0, o 4 (.alloc 71) 0] false)
 (.seq (.seq (.region 1 #[o 6 (.fieldAddr 71 (.tmp 3) 1) 0, o 7 (.load 34 (.tmp 6)) 34, o 8 (.binOp .eql 34 (.tmp 7) (.const (.int .i64 0)) 34) 4] false)
 (.cond (.tmp 8)
 (.seq (.region 2 #[o 9 (.build 71 #[]) 71, ⟨none, .store 71 (.tmp 4) (.tmp 9), 0, "", #[], none⟩] false)
 .ret)
 .skip))
 (.seq (.region 3 #[o 10 (.fieldAddr 71 (.tmp 3) 0) 0, o 11 (.load 47 (.tmp 10)) 47, o 12 (.call { callee := .builtin .len, args := #[.tmp 11], argTypes := #[47] }) 3, o 13 (.binOp .add 3 (.const (.int .i64 1)) (.tmp 12) 3) 3, o 14 (.makeSlice 47 (.tmp 13) (.tmp 13)) 47, o 5 (.assign (.tmp 14)) 47] false)
 (.seq (.region 4 #[m 15 5 47, m 16 0 3, o 17 (.indexAddr 47 (.tmp 15) (.const (.int .i64 0))) 0, ⟨none, .store 3 (.tmp 17) (.tmp 16), 0, "", #[], none⟩] false)
 (.seq (.region 5 #[m 18 5 47, o 19 (.slice 47 (.tmp 18) (some (.const (.int .i64 1))) none none) 47, o 20 (.fieldAddr 71 (.tmp 3) 0) 0, o 21 (.load 47 (.tmp 20)) 47, o 22 (.call { callee := .builtin .copy, args := #[.tmp 19, .tmp 21], argTypes := #[47, 47] }) 3] true)
 (.seq (.region 6 #[m 23 5 47, o 24 (.fieldAddr 71 (.tmp 3) 1) 0, o 25 (.load 34 (.tmp 24)) 34, o 26 (.build 71 #[(0, .tmp 23), (1, .tmp 25)]) 71, ⟨none, .store 71 (.tmp 4) (.tmp 26), 0, "", #[], none⟩] false)
 .ret))))))
def fn53 : AFn := { ntmps := 27, results := [.cell 4 71], body := c53, keep := fun | 0 => some [0, 3, 4] | 1 => some [0, 3, 4, 8] | 2 => some [4] | 3 => some [0, 3, 4, 5] | 4 => some [3, 4, 5] | 5 => some [3, 4, 5] | 6 => some [4] | _ => none, head := fun  | _ => none, opn := fun _ => none, dyn := fun _ => [] }
def c54 : Code :=
  (.seq (.region 0 #[o 2 (.box 30 (.tmp 0)) 0, o 3 (.box 71 (.tmp 1)) 0, o 4 (.assign (.const (.int .i64 0))) 3, o 5 (.assign (.const (.int .i64 0))) 34] false)
 (.seq (.seq (.region 1 #[o 8 (.fieldAddr 71 (.tmp 3) 1) 0, o 9 (.load 34 (.tmp 8)) 34, o 10 (.binOp .eql 34 (.tmp 9) (.const (.int .i64 0)) 34) 4] false)
 (.cond (.tmp 10)
 (.seq (.region 2 #[o 4 (.assign (.const (.int .i64 0))) 3, o 5 (.assign (.const (.int .i64 0))) 34] false)
 .ret)
 .skip))
 (.seq (.region 3 #[o 12 (.load 30 (.tmp 2)) 30, o 13 (.fieldAddr 71 (.tmp 3) 0) 0, o 14 (.load 47 (.tmp 13)) 47, o 15 (.call { callee := .value (.func 63), args := #[.tmp 12, .tmp 14], argTypes := #[30, 47] }) 84, m 11 15 84, o 16 (.extract (.tmp 11) 0) 3, o 17 (.extract (.tmp 11) 1) 34, o 6 (.assign (.tmp 16)) 3, o 7 (.assign (.tmp 17)) 34] false)
 (.seq (.region 4 #[m 18 6 3, o 19 (.fieldAddr 71 (.tmp 3) 1) 0, o 20 (.load 34 (.tmp 19)) 34, o 4 (.assign (.tmp 18)) 3, o 5 (.assign (.tmp 20)) 34] true)
 .ret))))
def fn54 : AFn := { ntmps := 21, results := [.tmp 4, .tmp 5], body := c54, keep := fun | 0 => some [2, 3] | 1 => some [2, 3, 10] | 2 => some [4, 5] | 3 => some [3, 6] | 4 => some [4, 5] | _ => none, head := fun  | _ => none, opn := fun _ => none, dyn := fun _ => [] }
def c55 : Code :=
  (.seq (.region 0 #[o 0 (.alloc 30) 0] false)
 (.seq (.region 1 #[o 1 (.call { callee := .value (.func 44), args := #[.const (.int .u8 0)], argTypes := #[5] }) 27, o 2 (.call { callee := .value (.func 44), args := #[.const (.int .u8 6)], argTypes := #[5] }) 27, o 3 (.buildSlice 22 1 #[(0, .const (.int .u8 5))]) 22, o 4 (.build 30 #[(0, .tmp 2), (1, .tmp 3)]) 30, o 5 (.call { callee := .value (.func 44), args := #[.const (.int .u8 4)], argTypes := #[5] }) 27, o 6 (.buildSlice 22 1 #[(0, .const (.int .u8 255))]) 22, o 7 (.build 30 #[(0, .tmp 5), (1, .tmp 6)]) 30, o 8 (.buildSlice 28 2 #[(0, .tmp 4), (1, .tmp 7)]) 28, o 9 (.build 30 #[(0, .tmp 1), (2, .tmp 8)]) 30, ⟨none, .store 30 (.tmp 0) (.tmp 9), 0, "", #[], none⟩] false)
 .ret))
def fn55 : AFn := { ntmps := 10, results := [.cell 0 30], body := c55, keep := fun | 0 => some [0] | 1 => some [0] | _ => none, head := fun  | _ => none, opn := fun _ => none, dyn := fun _ => [] }
def c56 : Code :=
  (.seq (.region 0 #[o 4 (.box 30 (.tmp 0)) 0, o 5 (.box 27 (.tmp 1)) 0, o 8 (.alloc 71) 0] false)
 (.seq (.seq (.region 1 #[o 10 (.fieldAddr 30 (.tmp 4) 2) 0, o 11 (.load 28 (.tmp 10)) 28, o 12 (.call { callee := .builtin .len, args := #[.tmp 11], argTypes := #[28] }) 3, o 9 (.assign (.tmp 12)) 3] false)
 (.block 0 (.seq (.region 2 #[m 14 2 3, o 15 (.binOp .lss 3 (.tmp 14) (.const (.int .i64 0)) 3) 4, m 16 15 4, ⟨some 17, .move (.tmp 3), 3, "", #[], some (16, false)⟩, ⟨some 18, .move (.tmp 2), 3, "", #[], some (16, false)⟩, ⟨some 19, .binOp .lss 3 (.tmp 17) (.tmp 18) 3, 4, "", #[], some (16, false)⟩, o 20 (.pick (.tmp 16) (.const (.bool true)) (.tmp 19)) 4, o 13 (.assign (.tmp 20)) 4] false)
 (.cond (.tmp 13)
 (.seq (.region 3 #[o 21 (.call { callee := .value (.func 82), args := #[.const (.int .i64 1), .const (.slice none 0 0)], argTypes := #[34, 47] }) 71, ⟨none, .store 71 (.tmp 8) (.tmp 21), 0, "", #[], none⟩] false)
 .ret)
 (.seq (.region 4 #[o 23 (.fieldAddr 30 (.tmp 4) 0) 0, o 24 (.load 27 (.tmp 23)) 27, o 25 (.load 27 (.tmp 5)) 27, o 26 (.binOp .neq 27 (.tmp 24) (.tmp 25) 27) 4, o 22 (.assign (.tmp 26)) 4] false)
 (.cond (.tmp 22)
 (.seq (.region 5 #[o 27 (.call { callee := .value (.func 82), args := #[.const (.int .i64 9), .const (.slice none 0 0)], argTypes := #[34, 47] }) 71, ⟨none, .store 71 (.tmp 8) (.tmp 27), 0, "", #[], none⟩] false)
 .ret)
 (.seq (.region 6 #[m 29 9 3, m 30 2 3, o 31 (.binOp .lss 3 (.tmp 29) (.tmp 30) 3) 4, m 32 31 4, ⟨some 33, .move (.tmp 9), 3, "", #[], some (32, true)⟩, ⟨some 34, .binOp .eql 3 (.tmp 33) (.const (.int .i64 0)) 3, 4, "", #[], some (32, true)⟩, o 35 (.pick (.tmp 32) (.tmp 34) (.const (.bool false))) 4, o 28 (.assign (.tmp 35)) 4] false)
 (.cond (.tmp 28)
 (.seq (.region 7 #[o 36 (.call { callee := .value (.func 82), args := #[.const (.int .i64 17), .const (.slice none 0 0)], argTypes := #[34, 47] }) 71, ⟨none, .store 71 (.tmp 8) (.tmp 36), 0, "", #[], none⟩] false)
 .ret)
 (.seq (.region 8 #[m 38 9 3, m 39 2 3, o 40 (.binOp .lss 3 (.tmp 38) (.tmp 39) 3) 4, o 37 (.assign (.tmp 40)) 4] false)
 (.cond (.tmp 37)
 (.seq (.region 9 #[o 41 (.call { callee := .value (.func 82), args := #[.const (.int .i64 7), .const (.slice none 0 0)], argTypes := #[34, 47] }) 71, ⟨none, .store 71 (.tmp 8) (.tmp 41), 0, "", #[], none⟩] false)
 .ret)
 (.seq (.region 10 #[m 43 9 3, m 44 3 3, o 45 (.binOp .gtr 3 (.tmp 43) (.tmp 44) 3) 4, o 42 (.assign (.tmp 45)) 4] false)
 (.cond (.tmp 42)
 (.seq (.region 11 #[m 46 3 3, ⟨some 47, .buildSlice 47 1 #[(0, .tmp 46)], 47, "", fz, none⟩, o 48 (.call { callee := .value (.func 82), args := #[.const (.int .i64 3), .tmp 47], argTypes := #[34, 47] }) 71, ⟨none, .store 71 (.tmp 8) (.tmp 48), 0, "", #[], none⟩] false)
 .ret)
 .skip))))))))))))
 (.seq (.region 12 #[o 49 (.build 71 #[]) 71, ⟨none, .store 71 (.tmp 8) (.tmp 49), 0, "", #[], none⟩] false)
 .ret)))
def fn56 : AFn := { ntmps := 50, results := [.cell 8 71], body := c56, keep := fun | 0 => some [2, 3, 4, 5, 8] | 1 => some [2, 3, 4, 5, 8, 9] | 2 => some [2, 3, 4, 5, 8, 9, 13] | 3 => some [8] | 4 => some [2, 3, 8, 9, 22] | 5 => some [8] | 6 => some [2, 3, 8, 9, 28] | 7 => some [8] | 8 => some [3, 8, 9, 37] | 9 => some [8] | 10 => some [3, 8, 42] | 11 => some [8] | 12 => some [8] | _ => none, head := fun  | _ => none, opn := fun _ => none, dyn := fun _ => [] }
def c57 : Code :=
  (.seq (.region 0 #[o 4 (.box 30 (.tmp 0)) 0, o 5 (.box 27 (.tmp 1)) 0, o 8 (.alloc 71) 0] false)
 (.seq (.seq (.region 1 #[m 9 2 3, o 10 (.binOp .lss 3 (.tmp 9) (.const (.int .i64 0)) 3) 4, m 11 10 4, ⟨some 12, .move (.tmp 3), 3, "", #[], some (11, false)⟩, ⟨some 13, .move (.tmp 2), 3, "", #[], some (11, false)⟩, ⟨some 14, .binOp .lss 3 (.tmp 12) (.tmp 13) 3, 4, "", #[], some (11, false)⟩, o 15 (.pick (.tmp 11) (.const (.bool true)) (.tmp 14)) 4] false)
 (.cond (.tmp 15)
 (.seq (.region 2 #[o 16 (.call { callee := .value (.func 67), args := #[.const (.int .i64 1), .const (.int .i64 (-1))], argTypes := #[34, 3] }) 71, ⟨none, .store 71 (.tmp 8) (.tmp 16), 0, "", #[], none⟩] false)
 .ret)
 .skip))
 (.seq (.seq (.region 3 #[o 17 (.fieldAddr 30 (.tmp 4) 0) 0, o 18 (.load 27 (.tmp 17)) 27, o 19 (.load 27 (.tmp 5)) 27, o 20 (.binOp .neq 27 (.tmp 18) (.tmp 19) 27) 4] false)
 (.cond (.tmp 20)
 (.seq (.region 4 #[o 21 (.call { callee := .value (.func 67), args := #[.const (.int .i64 9), .const (.int .i64 (-1))], argTypes := #[34, 3] }) 71, ⟨none, .store 71 (.tmp 8) (.tmp 21), 0, "", #[], none⟩] false)
 .ret)
 .skip))
 (.seq (.seq (.region 5 #[o 22 (.fieldAddr 30 (.tmp 4) 2) 0, o 23 (.load 28 (.tmp 22)) 28, o 24 (.call { callee := .builtin .len, args := #[.tmp 23], argTypes := #[28] }) 3, m 25 2 3, o 26 (.binOp .lss 3 (.tmp 24) (.tmp 25) 3) 4] false)
 (.cond (.tmp 26)
 (.seq (.seq (.region 6 #[o 27 (.fieldAddr 30 (.tmp 4) 2) 0, o 28 (.load 28 (.tmp 27)) 28, o 29 (.call { callee := .builtin .len, args := #[.tmp 28], argTypes := #[28] }) 3, o 30 (.binOp .eql 3 (.tmp 29) (.const (.int .i64 0)) 3) 4] false)
 (.cond (.tmp 30)
 (.seq (.region 7 #[o 31 (.call { callee := .value (.func 67), args := #[.const (.int .i64 17), .const (.int .i64 (-1))], argTypes := #[34, 3] }) 71, ⟨none, .store 71 (.tmp 8) (.tmp 31), 0, "", #[], none⟩] false)
 .ret)
 .skip))
 (.seq (.region 8 #[o 32 (.call { callee := .value (.func 67), args := #[.const (.int .i64 7), .const (.int .i64 (-1))], argTypes := #[34, 3] }) 71, ⟨none, .store 71 (.tmp 8) (.tmp 32), 0, "", #[], none⟩] false)
 .ret))
 .skip))
 (.seq (.seq (.region 9 #[o 33 (.fieldAddr 30 (.tmp 4) 2) 0, o 34 (.load 28 (.tmp 33)) 28, o 35 (.call { callee := .builtin .len, args := #[.tmp 34], argTypes := #[28] }) 3, m 36 3 3, o 37 (.binOp .gtr 3 (.tmp 35) (.tmp 36) 3) 4] false)
 (.cond (.tmp 37)
 (.seq (.region 10 #[m 38 3 3, o 39 (.call { callee := .value (.func 67), args := #[.const (.int .i64 3), .tmp 38], argTypes := #[34, 3] }) 71, ⟨none, .store 71 (.tmp 8) (.tmp 39), 0, "", #[], none⟩] false)
 .ret)
 .skip))
 (.seq (.region 11 #[o 40 (.build 71 #[]) 71, ⟨none, .store 71 (.tmp 8) (.tmp 40), 0, "", #[], none⟩] false)
 .ret))))))
def fn57 : AFn := { ntmps := 41, results := [.cell 8 71], body := c57, keep := fun | 0 => some [2, 3, 4, 5, 8] | 1 => some [2, 3, 4, 5, 8, 15] | 2 => some [8] | 3 => some [2, 3, 4, 8, 20] | 4 => some [8] | 5 => some [3, 4, 8, 26] | 6 => some [8, 30] | 7 => some [8] | 8 => some [8] | 9 => some [3, 8, 37] | 10 => some [8] | 11 => some [8] | _ => none, head := fun  | _ => none, opn := fun _ => none, dyn := fun _ => [] }
def c58 : Code :=
  (.seq (.region 0 #[o 2 (.box 30 (.tmp 0)) 0, o 4 (.alloc 71) 0] false)
 (.seq (.block 0 (.seq (.region 1 #[o 6 (.fieldAddr 30 (.tmp 2) 0) 0, o 7 (.load 27 (.tmp 6)) 27, m 8 1 25, o 9 (.build 27 #[(0, .const (.int .u8 2)), (1, .const (.bool true)), (2, .tmp 8)]) 27, o 10 (.binOp .neq 27 (.tmp 7) (.tmp 9) 27) 4, o 5 (.assign (.tmp 10)) 4] false)
 (.cond (.tmp 5)
 (.seq (.region 2 #[o 11 (.call { callee := .value (.func 82), args := #[.const (.int .i64 9), .const (.slice none 0 0)], argTypes := #[34, 47] }) 71, ⟨none, .store 71 (.tmp 4) (.tmp 11), 0, "", #[], none⟩] false)
 .ret)
 (.seq (.region 3 #[o 13 (.fieldAddr 30 (.tmp 2) 2) 0, o 14 (.load 28 (.tmp 13)) 28, o 15 (.call { callee := .builtin .len, args := #[.tmp 14], argTypes := #[28] }) 3, o 16 (.binOp .eql 3 (.tmp 15) (.const (.int .i64 0)) 3) 4, o 12 (.assign (.tmp 16)) 4] false)
 (.cond (.tmp 12)
 (.seq (.region 4 #[o 17 (.call { callee := .value (.func 82), args := #[.const (.int .i64 7), .const (.slice none 0 0)], argTypes := #[34, 47] }) 71, ⟨none, .store 71 (.tmp 4) (.tmp 17), 0, "", #[], none⟩] false)
 .ret)
 (.seq (.region 5 #[o 19 (.fieldAddr 30 (.tmp 2) 2) 0, o 20 (.load 28 (.tmp 19)) 28, o 21 (.call { callee := .builtin .len, args := #[.tmp 20], argTypes := #[28] }) 3, o 22 (.binOp .gtr 3 (.tmp 21) (.const (.int .i64 1)) 3) 4, o 18 (.assign (.tmp 22)) 4] false)
 (.cond (.tmp 18)
 (.seq (.region 6 #[⟨some 23, .buildSlice 47 1 #[(0, .const (.int .i64 1))], 47, "", fz, none⟩, o 24 (.call { callee := .value (.func 82), args := #[.const (.int .i64 8), .tmp 23], argTypes := #[34, 47] }) 71, ⟨none, .store 71 (.tmp 4) (.tmp 24), 0, "", #[], none⟩] false)
 .ret)
 .skip)))))))
 (.seq (.region 7 #[o 25 (.build 71 #[]) 71, ⟨none, .store 71 (.tmp 4) (.tmp 25), 0, "", #[], none⟩] false)
 .ret)))
def fn58 : AFn := { ntmps := 26, results := [.cell 4 71], body := c58, keep := fun | 0 => some [1, 2, 4] | 1 => some [2, 4, 5] | 2 => some [4] | 3 => some [2, 4, 12] | 4 => some [4] | 5 => some [4, 18] | 6 => some [4] | 7 => some [4] | _ => none, head := fun  | _ => none, opn := fun _ => none, dyn := fun _ => [] }
def c59 : Code :=
  (.seq (.region 0 #[o 2 (.box 30 (.tmp 0)) 0, o 4 (.alloc 71) 0] false)
 (.seq (.seq (.region 1 #[o 5 (.fieldAddr 30 (.tmp 2) 0) 0, o 6 (.fieldAddr 27 (.tmp 5) 0) 0, o 7 (.load 24 (.tmp 6)) 24, o 8 (.binOp .neq 24 (.tmp 7) (.const (.int .u8 2)) 24) 4, m 9 8 4, ⟨some 10, .fieldAddr 30 (.tmp 2) 0, 0, "", #[], some (9, false)⟩, ⟨some 11, .fieldAddr 27 (.tmp 10) 1, 0, "", #[], some (9, false)⟩, ⟨some 12, .load 4 (.tmp 11), 4, "", #[], some (9, false)⟩, ⟨some 13, .unOp .not 4 (.tmp 12), 4, "", #[], some (9, false)⟩, o 14 (.pick (.tmp 9) (.const (.bool true)) (.tmp 13)) 4, m 15 14 4, ⟨some 16, .fieldAddr 30 (.tmp 2) 0, 0, "", #[], some (15, false)⟩, ⟨some 17, .fieldAddr 27 (.tmp 16) 2, 0, "", #[], some (15, false)⟩, ⟨some 18, .load 25 (.tmp 17), 25, "", #[], some (15, false)⟩, ⟨some 19, .move (.tmp 1), 25, "", #[], some (15, false)⟩, ⟨some 20, .binOp .neq 25 (.tmp 18) (.tmp 19) 25, 4, "", #[], some (15, false)⟩, o 21 (.pick (.tmp 15) (.const (.bool true)) (.tmp 20)) 4] false)
 (.cond (.tmp 21)
 (.seq (.region 2 #[o 22 (.call { callee := .value (.func 67), args := #[.const (.int .i64 9), .const (.int .i64 (-1))], argTypes := #[34, 3] }) 71, ⟨none, .store 71 (.tmp 4) (.tmp 22), 0, "", #[], none⟩] false)
 .ret)
 .skip))
 (.seq (.seq (.region 3 #[o 23 (.fieldAddr 30 (.tmp 2) 2) 0, o 24 (.load 28 (.tmp 23)) 28, o 25 (.call { callee := .builtin .len, args := #[.tmp 24], argTypes := #[28] }) 3, o 26 (.binOp .eql 3 (.tmp 25) (.const (.int .i64 0)) 3) 4] false)
 (.cond (.tmp 26)
 (.seq (.region 4 #[o 27 (.call { callee := .value (.func 67), args := #[.const (.int .i64 7), .const (.int .i64 (-1))], argTypes := #[34, 3] }) 71, ⟨none, .store 71 (.tmp 4) (.tmp 27), 0, "", #[], none⟩] false)
 .ret)
 .skip))
 (.seq (.seq (.region 5 #[o 28 (.fieldAddr 30 (.tmp 2) 2) 0, o 29 (.load 28 (.tmp 28)) 28, o 30 (.call { callee := .builtin .len, args := #[.tmp 29], argTypes := #[28] }) 3, o 31 (.binOp .gtr 3 (.tmp 30) (.const (.int .i64 1)) 3) 4] false)
 (.cond (.tmp 31)
 (.seq (.region 6 #[o 32 (.call { callee := .value (.func 67), args := #[.const (.int .i64 8), .const (.int .i64 1)], argTypes := #[34, 3] }) 71, ⟨none, .store 71 (.tmp 4) (.tmp 32), 0, "", #[], none⟩] false)
 .ret)
 .skip))
 (.seq (.region 7 #[o 33 (.build 71 #[]) 71, ⟨none, .store 71 (.tmp 4) (.tmp 33), 0, "", #[], none⟩] false)
 .ret)))))
def fn59 : AFn := { ntmps := 34, results := [.cell 4 71], body := c59, keep := fun | 0 => some [1, 2, 4] | 1 => some [2, 4, 21] | 2 => some [4] | 3 => some [2, 4, 26] | 4 => some [4] | 5 => some [4, 31] | 6 => some [4] | 7 => some [4] | _ => none, head := fun  | _ => none, opn := fun _ => none, dyn := fun _ => [] }
def c63 : Code :=
  (.seq (.region 0 #[o 2 (.box 30 (.tmp 0)) 0, o 4 (.assign (.const (.int .i64 0))) 3, o 5 (.assign (.const (.int .i64 0))) 34] false)
 (.seq (.seq (.region 1 #[o 14 (.load 30 (.tmp 2)) 30, o 15 (.call { callee := .value (.func 21), args := #[.tmp 14], argTypes := #[30] }) 35, m 13 15 35, o 16 (.extract (.tmp 13) 0) 22, o 17 (.extract (.tmp 13) 1) 34, o 6 (.assign (.tmp 16)) 22, o 7 (.assign (.tmp 17)) 34] false)
 (.seq (.region 2 #[m 18 7 34, o 19 (.binOp .neq 34 (.tmp 18) (.const (.int .i64 0)) 34) 4] false)
 (.cond (.tmp 19)
 (.seq (.region 3 #[m 20 7 34, o 4 (.assign (.const (.int .i64 0))) 3, o 5 (.assign (.tmp 20)) 34] false)
 .ret)
 .skip)))
 (.seq (.region 4 #[o 8 (.assign (.const (.int .i64 0))) 3] false)
 (.seq (.seq (.region 5 #[m 21 1 47, o 22 (.call { callee := .builtin .len, args := #[.tmp 21], argTypes := #[47] }) 3, o 23 (.move (.const (.int .i64 0))) 3] false)
 (.block 0 (.loop (.seq (.region 6 #[o 24 (.binOp .lss 3 (.tmp 23) (.tmp 22) 3) 0] false)
 (.seq (.cond (.tmp 24)
 .skip
 (.exit 0))
 (.seq (.block 1 (.seq (.region 7 #[o 25 (.indexAddr 47 (.tmp 21) (.tmp 23)) 0, o 26 (.load 3 (.tmp 25)) 3, o 10 (.assign (.tmp 26)) 3] false)
 (.seq (.region 8 #[o 28 (.load 30 (.tmp 2)) 30, m 29 10 3, o 30 (.call { callee := .value (.func 85), args := #[.tmp 28, .tmp 29], argTypes := #[30, 3] }) 91, m 27 30 91, o 31 (.extract (.tmp 27) 0) 30, o 32 (.extract (.tmp 27) 1) 4, o 11 (.alloc 30) 0, ⟨none, .store 30 (.tmp 11) (.tmp 31), 0, "", #[], none⟩, o 12 (.assign (.tmp 32)) 4] false)
 (.seq (.seq (.region 9 #[m 33 12 4, o 34 (.unOp .not 4 (.tmp 33)) 4] false)
 (.cond (.tmp 34)
 (.seq (.region 10 #[o 4 (.assign (.const (.int .i64 0))) 3, o 5 (.assign (.const (.int .i64 19))) 34] false)
 .ret)
 .skip))
 (.seq (.region 11 #[m 35 8 3, o 36 (.load 30 (.tmp 2)) 30, ⟨some 37, .buildSlice 28 1 #[(0, .tmp 36)], 28, "", fz, none⟩, o 38 (.call { callee := .value (.func 87), args := #[.tmp 37], argTypes := #[28] }) 3, o 39 (.fieldAddr 30 (.tmp 2) 2) 0, o 40 (.load 28 (.tmp 39)) 28, m 41 10 3, o 42 (.slice 28 (.tmp 40) (some (.tmp 41)) none none) 28, o 43 (.call { callee := .value (.func 87), args := #[.tmp 42], argTypes := #[28] }) 3, o 44 (.binOp .sub 3 (.tmp 38) (.tmp 43) 3) 3, o 45 (.binOp .add 3 (.tmp 35) (.tmp 44) 3) 3, o 8 (.assign (.tmp 45)) 3] true)
 (.region 12 #[o 46 (.load 30 (.tmp 11)) 30, ⟨none, .store 30 (.tmp 2) (.tmp 46), 0, "", #[], none⟩] false))))))
 (.region 13 #[o 47 (.binOp .add 3 (.tmp 23) (.const (.int .i64 1)) 3) 3, m 23 47 3] false)))))))
 (.seq (.region 14 #[m 48 8 3, o 4 (.assign (.tmp 48)) 3, o 5 (.assign (.const (.int .i64 0))) 34] false)
 .ret)))))
def fn63 : AFn := { ntmps := 49, results := [.tmp 4, .tmp 5], body := c63, keep := fun | 0 => some [1, 2] | 1 => some [1, 2, 7] | 2 => some [1, 2, 7, 19] | 3 => some [4, 5] | 4 => some [1, 2, 8] | 5 => some [2, 8, 21, 22, 23] | 6 => some [2, 8, 21, 22, 23, 24] | 7 => some [2, 8, 10, 21, 22, 23] | 8 => some [2, 8, 10, 11, 12, 21, 22, 23] | 9 => some [2, 8, 10, 11, 21, 22, 23, 34] | 10 => some [4, 5] | 11 => some [2, 8, 11, 21, 22, 23] | 12 => some [2, 8, 21, 22, 23] | 13 => some [2, 8, 21, 22, 23] | 14 => some [4, 5] | _ => none, head := fun | 6 => some [2, 8, 21, 22, 23] | _ => none, opn := fun _ => none, dyn := fun _ => [] }
def c67 : Code :=
  (.seq (.region 0 #[o 4 (.alloc 71) 0] false)
 (.seq (.region 1 #[m 6 0 34, o 7 (.build 71 #[(1, .tmp 6)]) 71, o 5 (.alloc 71) 0, ⟨none, .store 71 (.tmp 5) (.tmp 7), 0, "", #[], none⟩] false)
 (.seq (.seq (.region 2 #[m 8 1 3, o 9 (.binOp .geq 3 (.tmp 8) (.const (.int .i64 0)) 3) 4] false)
 (.cond (.tmp 9)
 (.region 3 #[o 10 (.fieldAddr 71 (.tmp 5) 0) 0, o 11 (.load 47 (.tmp 10)) 47, m 12 1 3, o 13 (.buildSlice 47 1 #[(0, .tmp 12)]) 47, o 14 (.call { callee := .builtin .append, args := #[.tmp 11, .tmp 13], argTypes := #[47, 47] }) 47, o 15 (.fieldAddr 71 (.tmp 5) 0) 0, ⟨none, .store 47 (.tmp 15) (.tmp 14), 0, "", #[], none⟩] false)
 .skip))
 (.seq (.region 4 #[o 16 (.load 71 (.tmp 5)) 71, ⟨none, .store 71 (.tmp 4) (.tmp 16), 0, "", #[], none⟩] false)
 .ret))))
def fn67 : AFn := { ntmps := 17, results := [.cell 4 71], body := c67, keep := fun | 0 => some [0, 1, 4] | 1 => some [1, 4, 5] | 2 => some [1, 4, 5, 9] | 3 => some [4, 5] | 4 => some [4] | _ => none, head := fun  | _ => none, opn := fun _ => none, dyn := fun _ => [] }
def c69 : Code :=
  (.seq (.region 0 #[o 1 (.box 30 (.tmp 0)) 0, o 2 (.assign (.const (.int .i64 0))) 3] false)
 (.seq (.region 1 #[o 4 (.load 30 (.tmp 1)) 30, o 5 (.call { callee := .value (.func 90), args := #[.tmp 4], argTypes := #[30] }) 3, o 3 (.assign (.tmp 5)) 3] false)
 (.seq (.seq (.region 2 #[m 6 3 3, o 7 (.binOp .gtr 3 (.tmp 6) (.const (.int .i64 1048576)) 3) 4] false)
 (.cond (.tmp 7)
 (.seq (.region 3 #[m 8 3 3, o 2 (.assign (.tmp 8)) 3] false)
 .ret)
 .skip))
 (.seq (.region 4 #[o 9 (.fieldAddr 30 (.tmp 1) 0) 0, o 10 (.load 27 (.tmp 9)) 27, o 11 (.call { callee := .value (.func 92), args := #[.tmp 10], argTypes := #[27] }) 3, m 12 3 3, o 13 (.call { callee := .value (.func 91), args := #[.tmp 11, .tmp 12], argTypes := #[3, 3] }) 3, o 2 (.assign (.tmp 13)) 3] false)
 .ret))))
def fn69 : AFn := { ntmps := 14, results := [.tmp 2], body := c69, keep := fun | 0 => some [1] | 1 => some [1, 3] | 2 => some [1, 3, 7] | 3 => some [2] | 4 => some [2] | _ => none, head := fun  | _ => none, opn := fun _ => none, dyn := fun _ => [] }
def c70 : Code :=
  (.seq (.region 0 #[o 3 (.box 30 (.tmp 1)) 0, o 4 (.assign (.const (.slice none 0 0))) 22] false)
 (.seq (.region 1 #[o 12 (.fieldAddr 30 (.tmp 3) 0) 0, o 13 (.load 27 (.tmp 12)) 27, o 14 (.call { callee := .value (.func 93), args := #[.tmp 13], argTypes := #[27] }) 35, m 11 14 35, o 15 (.extract (.tmp 11) 0) 22, o 16 (.extract (.tmp 11) 1) 34, o 5 (.assign (.tmp 15)) 22, o 6 (.assign (.tmp 16)) 34] false)
 (.seq (.region 2 #[o 18 (.load 30 (.tmp 3)) 30, o 19 (.call { callee := .value (.func 90), args := #[.tmp 18], argTypes := #[30] }) 3, o 20 (.call { callee := .value (.func 94), args := #[.tmp 19], argTypes := #[3] }) 35, m 17 20 35, o 21 (.extract (.tmp 17) 0) 22, o 22 (.extract (.tmp 17) 1) 34, o 7 (.assign (.tmp 21)) 22, o 8 (.assign (.tmp 22)) 34] false)
 (.seq (.region 3 #[m 23 0 22, m 24 5 22, o 25 (.call { callee := .builtin .append, args := #[.tmp 23, .tmp 24], argTypes := #[22, 22] }) 22, m 26 7 22, o 27 (.call { callee := .builtin .append, args := #[.tmp 25, .tmp 26], argTypes := #[22, 22] }) 22, o 0 (.assign (.tmp 27)) 22] false)
 (.seq (.region 4 #[m 28 0 22, o 29 (.fieldAddr 30 (.tmp 3) 1) 0, o 30 (.load 22 (.tmp 29)) 22, o 31 (.call { callee := .builtin .append, args := #[.tmp 28, .tmp 30], argTypes := #[22, 22] }) 22, o 0 (.assign (.tmp 31)) 22] false)
 (.seq (.seq (.region 5 #[o 32 (.fieldAddr 30 (.tmp 3) 2) 0, o 33 (.load 28 (.tmp 32)) 28, o 34 (.call { callee := .builtin .len, args := #[.tmp 33], argTypes := #[28] }) 3, o 35 (.move (.const (.int .i64 0))) 3] false)
 (.block 0 (.loop (.seq (.region 6 #[o 36 (.binOp .lss 3 (.tmp 35) (.tmp 34) 3) 0] false)
 (.seq (.cond (.tmp 36)
 .skip
 (.exit 0))
 (.seq (.block 1 (.seq (.region 7 #[o 37 (.indexAddr 28 (.tmp 33) (.tmp 35)) 0, o 38 (.load 30 (.tmp 37)) 30, o 10 (.alloc 30) 0, ⟨none, .store 30 (.tmp 10) (.tmp 38), 0, "", #[], none⟩] false)
 (.region 8 #[m 39 0 22, o 40 (.load 30 (.tmp 10)) 30, o 41 (.call { callee := .value (.func 70), args := #[.tmp 39, .tmp 40], argTypes := #[22, 30] }) 22, o 0 (.assign (.tmp 41)) 22] false)))
 (.region 9 #[o 42 (.binOp .add 3 (.tmp 35) (.const (.int .i64 1)) 3) 3, m 35 42 3] false)))))))
 (.seq (.region 10 #[m 43 0 22, o 4 (.assign (.tmp 43)) 22] false)
 .ret)))))))
def fn70 : AFn := { ntmps := 44, results := [.tmp 4], body := c70, keep := fun | 0 => some [0, 3] | 1 => some [0, 3, 5] | 2 => some [0, 3, 5, 7] | 3 => some [0, 3] | 4 => some [0, 3] | 5 => some [0, 33, 34, 35] | 6 => some [0, 33, 34, 35, 36] | 7 => some [0, 10, 33, 34, 35] | 8 => some [0, 33, 34, 35] | 9 => some [0, 33, 34, 35] | 10 => some [4] | _ => none, head := fun | 6 => some [0, 33, 34, 35] | _ => none, opn := opnT, dyn := fun _ => [] }
def c71 : Code :=
  (.seq (.region 0 #[o 1 (.box 105 (.tmp 0)) 0, o 2 (.alloc 27) 0] false)
 (.seq (.region 1 #[o 4 (.fieldAddr 105 (.tmp 1) 0) 0, o 5 (.load 5 (.tmp 4)) 5, o 6 (.binOp .rem 5 (.tmp 5) (.const (.int .u8 4)) 5) 5, o 7 (.fieldAddr 105 (.tmp 1) 1) 0, o 8 (.load 5 (.tmp 7)) 5, o 9 (.binOp .rem 5 (.tmp 8) (.const (.int .u8 2)) 5) 5, o 10 (.binOp .eql 5 (.tmp 9) (.const (.int .u8 1)) 5) 4, o 11 (.fieldAddr 105 (.tmp 1) 2) 0, o 12 (.load 25 (.tmp 11)) 25, o 13 (.binOp .rem 25 (.tmp 12) (.const (.int .u32 268435456)) 25) 25, o 14 (.build 27 #[(0, .tmp 6), (1, .tmp 10), (2, .tmp 13)]) 27, o 3 (.alloc 27) 0, ⟨none, .store 27 (.tmp 3) (.tmp 14), 0, "", #[], none⟩] false)
 (.seq (.seq (.region 2 #[o 15 (.load 27 (.tmp 3)) 27, o 16 (.call { callee := .value (.func 80), args := #[.tmp 15], argTypes := #[27] }) 3, o 17 (.binOp .neq 3 (.tmp 16) (.const (.int .i64 0)) 3) 4] false)
 (.cond (.tmp 17)
 (.region 3 #[o 18 (.fieldAddr 27 (.tmp 3) 2) 0, ⟨none, .store 25 (.tmp 18) (.const (.int .u32 4)), 0, "", #[], none⟩] false)
 .skip))
 (.seq (.region 4 #[o 19 (.load 27 (.tmp 3)) 27, ⟨none, .store 27 (.tmp 2) (.tmp 19), 0, "", #[], none⟩] false)
 .ret))))
def fn71 : AFn := { ntmps := 20, results := [.cell 2 27], body := c71, keep := fun | 0 => some [1, 2] | 1 => some [2, 3] | 2 => some [2, 3, 17] | 3 => some [2, 3] | 4 => some [2] | _ => none, head := fun  | _ => none, opn := fun _ => none, dyn := fun _ => [] }
def c74 : Code :=
  (.seq (.region 0 #[o 1 (.box 30 (.tmp 0)) 0, o 2 (.alloc 30) 0] false)
 (.seq (.region 1 #[o 6 (.fieldAddr 30 (.tmp 1) 0) 0, o 7 (.load 27 (.tmp 6)) 27, o 8 (.fieldAddr 30 (.tmp 1) 1) 0, o 9 (.load 22 (.tmp 8)) 22, o 10 (.call { callee := .value (.func 98), args := #[.tmp 9], argTypes := #[22] }) 22, o 11 (.call { callee := .value (.func 97), args := #[.tmp 10], argTypes := #[22] }) 22, o 12 (.build 30 #[(0, .tmp 7), (1, .tmp 11)]) 30, o 3 (.alloc 30) 0, ⟨none, .store 30 (.tmp 3) (.tmp 12), 0, "", #[], none⟩] true)
 (.seq (.seq (.region 2 #[o 13 (.fieldAddr 30 (.tmp 1) 2) 0, o 14 (.load 28 (.tmp 13)) 28, o 15 (.call { callee := .builtin .len, args := #[.tmp 14], argTypes := #[28] }) 3, o 16 (.binOp .gtr 3 (.tmp 15) (.const (.int .i64 0)) 3) 4] false)
 (.cond (.tmp 16)
 (.region 3 #[o 17 (.fieldAddr 30 (.tmp 1) 2) 0, o 18 (.load 28 (.tmp 17)) 28, o 19 (.call { callee := .builtin .len, args := #[.tmp 18], argTypes := #[28] }) 3, o 20 (.makeSlice 28 (.tmp 19) (.tmp 19)) 28, o 21 (.fieldAddr 30 (.tmp 3) 2) 0, ⟨none, .store 28 (.tmp 21) (.tmp 20), 0, "", #[], none⟩] false)
 .skip))
 (.seq (.seq (.region 4 #[o 22 (.fieldAddr 30 (.tmp 1) 2) 0, o 23 (.load 28 (.tmp 22)) 28, o 24 (.call { callee := .builtin .len, args := #[.tmp 23], argTypes := #[28] }) 3, o 25 (.move (.const (.int .i64 0))) 3] false)
 (.block 0 (.loop (.seq (.region 5 #[o 26 (.binOp .lss 3 (.tmp 25) (.tmp 24) 3) 0] false)
 (.seq (.cond (.tmp 26)
 .skip
 (.exit 0))
 (.seq (.block 1 (.seq (.region 6 #[m 27 25 3, o 28 (.indexAddr 28 (.tmp 23) (.tmp 25)) 0, o 29 (.load 30 (.tmp 28)) 30, o 5 (.alloc 30) 0, o 4 (.assign (.tmp 27)) 3, ⟨none, .store 30 (.tmp 5) (.tmp 29), 0, "", #[], none⟩] false)
 (.region 7 #[o 30 (.fieldAddr 30 (.tmp 3) 2) 0, o 31 (.load 28 (.tmp 30)) 28, m 32 4 3, o 33 (.load 30 (.tmp 5)) 30, o 34 (.call { callee := .value (.func 74), args := #[.tmp 33], argTypes := #[30] }) 30, o 35 (.indexAddr 28 (.tmp 31) (.tmp 32)) 0, ⟨none, .store 30 (.tmp 35) (.tmp 34), 0, "", #[], none⟩] true)))
 (.region 8 #[o 36 (.binOp .add 3 (.tmp 25) (.const (.int .i64 1)) 3) 3, m 25 36 3] false)))))))
 (.seq (.region 9 #[o 37 (.load 30 (.tmp 3)) 30, ⟨none, .store 30 (.tmp 2) (.tmp 37), 0, "", #[], none⟩] false)
 .ret)))))
def fn74 : AFn := { ntmps := 38, results := [.cell 2 30], body := c74, keep := fun | 0 => some [1, 2] | 1 => some [1, 2, 3] | 2 => some [1, 2, 3, 16] | 3 => some [1, 2, 3] | 4 => some [2, 3, 23, 24, 25] | 5 => some [2, 3, 23, 24, 25, 26] | 6 => some [2, 3, 4, 5, 23, 24, 25] | 7 => some [2, 3, 23, 24, 25] | 8 => some [2, 3, 23, 24, 25] | 9 => some [2] | _ => none, head := fun | 5 => some [2, 3, 23, 24, 25] | _ => none, opn := fun _ => none, dyn := fun _ => [] }
def c75 : Code :=
  (.seq (.region 0 #[o 1 (.box 30 (.tmp 0)) 0, o 2 (.assign (.const (.int .i64 0))) 34, o 3 (.alloc 3) 0, o 4 (.alloc 3) 0] false)
 (.seq (.region 1 #[o 5 (.load 30 (.tmp 1)) 30, o 6 (.makeFunc (.func 101) #[] #[.tmp 3, .tmp 4]) 145, o 7 (.call { callee := .value (.func 100), args := #[.tmp 5, .tmp 6], argTypes := #[30, 145] }) 34, o 2 (.assign (.tmp 7)) 34] false)
 (.seq (.seq (.region 2 #[m 8 2 34, o 9 (.binOp .neq 34 (.tmp 8) (.const (.int .i64 0)) 34) 4] false)
 (.cond (.tmp 9)
 (.seq (.region 3 #[m 10 2 34, o 2 (.assign (.tmp 10)) 34, ⟨none, .store 3 (.tmp 3) (.const (.int .i64 0)), 0, "", #[], none⟩, ⟨none, .store 3 (.tmp 4) (.const (.int .i64 0)), 0, "", #[], none⟩] false)
 .ret)
 .skip))
 (.seq (.region 4 #[o 11 (.load 3 (.tmp 3)) 3, o 12 (.load 3 (.tmp 4)) 3, o 2 (.assign (.const (.int .i64 0))) 34, ⟨none, .store 3 (.tmp 3) (.tmp 11), 0, "", #[], none⟩, ⟨none, .store 3 (.tmp 4) (.tmp 12), 0, "", #[], none⟩] true)
 .ret))))
def fn75 : AFn := { ntmps := 13, results := [.tmp 2, .cell 3 3, .cell 4 3], body := c75, keep := fun | 0 => some [1, 3, 4] | 1 => some [2, 3, 4] | 2 => some [2, 3, 4, 9] | 3 => some [2, 3, 4] | 4 => some [2, 3, 4] | _ => none, head := fun  | _ => none, opn := opnT, dyn := fun | 4 => [(1, 3)] | _ => [] }
def c77 : Code :=
  (.seq (.region 0 #[o 2 (.assign (.const (.slice none 0 0))) 22] false)
 (.seq (.seq (.region 1 #[m 4 0 3, o 5 (.binOp .lss 3 (.tmp 4) (.const (.int .i64 128)) 3) 4] false)
 (.cond (.tmp 5)
 (.seq (.region 2 #[m 6 0 3, o 7 (.convert 3 5 (.tmp 6)) 5, o 8 (.buildSlice 22 1 #[(0, .tmp 7)]) 22, o 2 (.assign (.tmp 8)) 22] false)
 .ret)
 .skip))
 (.seq (.region 3 #[o 3 (.assign (.const (.slice none 0 0))) 22] false)
 (.seq (.block 0 (.loop (.seq (.seq (.region 4 #[m 9 0 3, o 10 (.binOp .gtr 3 (.tmp 9) (.const (.int .i64 0)) 3) 4] false)
 (.cond (.tmp 10)
 .skip
 (.exit 0)))
 (.block 1 (.seq (.region 5 #[m 11 0 3, o 12 (.binOp .rem 3 (.tmp 11) (.const (.int .i64 256)) 3) 3, o 13 (.convert 3 5 (.tmp 12)) 5, o 14 (.buildSlice 22 1 #[(0, .tmp 13)]) 22, m 15 3 22, o 16 (.call { callee := .builtin .append, args := #[.tmp 14, .tmp 15], argTypes := #[22, 22] }) 22, o 3 (.assign (.tmp 16)) 22] false)
 (.region 6 #[m 17 0 3, o 18 (.binOp .quo 3 (.tmp 17) (.const (.int .i64 256)) 3) 3, o 0 (.assign (.tmp 18)) 3] false))))))
 (.seq (.region 7 #[m 19 3 22, o 20 (.call { callee := .builtin .len, args := #[.tmp 19], argTypes := #[22] }) 3, o 21 (.binOp .add 3 (.const (.int .i64 128)) (.tmp 20) 3) 3, o 22 (.convert 3 5 (.tmp 21)) 5, o 23 (.buildSlice 22 1 #[(0, .tmp 22)]) 22, m 24 3 22, o 25 (.call { callee := .builtin .append, args := #[.tmp 23, .tmp 24], argTypes := #[22, 22] }) 22, o 2 (.assign (.tmp 25)) 22] false)
 .ret)))))
def fn77 : AFn := { ntmps := 26, results := [.tmp 2], body := c77, keep := fun | 0 => some [0] | 1 => some [0, 5] | 2 => some [2] | 3 => some [0, 3] | 4 => some [0, 3, 10] | 5 => some [0, 3] | 6 => some [0, 3] | 7 => some [2] | _ => none, head := fun | 4 => some [0, 3] | _ => none, opn := fun _ => none, dyn := fun _ => [] }
def c79 : Code :=
  (.seq (.region 0 #[o 4 (.assign (.const (.int .i64 0))) 3] false)
 (.seq (.region 1 #[m 5 0 22, m 6 1 22, o 7 (.call { callee := .value (.func 106), args := #[.tmp 5, .tmp 6], argTypes := #[22, 22] }) 3, o 4 (.assign (.tmp 7)) 3] false)
 .ret))
def fn79 : AFn := { ntmps := 8, results := [.tmp 4], body := c79, keep := fun | 0 => some [0, 1] | 1 => some [4] | _ => none, head := fun  | _ => none, opn := fun _ => none, dyn := fun _ => [] }
def c80 : Code :=
  (.seq (.region 0 #[o 1 (.box 27 (.tmp 0)) 0, o 2 (.assign (.const (.int .i64 0))) 3] false)
 (.seq (.seq (.region 1 #[o 3 (.fieldAddr 27 (.tmp 1) 0) 0, o 4 (.load 24 (.tmp 3)) 24, o 5 (.binOp .gtr 24 (.tmp 4) (.const (.int .u8 3)) 24) 4, m 6 5 4, ⟨some 7, .fieldAddr 27 (.tmp 1) 2, 0, "", #[], some (6, false)⟩, ⟨some 8, .load 25 (.tmp 7), 25, "", #[], some (6, false)⟩, ⟨some 9, .binOp .gtr 25 (.tmp 8) (.const (.int .u32 268435455)) 25, 4, "", #[], some (6, false)⟩, o 10 (.pick (.tmp 6) (.const (.bool true)) (.tmp 9)) 4] false)
 (.cond (.tmp 10)
 (.seq (.region 2 #[o 2 (.assign (.const (.int .i64 1))) 3] false)
 .ret)
 .skip))
 (.seq (.seq (.region 3 #[o 11 (.fieldAddr 27 (.tmp 1) 0) 0, o 12 (.load 24 (.tmp 11)) 24, o 13 (.binOp .eql 24 (.tmp 12) (.const (.int .u8 0)) 24) 4, m 14 13 4, ⟨some 15, .fieldAddr 27 (.tmp 1) 2, 0, "", #[], some (14, true)⟩, ⟨some 16, .load 25 (.tmp 15), 25, "", #[], some (14, true)⟩, ⟨some 17, .binOp .eql 25 (.tmp 16) (.const (.int .u32 0)) 25, 4, "", #[], some (14, true)⟩, ⟨some 18, .move (.tmp 17), 4, "", #[], some (14, true)⟩, ⟨some 19, .fieldAddr 27 (.tmp 1) 1, 0, "", #[], some (18, false)⟩, ⟨some 20, .load 4 (.tmp 19), 4, "", #[], some (18, false)⟩, ⟨some 21, .unOp .not 4 (.tmp 20), 4, "", #[], some (18, false)⟩, ⟨some 22, .move (.tmp 21), 4, "", #[], some (18, false)⟩, ⟨some 23, .fieldAddr 27 (.tmp 1) 2, 0, "", #[], some (22, true)⟩, ⟨some 24, .load 25 (.tmp 23), 25, "", #[], some (22, true)⟩, ⟨some 25, .binOp .eql 25 (.tmp 24) (.const (.int .u32 16)) 25, 4, "", #[], some (22, true)⟩, ⟨some 26, .move (.tmp 25), 4, "", #[], some (22, true)⟩, ⟨some 27, .fieldAddr 27 (.tmp 1) 2, 0, "", #[], some (26, false)⟩, ⟨some 28, .load 25 (.tmp 27), 25, "", #[], some (26, false)⟩, ⟨some 29, .binOp .eql 25 (.tmp 28) (.const (.int .u32 17)) 25, 4, "", #[], some (26, false)⟩, ⟨some 30, .pick (.tmp 26) (.const (.bool true)) (.tmp 29), 4, "", #[], some (22, true)⟩, ⟨some 31, .pick (.tmp 22) (.tmp 30) (.const (.bool false)), 4, "", #[], some (18, false)⟩, ⟨some 32, .pick (.tmp 18) (.const (.bool true)) (.tmp 31), 4, "", #[], some (14, true)⟩, o 33 (.pick (.tmp 14) (.tmp 32) (.const (.bool false))) 4] false)
 (.cond (.tmp 33)
 (.seq (.region 4 #[o 2 (.assign (.const (.int .i64 9))) 3] false)
 .ret)
 .skip))
 (.seq (.region 5 #[o 2 (.assign (.const (.int .i64 0))) 3] false)
 .ret))))
def fn80 : AFn := { ntmps := 34, results := [.tmp 2], body := c80, keep := fun | 0 => some [1] | 1 => some [1, 10] | 2 => some [2] | 3 => some [33] | 4 => some [2] | 5 => some [2] | _ => none, head := fun  | _ => none, opn := fun _ => none, dyn := fun _ => [] }
def c81 : Code :=
  (.seq (.region 0 #[o 6 (.assign (.const (.slice none 0 0))) 28, o 7 (.assign (.const (.int .i64 0))) 3] false)
 (.seq (.region 1 #[o 8 (.assign (.const (.slice none 0 0))) 28] false)
 (.seq (.block 0 (.loop (.seq (.seq (.region 2 #[m 11 1 3, m 12 0 22, o 13 (.call { callee := .builtin .len, args := #[.tmp 12], argTypes := #[22] }) 3, o 14 (.binOp .lss 3 (.tmp 11) (.tmp 13) 3) 4, m 15 14 4, ⟨some 16, .move (.tmp 1), 3, "", #[], some (15, true)⟩, ⟨some 17, .binOp .lss 3 (.tmp 16) (.const (.int .i64 40)) 3, 4, "", #[], some (15, true)⟩, o 18 (.pick (.tmp 15) (.tmp 17) (.const (.bool false))) 4] false)
 (.cond (.tmp 18)
 .skip
 (.exit 0)))
 (.block 1 (.seq (.region 3 #[m 19 0 22, m 20 1 3, o 21 (.indexAddr 22 (.tmp 19) (.tmp 20)) 0, o 22 (.load 5 (.tmp 21)) 5, o 9 (.assign (.tmp 22)) 5] false)
 (.seq (.region 4 #[m 23 1 3, o 24 (.binOp .add 3 (.tmp 23) (.const (.int .i64 1)) 3) 3, o 1 (.assign (.tmp 24)) 3] false)
 (.seq (.seq (.region 5 #[m 25 9 5, o 26 (.binOp .rem 5 (.tmp 25) (.const (.int .u8 16)) 5) 5, o 27 (.binOp .eql 5 (.tmp 26) (.const (.int .u8 15)) 5) 4] false)
 (.cond (.tmp 27)
 (.seq (.region 6 #[m 28 8 28, m 29 1 3, o 6 (.assign (.tmp 28)) 28, o 7 (.assign (.tmp 29)) 3] false)
 .ret)
 .skip))
 (.seq (.region 7 #[m 30 9 5, o 31 (.call { callee := .value (.func 44), args := #[.tmp 30], argTypes := #[5] }) 27, o 32 (.build 30 #[(0, .tmp 31)]) 30, o 10 (.alloc 30) 0, ⟨none, .store 30 (.tmp 10) (.tmp 32), 0, "", #[], none⟩] false)
 (.seq (.seq (.region 8 #[o 33 (.fieldAddr 30 (.tmp 10) 0) 0, o 34 (.fieldAddr 27 (.tmp 33) 1) 0, o 35 (.load 4 (.tmp 34)) 4] false)
 (.cond (.tmp 35)
 (.seq (.seq (.region 9 #[m 36 2 3, o 37 (.binOp .eql 3 (.tmp 36) (.const (.int .i64 5)) 3) 4] false)
 (.cond (.tmp 37)
 (.exit 1)
 .skip))
 (.region 10 #[m 39 0 22, m 40 1 3, m 41 2 3, o 42 (.binOp .add 3 (.tmp 41) (.const (.int .i64 1)) 3) 3, o 43 (.call { callee := .value (.func 81), args := #[.tmp 39, .tmp 40, .tmp 42], argTypes := #[22, 3, 3] }) 122, m 38 43 122, o 44 (.extract (.tmp 38) 0) 28, o 45 (.extract (.tmp 38) 1) 3, o 46 (.fieldAddr 30 (.tmp 10) 2) 0, ⟨none, .store 28 (.tmp 46) (.tmp 44), 0, "", #[], none⟩, o 1 (.assign (.tmp 45)) 3] false))
 (.seq (.region 11 #[o 47 (.fieldAddr 30 (.tmp 10) 0) 0, o 48 (.fieldAddr 27 (.tmp 47) 0) 0, o 49 (.load 24 (.tmp 48)) 24, o 50 (.binOp .eql 24 (.tmp 49) (.const (.int .u8 0)) 24) 4, m 51 50 4, ⟨some 52, .fieldAddr 30 (.tmp 10) 0, 0, "", #[], some (51, true)⟩, ⟨some 53, .fieldAddr 27 (.tmp 52) 2, 0, "", #[], some (51, true)⟩, ⟨some 54, .load 25 (.tmp 53), 25, "", #[], some (51, true)⟩, ⟨some 55, .binOp .eql 25 (.tmp 54) (.const (.int .u32 1)) 25, 4, "", #[], some (51, true)⟩, o 56 (.pick (.tmp 51) (.tmp 55) (.const (.bool false))) 4] false)
 (.cond (.tmp 56)
 (.region 12 #[⟨some 57, .buildSlice 22 1 #[(0, .const (.int .u8 255))], 22, "", fz, none⟩, o 58 (.fieldAddr 30 (.tmp 10) 1) 0, ⟨none, .store 22 (.tmp 58) (.tmp 57), 0, "", #[], none⟩] false)
 (.seq (.region 13 #[o 59 (.fieldAddr 30 (.tmp 10) 0) 0, o 60 (.fieldAddr 27 (.tmp 59) 0) 0, o 61 (.load 24 (.tmp 60)) 24, o 62 (.binOp .eql 24 (.tmp 61) (.const (.int .u8 0)) 24) 4, m 63 62 4, ⟨some 64, .fieldAddr 30 (.tmp 10) 0, 0, "", #[], some (63, true)⟩, ⟨some 65, .fieldAddr 27 (.tmp 64) 2, 0, "", #[], some (63, true)⟩, ⟨some 66, .load 25 (.tmp 65), 25, "", #[], some (63, true)⟩, ⟨some 67, .binOp .eql 25 (.tmp 66) (.const (.int .u32 2)) 25, 4, "", #[], some (63, true)⟩, o 68 (.pick (.tmp 63) (.tmp 67) (.const (.bool false))) 4] false)
 (.cond (.tmp 68)
 (.region 14 #[m 69 9 5, o 70 (.binOp .quo 5 (.tmp 69) (.const (.int .u8 8)) 5) 5, ⟨some 71, .buildSlice 22 1 #[(0, .tmp 70)], 22, "", fz, none⟩, o 72 (.fieldAddr 30 (.tmp 10) 1) 0, ⟨none, .store 22 (.tmp 72) (.tmp 71), 0, "", #[], none⟩] false)
 (.region 15 #[m 73 9 5, o 74 (.convert 5 3 (.tmp 73)) 3, m 75 9 5, o 76 (.binOp .quo 5 (.tmp 75) (.const (.int .u8 64)) 5) 5, o 77 (.convert 5 3 (.tmp 76)) 3, o 78 (.binOp .mul 3 (.tmp 74) (.tmp 77) 3) 3, ⟨some 79, .makeSlice 22 (.tmp 78) (.tmp 78), 22, "", fz, none⟩, o 80 (.fieldAddr 30 (.tmp 10) 1) 0, ⟨none, .store 22 (.tmp 80) (.tmp 79), 0, "", #[], none⟩] false)))))))
 (.region 16 #[m 81 8 28, o 82 (.load 30 (.tmp 10)) 30, o 83 (.buildSlice 28 1 #[(0, .tmp 82)]) 28, o 84 (.call { callee := .builtin .append, args := #[.tmp 81, .tmp 83], argTypes := #[28, 28] }) 28, o 8 (.assign (.tmp 84)) 28] false))))))))))
 (.seq (.region 17 #[m 85 8 28, m 86 1 3, o 6 (.assign (.tmp 85)) 28, o 7 (.assign (.tmp 86)) 3] false)
 .ret))))
def fn81 : AFn := { ntmps := 87, results := [.tmp 6, .tmp 7], body := c81, keep := fun | 0 => some [0, 1, 2] | 1 => some [0, 1, 2, 8] | 2 => some [0, 1, 2, 8, 18] | 3 => some [0, 1, 2, 8, 9] | 4 => some [0, 1, 2, 8, 9] | 5 => some [0, 1, 2, 8, 9, 27] | 6 => some [6, 7] | 7 => some [0, 1, 2, 8, 9, 10] | 8 => some [0, 1, 2, 8, 9, 10, 35] | 9 => some [0, 1, 2, 8, 10, 37] | 10 => some [0, 1, 2, 8, 10] | 11 => some [0, 1, 2, 8, 9, 10, 56] | 12 => some [0, 1, 2, 8, 10] | 13 => some [0, 1, 2, 8, 9, 10, 68] | 14 => some [0, 1, 2, 8, 10] | 15 => some [0, 1, 2, 8, 10] | 16 => some [0, 1, 2, 8] | 17 => some [6, 7] | _ => none, head := fun | 2 => some [0, 1, 2, 8] | _ => none, opn := fun _ => none, dyn := fun | 1000000 => [(57, 0), (71, 0), (79, 0)] | _ => [] }
def c82 : Code :=
  (.seq (.region 0 #[o 4 (.alloc 71) 0] false)
 (.seq (.region 1 #[m 5 1 47, o 6 (.call { callee := .value (.func 107), args := #[.tmp 5], argTypes := #[47] }) 47, m 7 0 34, o 8 (.build 71 #[(0, .tmp 6), (1, .tmp 7)]) 71, ⟨none, .store 71 (.tmp 4) (.tmp 8), 0, "", #[], none⟩] false)
 .ret))
def fn82 : AFn := { ntmps := 9, results := [.cell 4 71], body := c82, keep := fun | 0 => some [0, 1, 4] | 1 => some [4] | _ => none, head := fun  | _ => none, opn := fun _ => none, dyn := fun _ => [] }
def c83 : Code :=
  (.seq (.region 0 #[o 2 (.box 78 (.tmp 0)) 0, o 3 (.box 30 (.tmp 1)) 0, o 4 (.assign (.const (.bool false))) 4] false)
 (.seq (.region 1 #[o 5 (.fieldAddr 78 (.tmp 2) 1) 0, o 6 (.load 4 (.tmp 5)) 4, m 7 6 4, ⟨some 8, .fieldAddr 78 (.tmp 2) 0, 0, "", #[], some (7, false)⟩, ⟨some 9, .load 27 (.tmp 8), 27, "", #[], some (7, false)⟩, ⟨some 10, .fieldAddr 30 (.tmp 3) 0, 0, "", #[], some (7, false)⟩, ⟨some 11, .load 27 (.tmp 10), 27, "", #[], some (7, false)⟩, ⟨some 12, .binOp .eql 27 (.tmp 9) (.tmp 11) 27, 4, "", #[], some (7, false)⟩, o 13 (.pick (.tmp 7) (.const (.bool true)) (.tmp 12)) 4, o 4 (.assign (.tmp 13)) 4] false)
 .ret))
def fn83 : AFn := { ntmps := 14, results := [.tmp 4], body := c83, keep := fun | 0 => some [2, 3] | 1 => some [4] | _ => none, head := fun  | _ => none, opn := fun _ => none, dyn := fun _ => [] }
def c85 : Code :=
  (.seq (.region 0 #[o 2 (.box 30 (.tmp 0)) 0, o 4 (.alloc 30) 0, o 5 (.assign (.const (.bool false))) 4] false)
 (.seq (.seq (.region 1 #[m 6 1 3, o 7 (.binOp .lss 3 (.tmp 6) (.const (.int .i64 0)) 3) 4, m 8 7 4, ⟨some 9, .move (.tmp 1), 3, "", #[], some (8, false)⟩, ⟨some 10, .fieldAddr 30 (.tmp 2) 2, 0, "", #[], some (8, false)⟩, ⟨some 11, .load 28 (.tmp 10), 28, "", #[], some (8, false)⟩, ⟨some 12, .call { callee := .builtin .len, args := #[.tmp 11], argTypes := #[28] }, 3, "", #[], some (8, false)⟩, ⟨some 13, .binOp .geq 3 (.tmp 9) (.tmp 12) 3, 4, "", #[], some (8, false)⟩, o 14 (.pick (.tmp 8) (.const (.bool true)) (.tmp 13)) 4] false)
 (.cond (.tmp 14)
 (.seq (.region 2 #[o 15 (.build 30 #[]) 30, ⟨none, .store 30 (.tmp 4) (.tmp 15), 0, "", #[], none⟩, o 5 (.assign (.const (.bool false))) 4] false)
 .ret)
 .skip))
 (.seq (.region 3 #[o 16 (.fieldAddr 30 (.tmp 2) 2) 0, o 17 (.load 28 (.tmp 16)) 28, m 18 1 3, o 19 (.indexAddr 28 (.tmp 17) (.tmp 18)) 0, o 20 (.load 30 (.tmp 19)) 30, ⟨none, .store 30 (.tmp 4) (.tmp 20), 0, "", #[], none⟩, o 5 (.assign (.const (.bool true))) 4] false)
 .ret)))
def fn85 : AFn := { ntmps := 21, results := [.cell 4 30, .tmp 5], body := c85, keep := fun | 0 => some [1, 2, 4] | 1 => some [1, 2, 4, 14] | 2 => some [4, 5] | 3 => some [4, 5] | _ => none, head := fun  | _ => none, opn := fun _ => none, dyn := fun _ => [] }
def c87 : Code :=
  (.seq (.region 0 #[o 2 (.assign (.const (.int .i64 0))) 3] false)
 (.seq (.seq (.region 1 #[m 7 0 28, o 8 (.call { callee := .builtin .len, args := #[.tmp 7], argTypes := #[28] }) 3, o 9 (.move (.const (.int .i64 0))) 3] false)
 (.block 0 (.loop (.seq (.region 2 #[o 10 (.binOp .lss 3 (.tmp 9) (.tmp 8) 3) 0] false)
 (.seq (.cond (.tmp 10)
 .skip
 (.exit 0))
 (.seq (.block 1 (.seq (.region 3 #[o 11 (.indexAddr 28 (.tmp 7) (.tmp 9)) 0, o 12 (.load 30 (.tmp 11)) 30, o 4 (.alloc 30) 0, ⟨none, .store 30 (.tmp 4) (.tmp 12), 0, "", #[], none⟩] false)
 (.seq (.region 4 #[o 14 (.load 30 (.tmp 4)) 30, o 15 (.call { callee := .value (.func 21), args := #[.tmp 14], argTypes := #[30] }) 35, m 13 15 35, o 16 (.extract (.tmp 13) 0) 22, o 17 (.extract (.tmp 13) 1) 34, o 5 (.assign (.tmp 16)) 22, o 6 (.assign (.tmp 17)) 34] false)
 (.region 5 #[m 18 2 3, m 19 5 22, o 20 (.call { callee := .builtin .len, args := #[.tmp 19], argTypes := #[22] }) 3, o 21 (.binOp .add 3 (.tmp 18) (.tmp 20) 3) 3, o 2 (.assign (.tmp 21)) 3] false))))
 (.region 6 #[o 22 (.binOp .add 3 (.tmp 9) (.const (.int .i64 1)) 3) 3, m 9 22 3] false)))))))
 (.seq (.region 7 #[m 23 2 3, o 2 (.assign (.tmp 23)) 3] false)
 .ret)))
def fn87 : AFn := { ntmps := 24, results := [.tmp 2], body := c87, keep := fun | 0 => some [0, 2] | 1 => some [2, 7, 8, 9] | 2 => some [2, 7, 8, 9, 10] | 3 => some [2, 4, 7, 8, 9] | 4 => some [2, 5, 7, 8, 9] | 5 => some [2, 7, 8, 9] | 6 => some [2, 7, 8, 9] | 7 => some [2] | _ => none, head := fun | 2 => some [2, 7, 8, 9] | _ => none, opn := fun _ => none, dyn := fun _ => [] }
def c89 : Code :=
  (.seq (.region 0 #[o 2 (.assign (.const (.int .i64 0))) 3, o 3 (.assign (.const (.int .i64 0))) 3, o 4 (.assign (.const (.int .i64 0))) 3] false)
 (.seq (.seq (.region 1 #[m 8 0 22, o 9 (.call { callee := .builtin .len, args := #[.tmp 8], argTypes := #[22] }) 3, o 10 (.binOp .eql 3 (.tmp 9) (.const (.int .i64 0)) 3) 4] false)
 (.cond (.tmp 10)
 (.seq (.region 2 #[o 2 (.assign (.const (.int .i64 0))) 3, o 3 (.assign (.const (.int .i64 0))) 3, o 4 (.assign (.const (.int .i64 7))) 3] false)
 .ret)
 .skip))
 (.seq (.seq (.region 3 #[m 11 0 22, o 12 (.indexAddr 22 (.tmp 11) (.const (.int .i64 0))) 0, o 13 (.load 5 (.tmp 12)) 5, o 14 (.binOp .lss 5 (.tmp 13) (.const (.int .u8 128)) 5) 4] false)
 (.cond (.tmp 14)
 (.seq (.region 4 #[m 15 0 22, o 16 (.indexAddr 22 (.tmp 15) (.const (.int .i64 0))) 0, o 17 (.load 5 (.tmp 16)) 5, o 18 (.convert 5 3 (.tmp 17)) 3, o 2 (.assign (.tmp 18)) 3, o 3 (.assign (.const (.int .i64 1))) 3, o 4 (.assign (.const (.int .i64 0))) 3] false)
 .ret)
 .skip))
 (.seq (.region 5 #[m 19 0 22, o 20 (.indexAddr 22 (.tmp 19) (.const (.int .i64 0))) 0, o 21 (.load 5 (.tmp 20)) 5, o 22 (.convert 5 3 (.tmp 21)) 3, o 23 (.binOp .sub 3 (.tmp 22) (.const (.int .i64 128)) 3) 3, o 5 (.assign (.tmp 23)) 3] false)
 (.seq (.seq (.region 6 #[m 24 5 3, o 25 (.binOp .lss 3 (.tmp 24) (.const (.int .i64 1)) 3) 4, m 26 25 4, ⟨some 27, .move (.tmp 5), 3, "", #[], some (26, false)⟩, ⟨some 28, .binOp .gtr 3 (.tmp 27) (.const (.int .i64 3)) 3, 4, "", #[], some (26, false)⟩, o 29 (.pick (.tmp 26) (.const (.bool true)) (.tmp 28)) 4] false)
 (.cond (.tmp 29)
 (.seq (.region 7 #[o 2 (.assign (.const (.int .i64 0))) 3, o 3 (.assign (.const (.int .i64 0))) 3, o 4 (.assign (.const (.int .i64 10))) 3] false)
 .ret)
 .skip))
 (.seq (.seq (.region 8 #[m 30 0 22, o 31 (.call { callee := .builtin .len, args := #[.tmp 30], argTypes := #[22] }) 3, m 32 5 3, o 33 (.binOp .add 3 (.tmp 32) (.const (.int .i64 1)) 3) 3, o 34 (.binOp .lss 3 (.tmp 31) (.tmp 33) 3) 4] false)
 (.cond (.tmp 34)
 (.seq (.region 9 #[o 2 (.assign (.const (.int .i64 0))) 3, o 3 (.assign (.const (.int .i64 0))) 3, o 4 (.assign (.const (.int .i64 7))) 3] false)
 .ret)
 .skip))
 (.seq (.region 10 #[o 6 (.assign (.const (.int .i64 0))) 3] false)
 (.seq (.seq (.region 11 #[o 7 (.assign (.const (.int .i64 1))) 3] false)
 (.block 0 (.loop (.seq (.seq (.region 12 #[m 35 7 3, m 36 5 3, o 37 (.binOp .leq 3 (.tmp 35) (.tmp 36) 3) 4] false)
 (.cond (.tmp 37)
 .skip
 (.exit 0)))
 (.seq (.block 1 (.region 14 #[m 40 6 3, o 41 (.binOp .mul 3 (.const (.int .i64 256)) (.tmp 40) 3) 3, m 42 0 22, m 43 7 3, o 44 (.indexAddr 22 (.tmp 42) (.tmp 43)) 0, o 45 (.load 5 (.tmp 44)) 5, o 46 (.convert 5 3 (.tmp 45)) 3, o 47 (.binOp .add 3 (.tmp 41) (.tmp 46) 3) 3, o 6 (.assign (.tmp 47)) 3] false))
 (.region 13 #[m 38 7 3, o 39 (.binOp .add 3 (.tmp 38) (.const (.int .i64 1)) 3) 3, o 7 (.assign (.tmp 39)) 3] false))))))
 (.seq (.seq (.region 15 #[m 48 0 22, o 49 (.indexAddr 22 (.tmp 48) (.const (.int .i64 1))) 0, o 50 (.load 5 (.tmp 49)) 5, o 51 (.binOp .eql 5 (.tmp 50) (.const (.int .u8 0)) 5) 4, m 52 51 4, ⟨some 53, .move (.tmp 6), 3, "", #[], some (52, false)⟩, ⟨some 54, .binOp .lss 3 (.tmp 53) (.const (.int .i64 128)) 3, 4, "", #[], some (52, false)⟩, o 55 (.pick (.tmp 52) (.const (.bool true)) (.tmp 54)) 4] false)
 (.cond (.tmp 55)
 (.seq (.region 16 #[o 2 (.assign (.const (.int .i64 0))) 3, o 3 (.assign (.const (.int .i64 0))) 3, o 4 (.assign (.const (.int .i64 10))) 3] false)
 .ret)
 .skip))
 (.seq (.region 17 #[m 56 6 3, m 57 5 3, o 58 (.binOp .add 3 (.tmp 57) (.const (.int .i64 1)) 3) 3, o 2 (.assign (.tmp 56)) 3, o 3 (.assign (.tmp 58)) 3, o 4 (.assign (.const (.int .i64 0))) 3] false)
 .ret))))))))))
def fn89 : AFn := { ntmps := 59, results := [.tmp 2, .tmp 3, .tmp 4], body := c89, keep := fun | 0 => some [0] | 1 => some [0, 10] | 2 => some [2, 3, 4] | 3 => some [0, 14] | 4 => some [2, 3, 4] | 5 => some [0, 5] | 6 => some [0, 5, 29] | 7 => some [2, 3, 4] | 8 => some [0, 5, 34] | 9 => some [2, 3, 4] | 10 => some [0, 5, 6] | 11 => some [0, 5, 6, 7] | 12 => some [0, 5, 6, 7, 37] | 13 => some [0, 5, 6, 7] | 14 => some [0, 5, 6, 7] | 15 => some [5, 6, 55] | 16 => some [2, 3, 4] | 17 => some [2, 3, 4] | _ => none, head := fun | 12 => some [0, 5, 6, 7] | _ => none, opn := fun _ => none, dyn := fun _ => [] }
def c90 : Code :=
  (.seq (.region 0 #[o 1 (.box 30 (.tmp 0)) 0, o 2 (.assign (.const (.int .i64 0))) 3] false)
 (.seq (.seq (.region 1 #[o 6 (.fieldAddr 30 (.tmp 1) 0) 0, o 7 (.fieldAddr 27 (.tmp 6) 1) 0, o 8 (.load 4 (.tmp 7)) 4, o 9 (.unOp .not 4 (.tmp 8)) 4] false)
 (.cond (.tmp 9)
 (.seq (.region 2 #[o 10 (.fieldAddr 30 (.tmp 1) 1) 0, o 11 (.load 22 (.tmp 10)) 22, o 12 (.call { callee := .builtin .len, args := #[.tmp 11], argTypes := #[22] }) 3, o 2 (.assign (.tmp 12)) 3] false)
 .ret)
 .skip))
 (.seq (.region 3 #[o 3 (.assign (.const (.int .i64 0))) 3] false)
 (.seq (.seq (.region 4 #[o 13 (.fieldAddr 30 (.tmp 1) 2) 0, o 14 (.load 28 (.tmp 13)) 28, o 15 (.call { callee := .builtin .len, args := #[.tmp 14], argTypes := #[28] }) 3, o 16 (.move (.const (.int .i64 0))) 3] false)
 (.block 0 (.loop (.seq (.region 5 #[o 17 (.binOp .lss 3 (.tmp 16) (.tmp 15) 3) 0] false)
 (.seq (.cond (.tmp 17)
 .skip
 (.exit 0))
 (.seq (.block 1 (.seq (.region 6 #[o 18 (.indexAddr 28 (.tmp 14) (.tmp 16)) 0, o 19 (.load 30 (.tmp 18)) 30, o 5 (.alloc 30) 0, ⟨none, .store 30 (.tmp 5) (.tmp 19), 0, "", #[], none⟩] false)
 (.region 7 #[m 20 3 3, o 21 (.load 30 (.tmp 5)) 30, o 22 (.call { callee := .value (.func 69), args := #[.tmp 21], argTypes := #[30] }) 3, o 23 (.binOp .add 3 (.tmp 20) (.tmp 22) 3) 3, o 24 (.call { callee := .builtin .min, args := #[.tmp 23, .const (.int .i64 1048577)], argTypes := #[3, 3] }) 3, o 3 (.assign (.tmp 24)) 3] false)))
 (.region 8 #[o 25 (.binOp .add 3 (.tmp 16) (.const (.int .i64 1)) 3) 3, m 16 25 3] false)))))))
 (.seq (.region 9 #[m 26 3 3, o 2 (.assign (.tmp 26)) 3] false)
 .ret)))))
def fn90 : AFn := { ntmps := 27, results := [.tmp 2], body := c90, keep := fun | 0 => some [1] | 1 => some [1, 9] | 2 => some [2] | 3 => some [1, 3] | 4 => some [3, 14, 15, 16] | 5 => some [3, 14, 15, 16, 17] | 6 => some [3, 5, 14, 15, 16] | 7 => some [3, 14, 15, 16] | 8 => some [3, 14, 15, 16] | 9 => some [2] | _ => none, head := fun | 5 => some [3, 14, 15, 16] | _ => none, opn := fun _ => none, dyn := fun _ => [] }
def c91 : Code :=
  (.seq (.region 0 #[o 4 (.assign (.const (.int .i64 0))) 3] false)
 (.seq (.seq (.region 1 #[m 5 0 3, o 6 (.binOp .lss 3 (.tmp 5) (.const (.int .i64 1)) 3) 4, m 7 6 4, ⟨some 8, .move (.tmp 0), 3, "", #[], some (7, false)⟩, ⟨some 9, .binOp .gtr 3 (.tmp 8) (.const (.int .i64 5)) 3, 4, "", #[], some (7, false)⟩, o 10 (.pick (.tmp 7) (.const (.bool true)) (.tmp 9)) 4, m 11 10 4, ⟨some 12, .move (.tmp 1), 3, "", #[], some (11, false)⟩, ⟨some 13, .call { callee := .value (.func 110), args := #[.tmp 12], argTypes := #[3] }, 3, "", #[], some (11, false)⟩, ⟨some 14, .binOp .eql 3 (.tmp 13) (.const (.int .i64 0)) 3, 4, "", #[], some (11, false)⟩, o 15 (.pick (.tmp 11) (.const (.bool true)) (.tmp 14)) 4] false)
 (.cond (.tmp 15)
 (.seq (.region 2 #[o 4 (.assign (.const (.int .i64 0))) 3] false)
 .ret)
 .skip))
 (.seq (.region 3 #[m 16 0 3, m 17 1 3, o 18 (.call { callee := .value (.func 110), args := #[.tmp 17], argTypes := #[3] }) 3, o 19 (.binOp .add 3 (.tmp 16) (.tmp 18) 3) 3, m 20 1 3, o 21 (.binOp .add 3 (.tmp 19) (.tmp 20) 3) 3, o 4 (.assign (.tmp 21)) 3] false)
 .ret)))
def fn91 : AFn := { ntmps := 22, results := [.tmp 4], body := c91, keep := fun | 0 => some [0, 1] | 1 => some [0, 1, 15] | 2 => some [4] | 3 => some [4] | _ => none, head := fun  | _ => none, opn := fun _ => none, dyn := fun _ => [] }
def c92 : Code :=
  (.seq (.region 0 #[o 1 (.box 27 (.tmp 0)) 0, o 2 (.assign (.const (.int .i64 0))) 3] false)
 (.seq (.region 1 #[o 6 (.load 27 (.tmp 1)) 27, o 7 (.call { callee := .value (.func 93), args := #[.tmp 6], argTypes := #[27] }) 35, m 5 7 35, o 8 (.extract (.tmp 5) 0) 22, o 9 (.extract (.tmp 5) 1) 34, o 3 (.assign (.tmp 8)) 22, o 4 (.assign (.tmp 9)) 34] false)
 (.seq (.region 2 #[m 10 3 22, o 11 (.call { callee := .builtin .len, args := #[.tmp 10], argTypes := #[22] }) 3, o 2 (.assign (.tmp 11)) 3] false)
 .ret)))
def fn92 : AFn := { ntmps := 12, results := [.tmp 2], body := c92, keep := fun | 0 => some [1] | 1 => some [3] | 2 => some [2] | _ => none, head := fun  | _ => none, opn := fun _ => none, dyn := fun _ => [] }
def c93 : Code :=
  (.seq (.region 0 #[o 1 (.box 27 (.tmp 0)) 0, o 2 (.assign (.const (.slice none 0 0))) 22, o 3 (.assign (.const (.int .i64 0))) 34] false)
 (.seq (.seq (.region 1 #[o 8 (.load 27 (.tmp 1)) 27, o 9 (.call { callee := .value (.func 102), args := #[.tmp 8], argTypes := #[27] }) 34, o 4 (.assign (.tmp 9)) 34] false)
 (.seq (.region 2 #[m 10 4 34, o 11 (.binOp .neq 34 (.tmp 10) (.const (.int .i64 0)) 34) 4] false)
 (.cond (.tmp 11)
 (.seq (.region 3 #[m 12 4 34, o 2 (.assign (.const (.slice none 0 0))) 22, o 3 (.assign (.tmp 12)) 34] false)
 .ret)
 .skip)))
 (.seq (.region 4 #[o 13 (.fieldAddr 27 (.tmp 1) 0) 0, o 14 (.load 24 (.tmp 13)) 24, o 15 (.binOp .shl 5 (.tmp 14) (.const (.int .u64 6)) 151) 5, o 5 (.assign (.tmp 15)) 5] false)
 (.seq (.seq (.region 5 #[o 16 (.fieldAddr 27 (.tmp 1) 1) 0, o 17 (.load 4 (.tmp 16)) 4] false)
 (.cond (.tmp 17)
 (.region 6 #[m 18 5 5, o 19 (.binOp .or 5 (.tmp 18) (.const (.int .u8 32)) 5) 5, o 5 (.assign (.tmp 19)) 5] false)
 .skip))
 (.seq (.seq (.region 7 #[o 20 (.fieldAddr 27 (.tmp 1) 2) 0, o 21 (.load 25 (.tmp 20)) 25, o 22 (.binOp .lss 25 (.tmp 21) (.const (.int .u32 31)) 25) 4] false)
 (.cond (.tmp 22)
 (.seq (.region 8 #[m 23 5 5, o 24 (.fieldAddr 27 (.tmp 1) 2) 0, o 25 (.load 25 (.tmp 24)) 25, o 26 (.convert 25 5 (.tmp 25)) 5, o 27 (.binOp .or 5 (.tmp 23) (.tmp 26) 5) 5, o 28 (.buildSlice 22 1 #[(0, .tmp 27)]) 22, o 2 (.assign (.tmp 28)) 22, o 3 (.assign (.const (.int .i64 0))) 34] false)
 .ret)
 .skip))
 (.seq (.region 9 #[m 29 5 5, o 30 (.binOp .or 5 (.tmp 29) (.const (.int .u8 31)) 5) 5, o 31 (.buildSlice 22 1 #[(0, .tmp 30)]) 22, o 6 (.alloc 22) 0, ⟨none, .store 22 (.tmp 6) (.tmp 31), 0, "", #[], none⟩] false)
 (.seq (.seq (.region 10 #[o 32 (.fieldAddr 27 (.tmp 1) 2) 0, o 33 (.load 25 (.tmp 32)) 25, o 34 (.call { callee := .value (.func 111), args := #[.tmp 33], argTypes := #[25] }) 153] false)
 (.block 0 (.refuse "")))
 (.seq (.region 13 #[o 40 (.load 22 (.tmp 6)) 22, o 41 (.call { callee := .value (.func 97), args := #[.tmp 40], argTypes := #[22] }) 22, o 2 (.assign (.tmp 41)) 22, o 3 (.assign (.const (.int .i64 0))) 34] false)
 .ret))))))))
def fn93 : AFn := { ntmps := 42, results := [.tmp 2, .tmp 3], body := c93, keep := fun | 0 => some [1, 35] | 1 => some [1, 4, 35] | 2 => some [1, 4, 11, 35] | 3 => some [2, 3] | 4 => some [1, 5, 35] | 5 => some [1, 5, 17, 35] | 6 => some [1, 5, 35] | 7 => some [1, 5, 22, 35] | 8 => some [2, 3] | 9 => some [1, 6, 35] | 10 => some [6, 34, 35] | 11 => some [6, 7, 35] | 12 => some [6, 35] | 13 => some [2, 3] | _ => none, head := fun  | _ => none, opn := fun _ => none, dyn := fun _ => [] }
def c94 : Code :=
  (.seq (.region 0 #[o 2 (.assign (.const (.slice none 0 0))) 22, o 3 (.assign (.const (.int .i64 0))) 34] false)
 (.seq (.block 0 (.seq (.region 1 #[m 6 0 3, o 7 (.binOp .lss 3 (.tmp 6) (.const (.int .i64 0)) 3) 4, o 5 (.assign (.tmp 7)) 4] false)
 (.cond (.tmp 5)
 (.seq (.region 2 #[o 2 (.assign (.const (.slice none 0 0))) 22, o 3 (.assign (.const (.int .i64 1))) 34] false)
 .ret)
 (.seq (.region 3 #[m 9 0 3, o 10 (.binOp .gtr 3 (.tmp 9) (.const (.int .i64 16777215)) 3) 4, o 8 (.assign (.tmp 10)) 4] false)
 (.cond (.tmp 8)
 (.seq (.region 4 #[o 2 (.assign (.const (.slice none 0 0))) 22, o 3 (.assign (.const (.int .i64 3))) 34] false)
 .ret)
 (.seq (.region 5 #[m 12 0 3, o 13 (.binOp .leq 3 (.tmp 12) (.const (.int .i64 127)) 3) 4, o 11 (.assign (.tmp 13)) 4] false)
 (.cond (.tmp 11)
 (.seq (.region 6 #[m 14 0 3, o 15 (.convert 3 5 (.tmp 14)) 5, o 16 (.buildSlice 22 1 #[(0, .tmp 15)]) 22, o 2 (.assign (.tmp 16)) 22, o 3 (.assign (.const (.int .i64 0))) 34] false)
 .ret)
 .skip)))))))
 (.seq (.region 7 #[o 17 (.buildSlice 22 1 #[(0, .const (.int .u8 0))]) 22, o 4 (.assign (.tmp 17)) 22] false)
 (.seq (.block 1 (.seq (.block 4 (.seq (.block 3 (.seq (.block 2 (.seq (.seq (.seq (.region 8 #[m 19 0 3, o 20 (.binOp .gtr 3 (.tmp 19) (.const (.int .i64 65535)) 3) 4, o 18 (.assign (.tmp 20)) 4] false)
 (.cond (.tmp 18)
 (.exit 2)
 .skip))
 (.seq (.region 9 #[m 22 0 3, o 23 (.binOp .gtr 3 (.tmp 22) (.const (.int .i64 255)) 3) 4, o 21 (.assign (.tmp 23)) 4] false)
 (.cond (.tmp 21)
 (.exit 3)
 .skip)))
 (.exit 4)))
 (.region 10 #[m 24 4 22, m 25 0 3, o 26 (.binOp .shr 3 (.tmp 25) (.const (.int .u64 16)) 151) 3, o 27 (.convert 3 5 (.tmp 26)) 5, o 28 (.buildSlice 22 1 #[(0, .tmp 27)]) 22, o 29 (.call { callee := .builtin .append, args := #[.tmp 24, .tmp 28], argTypes := #[22, 22] }) 22, o 4 (.assign (.tmp 29)) 22] false)))
 (.region 11 #[m 30 4 22, m 31 0 3, o 32 (.binOp .shr 3 (.tmp 31) (.const (.int .u64 8)) 151) 3, o 33 (.convert 3 5 (.tmp 32)) 5, o 34 (.buildSlice 22 1 #[(0, .tmp 33)]) 22, o 35 (.call { callee := .builtin .append, args := #[.tmp 30, .tmp 34], argTypes := #[22, 22] }) 22, o 4 (.assign (.tmp 35)) 22] false)))
 (.seq (.region 12 #[m 36 4 22, m 37 0 3, o 38 (.convert 3 5 (.tmp 37)) 5, o 39 (.buildSlice 22 1 #[(0, .tmp 38)]) 22, o 40 (.call { callee := .builtin .append, args := #[.tmp 36, .tmp 39], argTypes := #[22, 22] }) 22, o 4 (.assign (.tmp 40)) 22] false)
 (.exit 1))))
 (.seq (.region 13 #[m 41 4 22, m 42 4 22, o 43 (.call { callee := .builtin .len, args := #[.tmp 42], argTypes := #[22] }) 3, o 44 (.binOp .sub 3 (.tmp 43) (.const (.int .i64 1)) 3) 3, o 45 (.convert 3 5 (.tmp 44)) 5, o 46 (.binOp .add 5 (.const (.int .u8 128)) (.tmp 45) 5) 5, o 47 (.indexAddr 22 (.tmp 41) (.const (.int .i64 0))) 0, ⟨none, .store 5 (.tmp 47) (.tmp 46), 0, "", #[], none⟩] false)
 (.seq (.region 14 #[m 48 4 22, o 49 (.call { callee := .value (.func 97), args := #[.tmp 48], argTypes := #[22] }) 22, o 2 (.assign (.tmp 49)) 22, o 3 (.assign (.const (.int .i64 0))) 34] false)
 .ret))))))
def fn94 : AFn := { ntmps := 50, results := [.tmp 2, .tmp 3], body := c94, keep := fun | 0 => some [0] | 1 => some [0, 5] | 2 => some [2, 3] | 3 => some [0, 8] | 4 => some [2, 3] | 5 => some [0, 11] | 6 => some [2, 3] | 7 => some [0, 4] | 8 => some [0, 4, 18] | 9 => some [0, 4, 21] | 10 => some [0, 4] | 11 => some [0, 4] | 12 => some [4] | 13 => some [4] | 14 => some [2, 3] | _ => none, head := fun  | _ => none, opn := fun _ => none, dyn := fun _ => [] }
def c96 : Code :=
  (.seq (.region 0 #[o 2 (.assign (.const (.int .i64 0))) 3, o 3 (.assign (.const (.int .i64 0))) 3, o 4 (.assign (.const (.int .i64 0))) 34] false)
 (.seq (.seq (.region 1 #[m 7 0 22, o 8 (.call { callee := .builtin .len, args := #[.tmp 7], argTypes := #[22] }) 3, o 9 (.binOp .eql 3 (.tmp 8) (.const (.int .i64 0)) 3) 4] false)
 (.cond (.tmp 9)
 (.seq (.region 2 #[o 2 (.assign (.const (.int .i64 0))) 3, o 3 (.assign (.const (.int .i64 0))) 3, o 4 (.assign (.const (.int .i64 7))) 34] false)
 .ret)
 .skip))
 (.seq (.seq (.region 3 #[m 10 0 22, o 11 (.indexAddr 22 (.tmp 10) (.const (.int .i64 0))) 0, o 12 (.load 5 (.tmp 11)) 5, o 13 (.binOp .leq 5 (.tmp 12) (.const (.int .u8 127)) 5) 4] false)
 (.cond (.tmp 13)
 (.seq (.region 4 #[m 14 0 22, o 15 (.indexAddr 22 (.tmp 14) (.const (.int .i64 0))) 0, o 16 (.load 5 (.tmp 15)) 5, o 17 (.convert 5 3 (.tmp 16)) 3, o 2 (.assign (.tmp 17)) 3, o 3 (.assign (.const (.int .i64 1))) 3, o 4 (.assign (.const (.int .i64 0))) 34] false)
 .ret)
 .skip))
 (.seq (.region 5 #[o 5 (.alloc 158) 0] false)
 (.seq (.region 6 #[m 18 0 22, o 19 (.indexAddr 22 (.tmp 18) (.const (.int .i64 0))) 0, o 20 (.load 5 (.tmp 19)) 5, o 21 (.convert 5 3 (.tmp 20)) 3, o 22 (.binOp .sub 3 (.tmp 21) (.const (.int .i64 128)) 3) 3, o 6 (.assign (.tmp 22)) 3] false)
 (.seq (.block 0 (.seq (.region 7 #[m 24 6 3, o 25 (.binOp .eql 3 (.tmp 24) (.const (.int .i64 0)) 3) 4, m 26 25 4, ⟨some 27, .move (.tmp 6), 3, "", #[], some (26, false)⟩, ⟨some 28, .binOp .gtr 3 (.tmp 27) (.const (.int .i64 3)) 3, 4, "", #[], some (26, false)⟩, o 29 (.pick (.tmp 26) (.const (.bool true)) (.tmp 28)) 4, o 23 (.assign (.tmp 29)) 4] false)
 (.cond (.tmp 23)
 (.seq (.region 8 #[o 2 (.assign (.const (.int .i64 0))) 3, o 3 (.assign (.const (.int .i64 0))) 3, o 4 (.assign (.const (.int .i64 10))) 34] false)
 .ret)
 (.seq (.region 9 #[m 31 0 22, o 32 (.call { callee := .builtin .len, args := #[.tmp 31], argTypes := #[22] }) 3, m 33 6 3, o 34 (.binOp .leq 3 (.tmp 32) (.tmp 33) 3) 4, o 30 (.assign (.tmp 34)) 4] false)
 (.cond (.tmp 30)
 (.seq (.region 10 #[o 2 (.assign (.const (.int .i64 0))) 3, o 3 (.assign (.const (.int .i64 0))) 3, o 4 (.assign (.const (.int .i64 7))) 34] false)
 .ret)
 .skip)))))
 (.seq (.region 11 #[m 35 6 3, o 36 (.binOp .sub 3 (.const (.int .i64 3)) (.tmp 35) 3) 3, o 37 (.slice 158 (.tmp 5) (some (.tmp 36)) none none) 22, m 38 0 22, o 39 (.slice 22 (.tmp 38) (some (.const (.int .i64 1))) none none) 22, o 40 (.call { callee := .builtin .copy, args := #[.tmp 37, .tmp 39], argTypes := #[22, 22] }) 3] true)
 (.seq (.region 12 #[o 41 (.indexAddr 158 (.tmp 5) (.const (.int .i64 0))) 0, o 42 (.load 5 (.tmp 41)) 5, o 43 (.convert 5 3 (.tmp 42)) 3, o 44 (.binOp .shl 3 (.tmp 43) (.const (.int .u64 16)) 151) 3, o 45 (.indexAddr 158 (.tmp 5) (.const (.int .i64 1))) 0, o 46 (.load 5 (.tmp 45)) 5, o 47 (.convert 5 3 (.tmp 46)) 3, o 48 (.binOp .shl 3 (.tmp 47) (.const (.int .u64 8)) 151) 3, o 49 (.binOp .or 3 (.tmp 44) (.tmp 48) 3) 3, o 50 (.indexAddr 158 (.tmp 5) (.const (.int .i64 2))) 0, o 51 (.load 5 (.tmp 50)) 5, o 52 (.convert 5 3 (.tmp 51)) 3, o 53 (.binOp .or 3 (.tmp 49) (.tmp 52) 3) 3, o 2 (.assign (.tmp 53)) 3] false)
 (.seq (.seq (.region 13 #[m 54 0 22, o 55 (.indexAddr 22 (.tmp 54) (.const (.int .i64 1))) 0, o 56 (.load 5 (.tmp 55)) 5, o 57 (.binOp .eql 5 (.tmp 56) (.const (.int .u8 0)) 5) 4, m 58 57 4, ⟨some 59, .move (.tmp 2), 3, "", #[], some (58, false)⟩, ⟨some 60, .binOp .leq 3 (.tmp 59) (.const (.int .i64 127)) 3, 4, "", #[], some (58, false)⟩, o 61 (.pick (.tmp 58) (.const (.bool true)) (.tmp 60)) 4] false)
 (.cond (.tmp 61)
 (.seq (.region 14 #[o 2 (.assign (.const (.int .i64 0))) 3, o 3 (.assign (.const (.int .i64 0))) 3, o 4 (.assign (.const (.int .i64 10))) 34] false)
 .ret)
 .skip))
 (.seq (.region 15 #[m 62 2 3, m 63 6 3, o 64 (.binOp .add 3 (.tmp 63) (.const (.int .i64 1)) 3) 3, o 2 (.assign (.tmp 62)) 3, o 3 (.assign (.tmp 64)) 3, o 4 (.assign (.const (.int .i64 0))) 34] false)
 .ret))))))))))
def fn96 : AFn := { ntmps := 65, results := [.tmp 2, .tmp 3, .tmp 4], body := c96, keep := fun | 0 => some [0] | 1 => some [0, 9] | 2 => some [2, 3, 4] | 3 => some [0, 13] | 4 => some [2, 3, 4] | 5 => some [0, 5] | 6 => some [0, 5, 6] | 7 => some [0, 5, 6, 23] | 8 => some [2, 3, 4] | 9 => some [0, 5, 6, 30] | 10 => some [2, 3, 4] | 11 => some [0, 5, 6] | 12 => some [0, 2, 6] | 13 => some [2, 6, 61] | 14 => some [2, 3, 4] | 15 => some [2, 3, 4] | _ => none, head := fun  | _ => none, opn := fun _ => none, dyn := fun _ => [] }
def c97 : Code :=
  (.seq (.region 0 #[o 2 (.assign (.const (.slice none 0 0))) 22] false)
 (.seq (.region 1 #[m 3 0 22, m 4 0 22, o 5 (.call { callee := .builtin .len, args := #[.tmp 4], argTypes := #[22] }) 3, m 6 0 22, o 7 (.call { callee := .builtin .len, args := #[.tmp 6], argTypes := #[22] }) 3, o 8 (.slice 22 (.tmp 3) none (some (.tmp 5)) (some (.tmp 7))) 22, o 2 (.assign (.tmp 8)) 22] false)
 .ret))
def fn97 : AFn := { ntmps := 9, results := [.tmp 2], body := c97, keep := fun | 0 => some [0] | 1 => some [2] | _ => none, head := fun  | _ => none, opn := fun _ => none, dyn := fun _ => [] }
def c98 : Code :=
  (.seq (.region 0 #[o 2 (.assign (.const (.slice none 0 0))) 22] false)
 (.seq (.seq (.region 1 #[m 3 0 22, o 4 (.binOp .eql 22 (.tmp 3) (.const (.slice none 0 0)) 22) 4] false)
 (.cond (.tmp 4)
 (.seq (.region 2 #[o 2 (.assign (.const (.slice none 0 0))) 22] false)
 .ret)
 .skip))
 (.seq (.region 3 #[o 5 (.buildSlice 22 0 #[]) 22, m 6 0 22, o 7 (.call { callee := .builtin .append, args := #[.tmp 5, .tmp 6], argTypes := #[22, 22] }) 22, o 2 (.assign (.tmp 7)) 22] false)
 .ret)))
def fn98 : AFn := { ntmps := 8, results := [.tmp 2], body := c98, keep := fun | 0 => some [0] | 1 => some [0, 4] | 2 => some [2] | 3 => some [2] | _ => none, head := fun  | _ => none, opn := fun _ => none, dyn := fun _ => [] }
def c100 : Code :=
  (.seq (.region 0 #[o 2 (.box 30 (.tmp 0)) 0, o 3 (.box 145 (.tmp 1)) 0, o 4 (.assign (.const (.int .i64 0))) 34] false)
 (.seq (.region 1 #[o 5 (.alloc 145) 0] false)
 (.seq (.region 2 #[o 6 (.makeFunc (.func 113) #[] #[.tmp 3, .tmp 5]) 145, ⟨none, .store 145 (.tmp 5) (.tmp 6), 0, "", #[], none⟩] false)
 (.seq (.region 3 #[o 7 (.load 145 (.tmp 5)) 145, o 8 (.load 30 (.tmp 2)) 30, o 9 (.call { callee := .value (.tmp 7), args := #[.tmp 8, .const (.int .i64 1)], argTypes := #[30, 3] }) 34, o 4 (.assign (.tmp 9)) 34] false)
 .ret))))
def fn100 : AFn := { ntmps := 10, results := [.tmp 4], body := c100, keep := fun | 0 => some [2, 3] | 1 => some [2, 3, 5] | 2 => some [2, 5] | 3 => some [4] | _ => none, head := fun  | _ => none, opn := opnT, dyn := fun _ => [] }
def c101 : Code :=
  (.seq (.region 0 #[o 4 (.box 30 (.tmp 0)) 0, o 6 (.assign (.const (.int .i64 0))) 34] false)
 (.seq (.seq (.region 1 #[o 8 (.fieldAddr 30 (.tmp 4) 0) 0, o 9 (.load 27 (.tmp 8)) 27, o 10 (.call { callee := .value (.func 102), args := #[.tmp 9], argTypes := #[27] }) 34, o 7 (.assign (.tmp 10)) 34] false)
 (.seq (.region 2 #[m 11 7 34, o 12 (.binOp .neq 34 (.tmp 11) (.const (.int .i64 0)) 34) 4] false)
 (.cond (.tmp 12)
 (.seq (.region 3 #[m 13 7 34, o 6 (.assign (.tmp 13)) 34] false)
 .ret)
 .skip)))
 (.seq (.block 0 (.seq (.region 4 #[o 15 (.fieldAddr 30 (.tmp 4) 0) 0, o 16 (.fieldAddr 27 (.tmp 15) 1) 0, o 17 (.load 4 (.tmp 16)) 4, m 18 17 4, ⟨some 19, .fieldAddr 30 (.tmp 4) 1, 0, "", #[], some (18, true)⟩, ⟨some 20, .load 22 (.tmp 19), 22, "", #[], some (18, true)⟩, ⟨some 21, .call { callee := .builtin .len, args := #[.tmp 20], argTypes := #[22] }, 3, "", #[], some (18, true)⟩, ⟨some 22, .binOp .gtr 3 (.tmp 21) (.const (.int .i64 0)) 3, 4, "", #[], some (18, true)⟩, o 23 (.pick (.tmp 18) (.tmp 22) (.const (.bool false))) 4, m 24 23 4, ⟨some 25, .fieldAddr 30 (.tmp 4) 0, 0, "", #[], some (24, false)⟩, ⟨some 26, .fieldAddr 27 (.tmp 25) 1, 0, "", #[], some (24, false)⟩, ⟨some 27, .load 4 (.tmp 26), 4, "", #[], some (24, false)⟩, ⟨some 28, .unOp .not 4 (.tmp 27), 4, "", #[], some (24, false)⟩, ⟨some 29, .move (.tmp 28), 4, "", #[], some (24, false)⟩, ⟨some 30, .fieldAddr 30 (.tmp 4) 2, 0, "", #[], some (29, true)⟩, ⟨some 31, .load 28 (.tmp 30), 28, "", #[], some (29, true)⟩, ⟨some 32, .call { callee := .builtin .len, args := #[.tmp 31], argTypes := #[28] }, 3, "", #[], some (29, true)⟩, ⟨some 33, .binOp .gtr 3 (.tmp 32) (.const (.int .i64 0)) 3, 4, "", #[], some (29, true)⟩, ⟨some 34, .pick (.tmp 29) (.tmp 33) (.const (.bool false)), 4, "", #[], some (24, false)⟩, o 35 (.pick (.tmp 24) (.const (.bool true)) (.tmp 34)) 4, o 14 (.assign (.tmp 35)) 4] false)
 (.cond (.tmp 14)
 (.seq (.region 5 #[o 6 (.assign (.const (.int .i64 1))) 34] false)
 .ret)
 (.seq (.region 6 #[m 37 1 3, o 38 (.binOp .gtr 3 (.tmp 37) (.const (.int .i64 16)) 3) 4, o 36 (.assign (.tmp 38)) 4] false)
 (.cond (.tmp 36)
 (.seq (.region 7 #[o 6 (.assign (.const (.int .i64 12))) 34] false)
 .ret)
 (.seq (.region 8 #[o 40 (.load 3 (.tmp 2)) 3, o 41 (.binOp .eql 3 (.tmp 40) (.const (.int .i64 8192)) 3) 4, o 39 (.assign (.tmp 41)) 4] false)
 (.cond (.tmp 39)
 (.seq (.region 9 #[o 6 (.assign (.const (.int .i64 3))) 34] false)
 .ret)
 .skip)))))))
 (.seq (.region 10 #[o 42 (.load 3 (.tmp 2)) 3, o 43 (.binOp .add 3 (.tmp 42) (.const (.int .i64 1)) 3) 3, ⟨none, .store 3 (.tmp 2) (.tmp 43), 0, "", #[], none⟩] false)
 (.seq (.region 11 #[o 44 (.load 3 (.tmp 3)) 3, m 45 1 3, o 46 (.call { callee := .builtin .max, args := #[.tmp 44, .tmp 45], argTypes := #[3, 3] }) 3, ⟨none, .store 3 (.tmp 3) (.tmp 46), 0, "", #[], none⟩] false)
 (.seq (.region 12 #[o 6 (.assign (.const (.int .i64 0))) 34] false)
 .ret))))))
def fn101 : AFn := { ntmps := 47, results := [.tmp 6], body := c101, keep := fun | 0 => some [1, 2, 3, 4] | 1 => some [1, 2, 3, 4, 7] | 2 => some [1, 2, 3, 4, 7, 12] | 3 => some [6] | 4 => some [1, 2, 3, 14] | 5 => some [6] | 6 => some [1, 2, 3, 36] | 7 => some [6] | 8 => some [1, 2, 3, 39] | 9 => some [6] | 10 => some [1, 3] | 11 => some [] | 12 => some [6] | _ => none, head := fun  | _ => none, opn := fun _ => none, dyn := fun _ => [] }
def c102 : Code :=
  (.seq (.region 0 #[o 1 (.box 27 (.tmp 0)) 0, o 2 (.assign (.const (.int .i64 0))) 34] false)
 (.seq (.seq (.region 1 #[o 3 (.fieldAddr 27 (.tmp 1) 0) 0, o 4 (.load 24 (.tmp 3)) 24, o 5 (.binOp .gtr 24 (.tmp 4) (.const (.int .u8 3)) 24) 4, m 6 5 4, ⟨some 7, .fieldAddr 27 (.tmp 1) 2, 0, "", #[], some (6, false)⟩, ⟨some 8, .load 25 (.tmp 7), 25, "", #[], some (6, false)⟩, ⟨some 9, .binOp .gtr 25 (.tmp 8) (.const (.int .u32 268435455)) 25, 4, "", #[], some (6, false)⟩, o 10 (.pick (.tmp 6) (.const (.bool true)) (.tmp 9)) 4] false)
 (.cond (.tmp 10)
 (.seq (.region 2 #[o 2 (.assign (.const (.int .i64 1))) 34] false)
 .ret)
 .skip))
 (.seq (.seq (.region 3 #[o 11 (.fieldAddr 27 (.tmp 1) 0) 0, o 12 (.load 24 (.tmp 11)) 24, o 13 (.binOp .neq 24 (.tmp 12) (.const (.int .u8 0)) 24) 4] false)
 (.cond (.tmp 13)
 (.seq (.region 4 #[o 2 (.assign (.const (.int .i64 0))) 34] false)
 .ret)
 .skip))
 (.seq (.seq (.region 5 #[o 14 (.fieldAddr 27 (.tmp 1) 2) 0, o 15 (.load 25 (.tmp 14)) 25] false)
 (.block 0 (.seq (.region 6 #[o 17 (.binOp .eql 25 (.tmp 15) (.const (.int .u32 0)) 25) 4, o 16 (.assign (.tmp 17)) 4] false)
 (.cond (.tmp 16)
 (.seq (.region 7 #[o 2 (.assign (.const (.int .i64 9))) 34] false)
 .ret)
 (.seq (.seq (.region 8 #[o 19 (.binOp .eql 25 (.tmp 15) (.const (.int .u32 16)) 25) 4, o 18 (.assign (.tmp 19)) 4] false)
 (.cond (.tmp 18)
 .skip
 (.region 9 #[o 20 (.binOp .eql 25 (.tmp 15) (.const (.int .u32 17)) 25) 4, o 18 (.assign (.tmp 20)) 4] false)))
 (.cond (.tmp 18)
 (.seq (.region 10 #[o 21 (.fieldAddr 27 (.tmp 1) 1) 0, o 22 (.load 4 (.tmp 21)) 4, o 23 (.unOp .not 4 (.tmp 22)) 4] false)
 (.cond (.tmp 23)
 (.seq (.region 11 #[o 2 (.assign (.const (.int .i64 9))) 34] false)
 .ret)
 .skip))
 .skip))))))
 (.seq (.region 12 #[o 2 (.assign (.const (.int .i64 0))) 34] false)
 .ret)))))
def fn102 : AFn := { ntmps := 24, results := [.tmp 2], body := c102, keep := fun | 0 => some [1] | 1 => some [1, 10] | 2 => some [2] | 3 => some [1, 13] | 4 => some [2] | 5 => some [1, 15] | 6 => some [1, 15, 16] | 7 => some [2] | 8 => some [1, 15, 18] | 9 => some [1, 18] | 10 => some [23] | 11 => some [2] | 12 => some [2] | _ => none, head := fun  | _ => none, opn := fun _ => none, dyn := fun _ => [] }
def c107 : Code :=
  (.seq (.region 0 #[o 2 (.assign (.const (.slice none 0 0))) 47] false)
 (.seq (.region 1 #[m 3 0 47, m 4 0 47, o 5 (.call { callee := .builtin .len, args := #[.tmp 4], argTypes := #[47] }) 3, m 6 0 47, o 7 (.call { callee := .builtin .len, args := #[.tmp 6], argTypes := #[47] }) 3, o 8 (.slice 47 (.tmp 3) none (some (.tmp 5)) (some (.tmp 7))) 47, o 2 (.assign (.tmp 8)) 47] false)
 .ret))
def fn107 : AFn := { ntmps := 9, results := [.tmp 2], body := c107, keep := fun | 0 => some [0] | 1 => some [2] | _ => none, head := fun  | _ => none, opn := fun _ => none, dyn := fun _ => [] }
def c110 : Code :=
  (.seq (.region 0 #[o 2 (.assign (.const (.int .i64 0))) 3] false)
 (.seq (.region 1 #[m 6 0 3, o 7 (.call { callee := .value (.func 94), args := #[.tmp 6], argTypes := #[3] }) 35, m 5 7 35, o 8 (.extract (.tmp 5) 0) 22, o 9 (.extract (.tmp 5) 1) 34, o 3 (.assign (.tmp 8)) 22, o 4 (.assign (.tmp 9)) 34] false)
 (.seq (.region 2 #[m 10 3 22, o 11 (.call { callee := .builtin .len, args := #[.tmp 10], argTypes := #[22] }) 3, o 2 (.assign (.tmp 11)) 3] false)
 .ret)))
def fn110 : AFn := { ntmps := 12, results := [.tmp 2], body := c110, keep := fun | 0 => some [0] | 1 => some [3] | 2 => some [2] | _ => none, head := fun  | _ => none, opn := fun _ => none, dyn := fun _ => [] }
def c111 : Code :=
  (.seq (.region 0 #[o 1 (.box 25 (.tmp 0)) 0, o 2 (.assign (.const .nilFunc)) 153] false)
 (.seq (.region 1 #[o 3 (.makeFunc (.func 114) #[] #[.tmp 1]) 152, o 2 (.assign (.tmp 3)) 153] false)
 .ret))
def fn111 : AFn := { ntmps := 4, results := [.tmp 2], body := c111, keep := fun | 0 => some [1] | 1 => some [2] | _ => none, head := fun  | _ => none, opn := fun _ => none, dyn := fun _ => [] }
def c113 : Code :=
  (.seq (.region 0 #[o 4 (.box 30 (.tmp 0)) 0, o 6 (.assign (.const (.int .i64 0))) 34] false)
 (.seq (.seq (.region 1 #[o 11 (.load 145 (.tmp 2)) 145, o 12 (.load 30 (.tmp 4)) 30, m 13 1 3, o 14 (.call { callee := .value (.tmp 11), args := #[.tmp 12, .tmp 13], argTypes := #[30, 3] }) 34, o 7 (.assign (.tmp 14)) 34] false)
 (.seq (.region 2 #[m 15 7 34, o 16 (.binOp .neq 34 (.tmp 15) (.const (.int .i64 0)) 34) 4] false)
 (.cond (.tmp 16)
 (.seq (.region 3 #[m 17 7 34, o 6 (.assign (.tmp 17)) 34] false)
 .ret)
 .skip)))
 (.seq (.seq (.region 4 #[o 18 (.fieldAddr 30 (.tmp 4) 2) 0, o 19 (.load 28 (.tmp 18)) 28, o 20 (.call { callee := .builtin .len, args := #[.tmp 19], argTypes := #[28] }) 3, o 21 (.move (.const (.int .i64 0))) 3] false)
 (.block 0 (.loop (.seq (.region 5 #[o 22 (.binOp .lss 3 (.tmp 21) (.tmp 20) 3) 0] false)
 (.seq (.cond (.tmp 22)
 .skip
 (.exit 0))
 (.seq (.block 1 (.seq (.region 6 #[o 23 (.indexAddr 28 (.tmp 19) (.tmp 21)) 0, o 24 (.load 30 (.tmp 23)) 30, o 9 (.alloc 30) 0, ⟨none, .store 30 (.tmp 9) (.tmp 24), 0, "", #[], none⟩] false)
 (.seq (.region 7 #[o 25 (.load 145 (.tmp 3)) 145, o 26 (.load 30 (.tmp 9)) 30, m 27 1 3, o 28 (.binOp .add 3 (.tmp 27) (.const (.int .i64 1)) 3) 3, o 29 (.call { callee := .value (.tmp 25), args := #[.tmp 26, .tmp 28], argTypes := #[30, 3] }) 34, o 10 (.assign (.tmp 29)) 34] false)
 (.seq (.region 8 #[m 30 10 34, o 31 (.binOp .neq 34 (.tmp 30) (.const (.int .i64 0)) 34) 4] false)
 (.cond (.tmp 31)
 (.seq (.region 9 #[m 32 10 34, o 6 (.assign (.tmp 32)) 34] false)
 .ret)
 .skip)))))
 (.region 10 #[o 33 (.binOp .add 3 (.tmp 21) (.const (.int .i64 1)) 3) 3, m 21 33 3] false)))))))
 (.seq (.region 11 #[o 6 (.assign (.const (.int .i64 0))) 34] false)
 .ret))))
def fn113 : AFn := { ntmps := 34, results := [.tmp 6], body := c113, keep := fun | 0 => some [1, 2, 3, 4] | 1 => some [1, 3, 4, 7] | 2 => some [1, 3, 4, 7, 16] | 3 => some [6] | 4 => some [1, 3, 19, 20, 21] | 5 => some [1, 3, 19, 20, 21, 22] | 6 => some [1, 3, 9, 19, 20, 21] | 7 => some [1, 3, 10, 19, 20, 21] | 8 => some [1, 3, 10, 19, 20, 21, 31] | 9 => some [6] | 10 => some [1, 3, 19, 20, 21] | 11 => some [6] | _ => none, head := fun | 5 => some [1, 3, 19, 20, 21] | _ => none, opn := opnT, dyn := fun _ => [] }
def c114 : Code :=
  (.seq (.region 0 #[o 3 (.assign (.const (.int .i64 0))) 3] false)
 (.seq (.block 0 (.loop (.seq (.seq (.region 1 #[o 5 (.load 25 (.tmp 1)) 25, m 6 3 3, o 7 (.binOp .add 3 (.tmp 6) (.const (.int .i64 7)) 3) 3, o 8 (.binOp .shr 25 (.tmp 5) (.tmp 7) 3) 25, o 9 (.binOp .gtr 25 (.tmp 8) (.const (.int .u32 0)) 25) 4] false)
 (.cond (.tmp 9)
 .skip
 (.exit 0)))
 (.block 1 (.region 2 #[m 10 3 3, o 11 (.binOp .add 3 (.tmp 10) (.const (.int .i64 7)) 3) 3, o 3 (.assign (.tmp 11)) 3] false)))))
 (.block 2 (.loop (.seq (.seq (.region 3 #[m 12 3 3, o 13 (.binOp .geq 3 (.tmp 12) (.const (.int .i64 0)) 3) 4] false)
 (.cond (.tmp 13)
 .skip
 (.exit 2)))
 (.seq (.block 3 (.seq (.region 5 #[o 16 (.load 25 (.tmp 1)) 25, m 17 3 3, o 18 (.binOp .shr 25 (.tmp 16) (.tmp 17) 3) 25, o 19 (.convert 25 5 (.tmp 18)) 5, o 20 (.binOp .and 5 (.tmp 19) (.const (.int .u8 127)) 5) 5, o 4 (.assign (.tmp 20)) 5] false)
 (.seq (.seq (.region 6 #[m 21 3 3, o 22 (.binOp .gtr 3 (.tmp 21) (.const (.int .i64 0)) 3) 4] false)
 (.cond (.tmp 22)
 (.region 7 #[m 23 4 5, o 24 (.binOp .or 5 (.tmp 23) (.const (.int .u8 128)) 5) 5, o 4 (.assign (.tmp 24)) 5] false)
 .skip))
 (.seq (.region 8 #[m 25 0 159, m 26 4 5, o 27 (.call { callee := .value (.tmp 25), args := #[.tmp 26], argTypes := #[5] }) 4, o 28 (.unOp .not 4 (.tmp 27)) 4] false)
 (.cond (.tmp 28)
 .ret
 .skip)))))
 (.region 4 #[m 14 3 3, o 15 (.binOp .sub 3 (.tmp 14) (.const (.int .i64 7)) 3) 3, o 3 (.assign (.tmp 15)) 3] false)))))))
def fn114 : AFn := { ntmps := 29, results := [], body := c114, keep := fun | 0 => some [0, 1, 3] | 1 => some [0, 1, 3, 9] | 2 => some [0, 1, 3] | 3 => some [0, 1, 3, 13] | 4 => some [0, 1, 3] | 5 => some [0, 1, 3, 4] | 6 => some [0, 1, 3, 4, 22] | 7 => some [0, 1, 3, 4] | 8 => some [0, 1, 3, 28] | _ => none, head := fun | 1 => some [0, 1, 3] | 3 => some [0, 1, 3] | _ => none, opn := opnT, dyn := fun _ => [] }
def fnTab : List (Option AFn) := [none, none, none, none, none, none, none, none, none, none, some fn10, some fn11, none, some fn13, some fn14, none, none, none, none, none, none, some fn21, none, none, none, some fn25, none, none, none, none, none, none, some fn32, none, none, none, none, some fn37, none, none, none, none, some fn42, some fn43, some fn44, some fn45, some fn46, some fn47, some fn48, some fn49, some fn50, some fn51, none, some fn53, some fn54, some fn55, some fn56, some fn57, some fn58, some fn59, none, none, none, some fn63, none, none, none, some fn67, none, some fn69, some fn70, some fn71, none, none, some fn74, some fn75, none, some fn77, none, some fn79, some fn80, some fn81, some fn82, some fn83, none, some fn85, none, some fn87, none, some fn89, some fn90, some fn91, some fn92, some fn93, some fn94, none, some fn96, some fn97, some fn98, none, some fn100, some fn101, some fn102, none, none, none, none, some fn107, none, none, some fn110, some fn111, none, some fn113, some fn114]
def grdT : FuncId → Option Grd
  | _ => none

def tyTab : List (Option TyI) := [
  none,
  some ⟨.func, 1, 8, [.nilf], false⟩,
  some ⟨.int .i64, 1, 8, [.int .i64 0], false⟩,
  some ⟨.int .i64, 1, 8, [.int .i64 0], false⟩,
  some ⟨.bool, 1, 1, [.bool false], false⟩,
  some ⟨.int .u8, 1, 1, [.int .u8 0], false⟩,
  some ⟨.int .u8, 1, 1, [.int .u8 0], false⟩,
  some ⟨.strct [(0, 2), (1, 3), (2, 4), (3, 6)], 4, 24, [.int .i64 0, .int .i64 0, .bool false, .int .u8 0], false⟩,
  some ⟨.strct [(0, 2), (1, 3), (2, 4), (3, 6)], 4, 24, [.int .i64 0, .int .i64 0, .bool false, .int .u8 0], false⟩,
  some ⟨.str, 1, 16, [.str []], false⟩,
  some ⟨.str, 1, 16, [.str []], false⟩,
  some ⟨.str, 1, 16, [.str []], false⟩,
  some ⟨.int .u64, 1, 8, [.int .u64 0], false⟩,
  some ⟨.strct [(0, 9), (1, 12)], 2, 24, [.str [], .int .u64 0], false⟩,
  some ⟨.strct [(0, 9), (1, 12)], 2, 24, [.str [], .int .u64 0], false⟩,
  some ⟨.ptr 162, 1, 8, [.nilp], false⟩,
  some ⟨.ptr 165, 1, 8, [.nilp], false⟩,
  some ⟨.ptr 174, 1, 8, [.nilp], false⟩,
  some ⟨.strct [(0, 17)], 1, 8, [.nilp], false⟩,
  some ⟨.strct [(0, 17)], 1, 8, [.nilp], false⟩,
  some ⟨.iface true, 1, 16, [.nili], false⟩,
  some ⟨.int .i32, 1, 4, [.int .i32 0], false⟩,
  some ⟨.slice 5, 1, 24, [.sl true [] (some 0)], false⟩,
  some ⟨.func, 1, 8, [.nilf], false⟩,
  some ⟨.int .u8, 1, 1, [.int .u8 0], false⟩,
  some ⟨.int .u32, 1, 4, [.int .u32 0], false⟩,
  some ⟨.strct [(0, 24), (1, 4), (2, 25)], 3, 8, [.int .u8 0, .bool false, .int .u32 0], false⟩,
  some ⟨.strct [(0, 24), (1, 4), (2, 25)], 3, 8, [.int .u8 0, .bool false, .int .u32 0], true⟩,
  some ⟨.slice 30, 1, 24, [.sl true [] (some 0)], false⟩,
  some ⟨.strct [(0, 27), (3, 22), (4, 28)], 5, 56, [.int .u8 0, .bool false, .int .u32 0, .sl true [] (some 0), .sl true [] (some 0)], false⟩,
  some ⟨.strct [(0, 27), (3, 22), (4, 28)], 5, 56, [.int .u8 0, .bool false, .int .u32 0, .sl true [] (some 0), .sl true [] (some 0)], false⟩,
  none,
  some ⟨.func, 1, 8, [.nilf], false⟩,
  some ⟨.func, 1, 8, [.nilf], false⟩,
  some ⟨.int .i64, 1, 8, [.int .i64 0], false⟩,
  none,
  some ⟨.func, 1, 8, [.nilf], false⟩,
  some ⟨.func, 1, 8, [.nilf], false⟩,
  some ⟨.slice 107, 1, 24, [.sl true [] (some 0)], false⟩,
  some ⟨.strct [(0, 38)], 1, 24, [.sl true [] (some 0)], false⟩,
  some ⟨.strct [(0, 38)], 1, 24, [.sl true [] (some 0)], false⟩,
  some ⟨.int .u16, 1, 2, [.int .u16 0], false⟩,
  some ⟨.func, 1, 8, [.nilf], false⟩,
  none,
  some ⟨.func, 1, 8, [.nilf], false⟩,
  some ⟨.func, 1, 8, [.nilf], false⟩,
  some ⟨.func, 1, 8, [.nilf], false⟩,
  some ⟨.slice 3, 1, 24, [.sl true [] (some 0)], false⟩,
  none,
  some ⟨.func, 1, 8, [.nilf], false⟩,
  some ⟨.func, 1, 8, [.nilf], false⟩,
  some ⟨.func, 1, 8, [.nilf], false⟩,
  some ⟨.func, 1, 8, [.nilf], false⟩,
  some ⟨.func, 1, 8, [.nilf], false⟩,
  some ⟨.func, 1, 8, [.nilf], false⟩,
  some ⟨.func, 1, 8, [.nilf], false⟩,
  none,
  some ⟨.func, 1, 8, [.nilf], false⟩,
  some ⟨.func, 1, 8, [.nilf], false⟩,
  some ⟨.func, 1, 8, [.nilf], false⟩,
  some ⟨.func, 1, 8, [.nilf], false⟩,
  some ⟨.func, 1, 8, [.nilf], false⟩,
  none,
  some ⟨.func, 1, 8, [.nilf], false⟩,
  some ⟨.strct [(0, 22)], 1, 24, [.sl true [] (some 0)], false⟩,
  some ⟨.strct [(0, 22)], 1, 24, [.sl true [] (some 0)], false⟩,
  some ⟨.slice 125, 1, 24, [.sl true [] (some 0)], false⟩,
  some ⟨.slice 78, 1, 24, [.sl true [] (some 0)], false⟩,
  some ⟨.func, 1, 8, [.nilf], false⟩,
  some ⟨.func, 1, 8, [.nilf], false⟩,
  some ⟨.strct [(0, 47), (1, 34)], 2, 32, [.sl true [] (some 0), .int .i64 0], false⟩,
  some ⟨.strct [(0, 47), (1, 34)], 2, 32, [.sl true [] (some 0), .int .i64 0], false⟩,
  none,
  some ⟨.func, 1, 8, [.nilf], false⟩,
  some ⟨.func, 1, 8, [.nilf], false⟩,
  some ⟨.func, 1, 8, [.nilf], false⟩,
  some ⟨.func, 1, 8, [.nilf], false⟩,
  some ⟨.strct [(0, 27), (3, 4), (4, 4)], 5, 12, [.int .u8 0, .bool false, .int .u32 0, .bool false, .bool false], false⟩,
  some ⟨.strct [(0, 27), (3, 4), (4, 4)], 5, 12, [.int .u8 0, .bool false, .int .u32 0, .bool false, .bool false], false⟩,
  some ⟨.func, 1, 8, [.nilf], false⟩,
  some ⟨.func, 1, 8, [.nilf], false⟩,
  some ⟨.func, 1, 8, [.nilf], false⟩,
  some ⟨.arr 2 3, 2, 16, [.int .i64 0, .int .i64 0], false⟩,
  some ⟨.func, 1, 8, [.nilf], false⟩,
  none,
  some ⟨.func, 1, 8, [.nilf], false⟩,
  some ⟨.func, 1, 8, [.nilf], false⟩,
  some ⟨.func, 1, 8, [.nilf], false⟩,
  some ⟨.func, 1, 8, [.nilf], false⟩,
  some ⟨.func, 1, 8, [.nilf], false⟩,
  some ⟨.func, 1, 8, [.nilf], false⟩,
  none,
  some ⟨.func, 1, 8, [.nilf], false⟩,
  some ⟨.func, 1, 8, [.nilf], false⟩,
  some ⟨.func, 1, 8, [.nilf], false⟩,
  some ⟨.func, 1, 8, [.nilf], false⟩,
  some ⟨.func, 1, 8, [.nilf], false⟩,
  some ⟨.ptr 3, 1, 8, [.nilp], false⟩,
  some ⟨.func, 1, 8, [.nilf], false⟩,
  some ⟨.func, 1, 8, [.nilf], false⟩,
  some ⟨.func, 1, 8, [.nilf], false⟩,
  none,
  some ⟨.func, 1, 8, [.nilf], false⟩,
  some ⟨.func, 1, 8, [.nilf], false⟩,
  some ⟨.strct [(0, 5), (1, 5), (2, 25)], 3, 8, [.int .u8 0, .int .u8 0, .int .u32 0], false⟩,
  some ⟨.strct [(0, 5), (1, 5), (2, 25)], 3, 8, [.int .u8 0, .int .u8 0, .int .u32 0], false⟩,
  some ⟨.strct [(0, 5), (1, 5), (2, 105), (5, 22)], 6, 40, [.int .u8 0, .int .u8 0, .int .u8 0, .int .u8 0, .int .u32 0, .sl true [] (some 0)], false⟩,
  some ⟨.strct [(0, 5), (1, 5), (2, 105), (5, 22)], 6, 40, [.int .u8 0, .int .u8 0, .int .u8 0, .int .u8 0, .int .u32 0, .sl true [] (some 0)], false⟩,
  some ⟨.func, 1, 8, [.nilf], false⟩,
  some ⟨.strct [(0, 3), (1, 34)], 2, 16, [.int .i64 0, .int .i64 0], false⟩,
  some ⟨.strct [(0, 3), (1, 34)], 2, 16, [.int .i64 0, .int .i64 0], false⟩,
  none,
  some ⟨.strct [(0, 22), (1, 3)], 2, 32, [.sl true [] (some 0), .int .i64 0], false⟩,
  some ⟨.strct [(0, 22), (1, 3)], 2, 32, [.sl true [] (some 0), .int .i64 0], false⟩,
  none,
  some ⟨.func, 1, 8, [.nilf], false⟩,
  none,
  some ⟨.func, 1, 8, [.nilf], false⟩,
  some ⟨.func, 1, 8, [.nilf], false⟩,
  some ⟨.func, 1, 8, [.nilf], false⟩,
  some ⟨.func, 1, 8, [.nilf], false⟩,
  some ⟨.func, 1, 8, [.nilf], false⟩,
  none,
  some ⟨.func, 1, 8, [.nilf], false⟩,
  some ⟨.strct [(0, 5), (1, 5)], 2, 2, [.int .u8 0, .int .u8 0], false⟩,
  some ⟨.strct [(0, 5), (1, 5)], 2, 2, [.int .u8 0, .int .u8 0], false⟩,
  some ⟨.func, 1, 8, [.nilf], false⟩,
  some ⟨.func, 1, 8, [.nilf], false⟩,
  some ⟨.func, 1, 8, [.nilf], false⟩,
  none,
  some ⟨.func, 1, 8, [.nilf], false⟩,
  none,
  some ⟨.func, 1, 8, [.nilf], false⟩,
  some ⟨.func, 1, 8, [.nilf], false⟩,
  some ⟨.func, 1, 8, [.nilf], false⟩,
  some ⟨.func, 1, 8, [.nilf], false⟩,
  some ⟨.ptr 113, 1, 8, [.nilp], false⟩,
  none,
  some ⟨.func, 1, 8, [.nilf], false⟩,
  none,
  some ⟨.func, 1, 8, [.nilf], false⟩,
  some ⟨.func, 1, 8, [.nilf], false⟩,
  some ⟨.func, 1, 8, [.nilf], false⟩,
  some ⟨.func, 1, 8, [.nilf], false⟩,
  some ⟨.func, 1, 8, [.nilf], false⟩,
  some ⟨.func, 1, 8, [.nilf], false⟩,
  some ⟨.func, 1, 8, [.nilf], false⟩,
  some ⟨.func, 1, 8, [.nilf], false⟩,
  some ⟨.func, 1, 8, [.nilf], false⟩,
  some ⟨.func, 1, 8, [.nilf], false⟩,
  some ⟨.func, 1, 8, [.nilf], false⟩,
  some ⟨.int .u64, 1, 8, [.int .u64 0], false⟩,
  some ⟨.func, 1, 8, [.nilf], false⟩,
  some ⟨.func, 1, 8, [.nilf], false⟩,
  some ⟨.func, 1, 8, [.nilf], false⟩,
  none,
  some ⟨.func, 1, 8, [.nilf], false⟩,
  some ⟨.arr 3 5, 3, 3, [.int .u8 0, .int .u8 0, .int .u8 0], false⟩,
  some ⟨.arr 3 5, 3, 3, [.int .u8 0, .int .u8 0, .int .u8 0], false⟩,
  some ⟨.func, 1, 8, [.nilf], false⟩,
  some ⟨.func, 1, 8, [.nilf], false⟩,
  some ⟨.strct [(0, 17), (1, 17), (2, 17), (3, 9)], 4, 40, [.nilp, .nilp, .nilp, .str []], false⟩,
  some ⟨.strct [(0, 17), (1, 17), (2, 17), (3, 9)], 4, 40, [.nilp, .nilp, .nilp, .str []], false⟩,
  some ⟨.arr 0 16, 0, 0, [], false⟩,
  some ⟨.strct [(0, 163)], 0, 0, [], false⟩,
  some ⟨.strct [(0, 163)], 0, 0, [], false⟩,
  some ⟨.func, 1, 8, [.nilf], false⟩,
  some ⟨.int .u8, 1, 1, [.int .u8 0], false⟩,
  some ⟨.int .u8, 1, 1, [.int .u8 0], false⟩,
  some ⟨.func, 1, 8, [.nilf], false⟩,
  some ⟨.ptr 5, 1, 8, [.nilp], false⟩,
  some ⟨.int .i32, 1, 4, [.int .i32 0], false⟩,
  some ⟨.int .i32, 1, 4, [.int .i32 0], false⟩,
  some ⟨.strct [(0, 12), (1, 12), (2, 25), (3, 167), (4, 5), (5, 5), (6, 168), (7, 169), (8, 170), (9, 171), (10, 172)], 11, 48, [.int .u64 0, .int .u64 0, .int .u32 0, .int .u8 0, .int .u8 0, .int .u8 0, .int .u8 0, .nilf, .nilp, .int .i32 0, .int .i32 0], false⟩,
  some ⟨.strct [(0, 12), (1, 12), (2, 25), (3, 167), (4, 5), (5, 5), (6, 168), (7, 169), (8, 170), (9, 171), (10, 172)], 11, 48, [.int .u64 0, .int .u64 0, .int .u32 0, .int .u8 0, .int .u8 0, .int .u8 0, .int .u8 0, .nilf, .nilp, .int .i32 0, .int .i32 0], false⟩,
  none]
def E : Env := { fn := getT fnTab, ty := getT tyTab, prim := primT, grd := grdT, ext := fun i => i == 106, glob := fun _ => none }
@[simp] theorem E_ext (i) : E.ext i = (i == 106) := id rfl
def E0 : Env := { E with prim := fun _ => none }
@[simp] theorem E_prim (i) : E.prim i = primT i := rfl
@[simp] theorem E_glob (i) : E.glob i = none := rfl
@[simp] theorem ntmps_10 : fn10.ntmps = 66 := rfl
@[simp] theorem results_10 : fn10.results = [.tmp 6] := rfl
theorem body_10 : fn10.body = c10 := rfl
@[simp] theorem dyn_10 : fn10.dyn = fun _ => [] := id rfl
@[simp] theorem opn_10 : fn10.opn = fun _ => none := id rfl
@[simp] theorem keep_10_0 : fn10.keep 0 = some [1, 2, 3] := rfl
@[simp] theorem keep_10_1 : fn10.keep 1 = some [1, 2, 3, 7] := rfl
@[simp] theorem keep_10_2 : fn10.keep 2 = some [2, 3, 7, 8] := rfl
@[simp] theorem keep_10_3 : fn10.keep 3 = some [2, 3, 7, 8, 9] := rfl
@[simp] theorem keep_10_4 : fn10.keep 4 = some [2, 3, 7, 8, 9, 21] := rfl
@[simp] theorem keep_10_5 : fn10.keep 5 = some [3, 7, 8, 9] := rfl
@[simp] theorem keep_10_6 : fn10.keep 6 = some [3, 7, 8, 9, 10, 11] := rfl
@[simp] theorem keep_10_7 : fn10.keep 7 = some [3, 7, 10, 11, 12, 13] := rfl
@[simp] theorem keep_10_8 : fn10.keep 8 = some [6] := rfl
@[simp] theorem ntmps_11 : fn11.ntmps = 105 := rfl
@[simp] theorem results_11 : fn11.results = [.tmp 4] := rfl
theorem body_11 : fn11.body = c11 := rfl
@[simp] theorem dyn_11 : fn11.dyn = fun _ => [] := id rfl
@[simp] theorem opn_11 : fn11.opn = fun _ => none := id rfl
@[simp] theorem keep_11_0 : fn11.keep 0 = some [1, 2] := rfl
@[simp] theorem keep_11_1 : fn11.keep 1 = some [1, 5] := rfl
@[simp] theorem keep_11_2 : fn11.keep 2 = some [5, 6] := rfl
@[simp] theorem keep_11_3 : fn11.keep 3 = some [5, 6, 7, 8] := rfl
@[simp] theorem keep_11_4 : fn11.keep 4 = some [5, 6, 7, 8, 24] := rfl
@[simp] theorem keep_11_5 : fn11.keep 5 = some [4] := rfl
@[simp] theorem keep_11_6 : fn11.keep 6 = some [5, 6, 7, 41] := rfl
@[simp] theorem keep_11_7 : fn11.keep 7 = some [4] := rfl
@[simp] theorem keep_11_8 : fn11.keep 8 = some [5, 6, 7, 9] := rfl
@[simp] theorem keep_11_9 : fn11.keep 9 = some [5, 6, 7, 9, 10] := rfl
@[simp] theorem keep_11_10 : fn11.keep 10 = some [5, 6, 7, 9, 10, 45] := rfl
@[simp] theorem keep_11_11 : fn11.keep 11 = some [5, 6, 7, 9, 10] := rfl
@[simp] theorem keep_11_12 : fn11.keep 12 = some [5, 6, 7, 9, 10, 59] := rfl
@[simp] theorem keep_11_13 : fn11.keep 13 = some [5, 6, 7, 9, 10, 94] := rfl
@[simp] theorem keep_11_14 : fn11.keep 14 = some [4] := rfl
@[simp] theorem keep_11_15 : fn11.keep 15 = some [5, 6, 7, 9, 10] := rfl
@[simp] theorem keep_11_16 : fn11.keep 16 = some [4] := rfl
@[simp] theorem head_11_10 : fn11.head 10 = some [5, 6, 7, 9, 10] := rfl
@[simp] theorem ntmps_13 : fn13.ntmps = 107 := rfl
@[simp] theorem results_13 : fn13.results = [.tmp 6] := rfl
theorem body_13 : fn13.body = c13 := rfl
@[simp] theorem dyn_13_7 : fn13.dyn 7 = [] := id rfl
@[simp] theorem dyn_13_8 : fn13.dyn 8 = [] := id rfl
@[simp] theorem dyn_13_9 : fn13.dyn 9 = [(6, 8)] := id rfl
@[simp] theorem dyn_13_10 : fn13.dyn 10 = [] := id rfl
@[simp] theorem dyn_13_13 : fn13.dyn 13 = [] := id rfl

@[simp] theorem opn_13 : fn13.opn = opn13 := id rfl
@[simp] theorem opn13_47 : opn13 47 = none := id rfl
@[simp] theorem opn13_48 : opn13 48 = none := id rfl
@[simp] theorem opn13_50 : opn13 50 = none := id rfl
@[simp] theorem opn13_53 : opn13 53 = some ([true, true], false) := id rfl
@[simp] theorem opn13_54 : opn13 54 = none := id rfl
@[simp] theorem opn13_55 : opn13 55 = none := id rfl
@[simp] theorem keep_13_0 : fn13.keep 0 = some [0, 1, 5] := rfl
@[simp] theorem keep_13_1 : fn13.keep 1 = some [0, 1, 5, 15] := rfl
@[simp] theorem keep_13_2 : fn13.keep 2 = some [6] := rfl
@[simp] theorem keep_13_3 : fn13.keep 3 = some [0, 5, 7] := rfl
@[simp] theorem keep_13_4 : fn13.keep 4 = some [0, 5, 7, 8] := rfl
@[simp] theorem keep_13_5 : fn13.keep 5 = some [0, 5, 7, 8, 9] := rfl
@[simp] theorem keep_13_6 : fn13.keep 6 = some [0, 5, 7, 8, 9, 33] := rfl
@[simp] theorem keep_13_7 : fn13.keep 7 = some [8, 9, 10, 11] := rfl
@[simp] theorem keep_13_8 : fn13.keep 8 = some [6] := rfl
@[simp] theorem keep_13_9 : fn13.keep 9 = some [0, 5, 7, 8, 9, 12] := rfl
@[simp] theorem keep_13_10 : fn13.keep 10 = some [0, 5, 7, 8, 9, 83] := rfl
@[simp] theorem keep_13_11 : fn13.keep 11 = some [6] := rfl
@[simp] theorem keep_13_12 : fn13.keep 12 = some [0, 5, 7, 9] := rfl
@[simp] theorem keep_13_13 : fn13.keep 13 = some [6] := rfl
@[simp] theorem ntmps_14 : fn14.ntmps = 81 := rfl
@[simp] theorem results_14 : fn14.results = [.tmp 6] := rfl
theorem body_14 : fn14.body = c14 := rfl
@[simp] theorem dyn_14 : fn14.dyn = fun _ => [] := id rfl
@[simp] theorem opn_14 : fn14.opn = fun _ => none := id rfl
@[simp] theorem keep_14_0 : fn14.keep 0 = some [2, 3, 4] := rfl
@[simp] theorem keep_14_1 : fn14.keep 1 = some [2, 4, 7] := rfl
@[simp] theorem keep_14_2 : fn14.keep 2 = some [2, 4, 7, 8] := rfl
@[simp] theorem keep_14_3 : fn14.keep 3 = some [2, 4, 7, 8, 16] := rfl
@[simp] theorem keep_14_4 : fn14.keep 4 = some [2, 4, 7, 8] := rfl
@[simp] theorem keep_14_5 : fn14.keep 5 = some [2, 7, 35] := rfl
@[simp] theorem keep_14_6 : fn14.keep 6 = some [6] := rfl
@[simp] theorem keep_14_7 : fn14.keep 7 = some [2, 7, 9] := rfl
@[simp] theorem keep_14_8 : fn14.keep 8 = some [2, 7, 9, 40] := rfl
@[simp] theorem keep_14_9 : fn14.keep 9 = some [2, 7, 9] := rfl
@[simp] theorem keep_14_10 : fn14.keep 10 = some [2, 7, 9, 10] := rfl
@[simp] theorem keep_14_11 : fn14.keep 11 = some [2, 7, 9, 69] := rfl
@[simp] theorem keep_14_12 : fn14.keep 12 = some [6] := rfl
@[simp] theorem keep_14_13 : fn14.keep 13 = some [6] := rfl
@[simp] theorem head_14_8 : fn14.head 8 = some [2, 7, 9] := rfl
@[simp] theorem ntmps_21 : fn21.ntmps = 19 := rfl
@[simp] theorem results_21 : fn21.results = [.tmp 2, .tmp 3] := rfl
theorem body_21 : fn21.body = c21 := rfl
@[simp] theorem dyn_21_7 : fn21.dyn 7 = [(3, 3)] := id rfl

@[simp] theorem opn_21 : fn21.opn = opnT := id rfl
@[simp] theorem keep_21_0 : fn21.keep 0 = some [1] := rfl
@[simp] theorem keep_21_1 : fn21.keep 1 = some [1, 4] := rfl
@[simp] theorem keep_21_2 : fn21.keep 2 = some [1, 4, 9] := rfl
@[simp] theorem keep_21_3 : fn21.keep 3 = some [2, 3] := rfl
@[simp] theorem keep_21_4 : fn21.keep 4 = some [1, 5] := rfl
@[simp] theorem keep_21_5 : fn21.keep 5 = some [1, 5, 14] := rfl
@[simp] theorem keep_21_6 : fn21.keep 6 = some [2, 3] := rfl
@[simp] theorem keep_21_7 : fn21.keep 7 = some [2, 3] := rfl
@[simp] theorem ntmps_25 : fn25.ntmps = 39 := rfl
@[simp] theorem results_25 : fn25.results = [.cell 4 30, .tmp 5] := rfl
theorem body_25 : fn25.body = c25 := rfl
@[simp] theorem dyn_25 : fn25.dyn = fun _ => [] := id rfl
@[simp] theorem opn_25 : fn25.opn = fun _ => none := id rfl
@[simp] theorem keep_25_0 : fn25.keep 0 = some [1, 2, 4] := rfl
@[simp] theorem keep_25_1 : fn25.keep 1 = some [1, 2, 4, 6] := rfl
@[simp] theorem keep_25_2 : fn25.keep 2 = some [1, 2, 4, 6, 12] := rfl
@[simp] theorem keep_25_3 : fn25.keep 3 = some [4, 5] := rfl
@[simp] theorem keep_25_4 : fn25.keep 4 = some [2, 4, 15, 16, 17] := rfl
@[simp] theorem keep_25_5 : fn25.keep 5 = some [2, 4, 15, 16, 17, 18] := rfl
@[simp] theorem keep_25_6 : fn25.keep 6 = some [2, 4, 8, 15, 16, 17] := rfl
@[simp] theorem keep_25_7 : fn25.keep 7 = some [2, 4, 8, 15, 16, 17, 29] := rfl
@[simp] theorem keep_25_8 : fn25.keep 8 = some [4, 5] := rfl
@[simp] theorem keep_25_9 : fn25.keep 9 = some [2, 4, 15, 16, 17] := rfl
@[simp] theorem keep_25_10 : fn25.keep 10 = some [2, 4, 15, 16, 17] := rfl
@[simp] theorem keep_25_11 : fn25.keep 11 = some [4, 5] := rfl
@[simp] theorem head_25_5 : fn25.head 5 = some [2, 4, 15, 16, 17] := rfl
@[simp] theorem ntmps_32 : fn32.ntmps = 13 := rfl
@[simp] theorem results_32 : fn32.results = [.tmp 2] := rfl
theorem body_32 : fn32.body = c32 := rfl
@[simp] theorem dyn_32 : fn32.dyn = fun _ => [] := id rfl
@[simp] theorem opn_32 : fn32.opn = fun _ => none := id rfl
@[simp] theorem keep_32_0 : fn32.keep 0 = some [1] := rfl
@[simp] theorem keep_32_1 : fn32.keep 1 = some [3] := rfl
@[simp] theorem keep_32_2 : fn32.keep 2 = some [2] := rfl
@[simp] theorem ntmps_37 : fn37.ntmps = 22 := rfl
@[simp] theorem results_37 : fn37.results = [.tmp 4] := rfl
theorem body_37 : fn37.body = c37 := rfl
@[simp] theorem dyn_37 : fn37.dyn = fun _ => [] := id rfl
@[simp] theorem opn_37 : fn37.opn = fun _ => none := id rfl
@[simp] theorem keep_37_0 : fn37.keep 0 = some [2, 3] := rfl
@[simp] theorem keep_37_1 : fn37.keep 1 = some [3, 5] := rfl
@[simp] theorem keep_37_2 : fn37.keep 2 = some [5, 7] := rfl
@[simp] theorem keep_37_3 : fn37.keep 3 = some [4] := rfl
@[simp] theorem ntmps_42 : fn42.ntmps = 14 := rfl
@[simp] theorem results_42 : fn42.results = [.cell 2 30] := rfl
theorem body_42 : fn42.body = c42 := rfl
@[simp] theorem dyn_42 : fn42.dyn = fun _ => [] := id rfl
@[simp] theorem opn_42 : fn42.opn = fun _ => none := id rfl
@[simp] theorem keep_42_0 : fn42.keep 0 = some [1, 2] := rfl
@[simp] theorem keep_42_1 : fn42.keep 1 = some [2, 3] := rfl
@[simp] theorem keep_42_2 : fn42.keep 2 = some [2] := rfl
@[simp] theorem ntmps_43 : fn43.ntmps = 41 := rfl
@[simp] theorem results_43 : fn43.results = [.tmp 2] := rfl
theorem body_43 : fn43.body = c43 := rfl
@[simp] theorem dyn_43 : fn43.dyn = fun _ => [] := id rfl
@[simp] theorem opn_43 : fn43.opn = fun _ => none := id rfl
@[simp] theorem keep_43_0 : fn43.keep 0 = some [0] := rfl
@[simp] theorem keep_43_1 : fn43.keep 1 = some [0, 3] := rfl
@[simp] theorem keep_43_2 : fn43.keep 2 = some [0, 3, 4] := rfl
@[simp] theorem keep_43_3 : fn43.keep 3 = some [0, 3, 4, 12] := rfl
@[simp] theorem keep_43_4 : fn43.keep 4 = some [0, 3, 4] := rfl
@[simp] theorem keep_43_5 : fn43.keep 5 = some [0, 3, 4] := rfl
@[simp] theorem keep_43_6 : fn43.keep 6 = some [2] := rfl
@[simp] theorem head_43_3 : fn43.head 3 = some [0, 3, 4] := rfl
@[simp] theorem ntmps_44 : fn44.ntmps = 33 := rfl
@[simp] theorem results_44 : fn44.results = [.cell 2 27] := rfl
theorem body_44 : fn44.body = c44 := rfl
@[simp] theorem dyn_44 : fn44.dyn = fun _ => [] := id rfl
@[simp] theorem opn_44 : fn44.opn = fun _ => none := id rfl
@[simp] theorem keep_44_0 : fn44.keep 0 = some [0, 2] := rfl
@[simp] theorem keep_44_1 : fn44.keep 1 = some [0, 2, 4] := rfl
@[simp] theorem keep_44_2 : fn44.keep 2 = some [0, 2, 4, 5] := rfl
@[simp] theorem keep_44_3 : fn44.keep 3 = some [2] := rfl
@[simp] theorem keep_44_4 : fn44.keep 4 = some [0, 2, 4, 8] := rfl
@[simp] theorem keep_44_5 : fn44.keep 5 = some [2] := rfl
@[simp] theorem keep_44_6 : fn44.keep 6 = some [0, 2, 4, 11] := rfl
@[simp] theorem keep_44_7 : fn44.keep 7 = some [2] := rfl
@[simp] theorem keep_44_8 : fn44.keep 8 = some [0, 2, 4, 19] := rfl
@[simp] theorem keep_44_9 : fn44.keep 9 = some [2] := rfl
@[simp] theorem keep_44_10 : fn44.keep 10 = some [2, 4, 26] := rfl
@[simp] theorem keep_44_11 : fn44.keep 11 = some [2] := rfl
@[simp] theorem keep_44_12 : fn44.keep 12 = some [2, 29] := rfl
@[simp] theorem keep_44_13 : fn44.keep 13 = some [2] := rfl
@[simp] theorem keep_44_14 : fn44.keep 14 = some [2] := rfl
@[simp] theorem ntmps_45 : fn45.ntmps = 83 := rfl
@[simp] theorem results_45 : fn45.results = [.tmp 6, .cell 7 71] := rfl
theorem body_45 : fn45.body = c45 := rfl
@[simp] theorem dyn_45 : fn45.dyn = fun _ => [] := id rfl
@[simp] theorem opn_45 : fn45.opn = opnT := id rfl
@[simp] theorem keep_45_0 : fn45.keep 0 = some [2, 3, 4, 7] := rfl
@[simp] theorem keep_45_1 : fn45.keep 1 = some [2, 3, 4, 7, 13] := rfl
@[simp] theorem keep_45_2 : fn45.keep 2 = some [6, 7] := rfl
@[simp] theorem keep_45_3 : fn45.keep 3 = some [2, 3, 7, 18] := rfl
@[simp] theorem keep_45_4 : fn45.keep 4 = some [6, 7] := rfl
@[simp] theorem keep_45_5 : fn45.keep 5 = some [2, 3, 7, 8] := rfl
@[simp] theorem keep_45_6 : fn45.keep 6 = some [2, 3, 7, 8, 9] := rfl
@[simp] theorem keep_45_7 : fn45.keep 7 = some [3, 7, 8, 9, 27, 28, 29] := rfl
@[simp] theorem keep_45_8 : fn45.keep 8 = some [3, 7, 8, 9, 27, 28, 29, 30] := rfl
@[simp] theorem keep_45_9 : fn45.keep 9 = some [3, 7, 8, 9, 11, 27, 28, 29] := rfl
@[simp] theorem keep_45_10 : fn45.keep 10 = some [3, 7, 8, 9, 11, 12, 27, 28, 29] := rfl
@[simp] theorem keep_45_11 : fn45.keep 11 = some [6, 7] := rfl
@[simp] theorem keep_45_12 : fn45.keep 12 = some [3, 7, 8, 9, 11, 27, 28, 29, 38] := rfl
@[simp] theorem keep_45_13 : fn45.keep 13 = some [3, 7, 8, 9, 27, 28, 29] := rfl
@[simp] theorem keep_45_14 : fn45.keep 14 = some [3, 7, 8, 9, 27, 28, 29] := rfl
@[simp] theorem keep_45_15 : fn45.keep 15 = some [3, 7, 8, 9, 27, 28, 29, 59] := rfl
@[simp] theorem keep_45_16 : fn45.keep 16 = some [3, 7, 8, 9, 27, 28, 29] := rfl
@[simp] theorem keep_45_17 : fn45.keep 17 = some [7, 8, 65] := rfl
@[simp] theorem keep_45_18 : fn45.keep 18 = some [6, 7] := rfl
@[simp] theorem keep_45_19 : fn45.keep 19 = some [3, 7, 8, 9, 27, 28, 29] := rfl
@[simp] theorem keep_45_20 : fn45.keep 20 = some [7, 8, 9, 77] := rfl
@[simp] theorem keep_45_21 : fn45.keep 21 = some [6, 7] := rfl
@[simp] theorem keep_45_22 : fn45.keep 22 = some [6, 7] := rfl
@[simp] theorem head_45_8 : fn45.head 8 = some [3, 7, 8, 9, 27, 28, 29] := rfl
@[simp] theorem ntmps_46 : fn46.ntmps = 83 := rfl
@[simp] theorem results_46 : fn46.results = [.tmp 6, .cell 7 71] := rfl
theorem body_46 : fn46.body = c46 := rfl
@[simp] theorem dyn_46 : fn46.dyn = fun _ => [] := id rfl
@[simp] theorem opn_46 : fn46.opn = fun _ => none := id rfl
@[simp] theorem keep_46_0 : fn46.keep 0 = some [2, 3, 4, 7] := rfl
@[simp] theorem keep_46_1 : fn46.keep 1 = some [2, 3, 4, 7, 13] := rfl
@[simp] theorem keep_46_2 : fn46.keep 2 = some [6, 7] := rfl
@[simp] theorem keep_46_3 : fn46.keep 3 = some [2, 3, 7, 18] := rfl
@[simp] theorem keep_46_4 : fn46.keep 4 = some [6, 7] := rfl
@[simp] theorem keep_46_5 : fn46.keep 5 = some [2, 3, 7, 8] := rfl
@[simp] theorem keep_46_6 : fn46.keep 6 = some [2, 3, 7, 8, 9] := rfl
@[simp] theorem keep_46_7 : fn46.keep 7 = some [2, 3, 7, 8, 9, 10] := rfl
@[simp] theorem keep_46_8 : fn46.keep 8 = some [2, 3, 7, 8, 9, 10, 23] := rfl
@[simp] theorem keep_46_9 : fn46.keep 9 = some [2, 3, 7, 8, 9, 10] := rfl
@[simp] theorem keep_46_10 : fn46.keep 10 = some [2, 3, 7, 8, 9, 10, 51] := rfl
@[simp] theorem keep_46_11 : fn46.keep 11 = some [2, 3, 7, 8, 9, 10] := rfl
@[simp] theorem keep_46_12 : fn46.keep 12 = some [2, 3, 7, 8, 9, 10] := rfl
@[simp] theorem keep_46_13 : fn46.keep 13 = some [2, 3, 7, 8, 9, 10, 62] := rfl
@[simp] theorem keep_46_14 : fn46.keep 14 = some [2, 3, 7, 8, 9, 10] := rfl
@[simp] theorem keep_46_15 : fn46.keep 15 = some [7, 9, 70] := rfl
@[simp] theorem keep_46_16 : fn46.keep 16 = some [6, 7] := rfl
@[simp] theorem keep_46_17 : fn46.keep 17 = some [6, 7] := rfl
@[simp] theorem keep_46_18 : fn46.keep 18 = some [7, 8, 9, 78] := rfl
@[simp] theorem keep_46_19 : fn46.keep 19 = some [6, 7] := rfl
@[simp] theorem keep_46_20 : fn46.keep 20 = some [6, 7] := rfl
@[simp] theorem head_46_8 : fn46.head 8 = some [2, 3, 7, 8, 9, 10] := rfl
@[simp] theorem ntmps_47 : fn47.ntmps = 26 := rfl
@[simp] theorem results_47 : fn47.results = [.tmp 4] := rfl
theorem body_47 : fn47.body = c47 := rfl
@[simp] theorem dyn_47 : fn47.dyn = fun _ => [] := id rfl
@[simp] theorem opn_47 : fn47.opn = fun _ => none := id rfl
@[simp] theorem keep_47_0 : fn47.keep 0 = some [0, 1] := rfl
@[simp] theorem keep_47_1 : fn47.keep 1 = some [0, 1, 10] := rfl
@[simp] theorem keep_47_2 : fn47.keep 2 = some [4] := rfl
@[simp] theorem keep_47_3 : fn47.keep 3 = some [0, 1, 5] := rfl
@[simp] theorem keep_47_4 : fn47.keep 4 = some [0, 1, 5, 14] := rfl
@[simp] theorem keep_47_5 : fn47.keep 5 = some [0, 1, 5] := rfl
@[simp] theorem keep_47_6 : fn47.keep 6 = some [0, 1, 5, 25] := rfl
@[simp] theorem keep_47_7 : fn47.keep 7 = some [4] := rfl
@[simp] theorem keep_47_8 : fn47.keep 8 = some [4] := rfl
@[simp] theorem head_47_4 : fn47.head 4 = some [0, 1, 5] := rfl
@[simp] theorem ntmps_48 : fn48.ntmps = 47 := rfl
@[simp] theorem results_48 : fn48.results = [.tmp 4] := rfl
theorem body_48 : fn48.body = c48 := rfl
@[simp] theorem dyn_48 : fn48.dyn = fun _ => [] := id rfl
@[simp] theorem opn_48 : fn48.opn = fun _ => none := id rfl
@[simp] theorem keep_48_0 : fn48.keep 0 = some [2, 3] := rfl
@[simp] theorem keep_48_1 : fn48.keep 1 = some [2, 3, 28] := rfl
@[simp] theorem keep_48_2 : fn48.keep 2 = some [4] := rfl
@[simp] theorem keep_48_3 : fn48.keep 3 = some [2, 3, 5] := rfl
@[simp] theorem keep_48_4 : fn48.keep 4 = some [2, 3, 5, 33] := rfl
@[simp] theorem keep_48_5 : fn48.keep 5 = some [2, 3, 5] := rfl
@[simp] theorem keep_48_6 : fn48.keep 6 = some [2, 3, 5, 46] := rfl
@[simp] theorem keep_48_7 : fn48.keep 7 = some [4] := rfl
@[simp] theorem keep_48_8 : fn48.keep 8 = some [4] := rfl
@[simp] theorem head_48_4 : fn48.head 4 = some [2, 3, 5] := rfl
@[simp] theorem ntmps_49 : fn49.ntmps = 48 := rfl
@[simp] theorem results_49 : fn49.results = [.tmp 4] := rfl
theorem body_49 : fn49.body = c49 := rfl
@[simp] theorem dyn_49 : fn49.dyn = fun _ => [] := id rfl
@[simp] theorem opn_49 : fn49.opn = fun _ => none := id rfl
@[simp] theorem keep_49_0 : fn49.keep 0 = some [2, 3] := rfl
@[simp] theorem keep_49_1 : fn49.keep 1 = some [2, 3, 28] := rfl
@[simp] theorem keep_49_2 : fn49.keep 2 = some [4] := rfl
@[simp] theorem keep_49_3 : fn49.keep 3 = some [2, 3, 5] := rfl
@[simp] theorem keep_49_4 : fn49.keep 4 = some [2, 3, 5, 33] := rfl
@[simp] theorem keep_49_5 : fn49.keep 5 = some [2, 3, 5] := rfl
@[simp] theorem keep_49_6 : fn49.keep 6 = some [2, 3, 5, 47] := rfl
@[simp] theorem keep_49_7 : fn49.keep 7 = some [4] := rfl
@[simp] theorem keep_49_8 : fn49.keep 8 = some [4] := rfl
@[simp] theorem head_49_4 : fn49.head 4 = some [2, 3, 5] := rfl
@[simp] theorem ntmps_50 : fn50.ntmps = 201 := rfl
@[simp] theorem results_50 : fn50.results = [.tmp 0] := rfl
theorem body_50 : fn50.body = c50 := rfl
@[simp] theorem dyn_50 : fn50.dyn = fun _ => [] := id rfl
@[simp] theorem opn_50 : fn50.opn = fun _ => none := id rfl
@[simp] theorem keep_50_0 : fn50.keep 0 = some [] := rfl
@[simp] theorem keep_50_1 : fn50.keep 1 = some [1] := rfl
@[simp] theorem keep_50_2 : fn50.keep 2 = some [1, 2, 3, 4] := rfl
@[simp] theorem keep_50_3 : fn50.keep 3 = some [1, 2, 3, 4, 5, 6] := rfl
@[simp] theorem keep_50_4 : fn50.keep 4 = some [1, 2, 3, 4, 5, 6, 7, 8] := rfl
@[simp] theorem keep_50_5 : fn50.keep 5 = some [1, 2, 3, 4, 70] := rfl
@[simp] theorem keep_50_6 : fn50.keep 6 = some [0] := rfl
@[simp] theorem keep_50_7 : fn50.keep 7 = some [1, 2, 3, 4, 10] := rfl
@[simp] theorem keep_50_8 : fn50.keep 8 = some [1, 2, 3, 4, 10, 12] := rfl
@[simp] theorem keep_50_9 : fn50.keep 9 = some [1, 2, 4, 10, 12, 14] := rfl
@[simp] theorem keep_50_10 : fn50.keep 10 = some [1, 2, 10, 12, 14, 16] := rfl
@[simp] theorem keep_50_11 : fn50.keep 11 = some [1, 2, 125] := rfl
@[simp] theorem keep_50_12 : fn50.keep 12 = some [0] := rfl
@[simp] theorem keep_50_13 : fn50.keep 13 = some [1, 142] := rfl
@[simp] theorem keep_50_14 : fn50.keep 14 = some [0] := rfl
@[simp] theorem keep_50_15 : fn50.keep 15 = some [1, 17, 18] := rfl
@[simp] theorem keep_50_16 : fn50.keep 16 = some [1, 17, 18, 20] := rfl
@[simp] theorem keep_50_17 : fn50.keep 17 = some [1, 17, 18, 20, 21, 22] := rfl
@[simp] theorem keep_50_18 : fn50.keep 18 = some [17, 18, 20, 21, 22, 23, 24] := rfl
@[simp] theorem keep_50_19 : fn50.keep 19 = some [17, 18, 20, 21, 22, 23, 24, 25] := rfl
@[simp] theorem keep_50_20 : fn50.keep 20 = some [0] := rfl
@[simp] theorem ntmps_51 : fn51.ntmps = 47 := rfl
@[simp] theorem results_51 : fn51.results = [.cell 2 71] := rfl
theorem body_51 : fn51.body = c51 := rfl
@[simp] theorem dyn_51 : fn51.dyn = fun _ => [] := id rfl
@[simp] theorem opn_51 : fn51.opn = fun _ => none := id rfl
@[simp] theorem keep_51_0 : fn51.keep 0 = some [1, 2] := rfl
@[simp] theorem keep_51_1 : fn51.keep 1 = some [1, 2, 8, 9, 10] := rfl
@[simp] theorem keep_51_2 : fn51.keep 2 = some [1, 2, 8, 9, 10, 11] := rfl
@[simp] theorem keep_51_3 : fn51.keep 3 = some [1, 2, 3, 4, 8, 9, 10] := rfl
@[simp] theorem keep_51_4 : fn51.keep 4 = some [1, 2, 3, 4, 5, 8, 9, 10] := rfl
@[simp] theorem keep_51_5 : fn51.keep 5 = some [1, 2, 3, 4, 5, 8, 9, 10, 18] := rfl
@[simp] theorem keep_51_6 : fn51.keep 6 = some [2] := rfl
@[simp] theorem keep_51_7 : fn51.keep 7 = some [1, 2, 3, 4, 8, 9, 10, 24] := rfl
@[simp] theorem keep_51_8 : fn51.keep 8 = some [1, 2, 3, 6, 8, 9, 10] := rfl
@[simp] theorem keep_51_9 : fn51.keep 9 = some [1, 2, 3, 6, 8, 9, 10, 33] := rfl
@[simp] theorem keep_51_10 : fn51.keep 10 = some [2] := rfl
@[simp] theorem keep_51_11 : fn51.keep 11 = some [1, 2, 3, 8, 9, 10, 39] := rfl
@[simp] theorem keep_51_12 : fn51.keep 12 = some [2] := rfl
@[simp] theorem keep_51_13 : fn51.keep 13 = some [1, 2, 8, 9, 10] := rfl
@[simp] theorem keep_51_14 : fn51.keep 14 = some [2] := rfl
@[simp] theorem head_51_2 : fn51.head 2 = some [1, 2, 8, 9, 10] := rfl
@[simp] theorem ntmps_53 : fn53.ntmps = 27 := rfl
@[simp] theorem results_53 : fn53.results = [.cell 4 71] := rfl
theorem body_53 : fn53.body = c53 := rfl
@[simp] theorem dyn_53 : fn53.dyn = fun _ => [] := id rfl
@[simp] theorem opn_53 : fn53.opn = fun _ => none := id rfl
@[simp] theorem keep_53_0 : fn53.keep 0 = some [0, 3, 4] := rfl
@[simp] theorem keep_53_1 : fn53.keep 1 = some [0, 3, 4, 8] := rfl
@[simp] theorem keep_53_2 : fn53.keep 2 = some [4] := rfl
@[simp] theorem keep_53_3 : fn53.keep 3 = some [0, 3, 4, 5] := rfl
@[simp] theorem keep_53_4 : fn53.keep 4 = some [3, 4, 5] := rfl
@[simp] theorem keep_53_5 : fn53.keep 5 = some [3, 4, 5] := rfl
@[simp] theorem keep_53_6 : fn53.keep 6 = some [4] := rfl
@[simp] theorem ntmps_54 : fn54.ntmps = 21 := rfl
@[simp] theorem results_54 : fn54.results = [.tmp 4, .tmp 5] := rfl
theorem body_54 : fn54.body = c54 := rfl
@[simp] theorem dyn_54 : fn54.dyn = fun _ => [] := id rfl
@[simp] theorem opn_54 : fn54.opn = fun _ => none := id rfl
@[simp] theorem keep_54_0 : fn54.keep 0 = some [2, 3] := rfl
@[simp] theorem keep_54_1 : fn54.keep 1 = some [2, 3, 10] := rfl
@[simp] theorem keep_54_2 : fn54.keep 2 = some [4, 5] := rfl
@[simp] theorem keep_54_3 : fn54.keep 3 = some [3, 6] := rfl
@[simp] theorem keep_54_4 : fn54.keep 4 = some [4, 5] := rfl
@[simp] theorem ntmps_55 : fn55.ntmps = 10 := rfl
@[simp] theorem results_55 : fn55.results = [.cell 0 30] := rfl
theorem body_55 : fn55.body = c55 := rfl
@[simp] theorem dyn_55 : fn55.dyn = fun _ => [] := id rfl
@[simp] theorem opn_55 : fn55.opn = fun _ => none := id rfl
@[simp] theorem keep_55_0 : fn55.keep 0 = some [0] := rfl
@[simp] theorem keep_55_1 : fn55.keep 1 = some [0] := rfl
@[simp] theorem ntmps_56 : fn56.ntmps = 50 := rfl
@[simp] theorem results_56 : fn56.results = [.cell 8 71] := rfl
theorem body_56 : fn56.body = c56 := rfl
@[simp] theorem dyn_56 : fn56.dyn = fun _ => [] := id rfl
@[simp] theorem opn_56 : fn56.opn = fun _ => none := id rfl
@[simp] theorem keep_56_0 : fn56.keep 0 = some [2, 3, 4, 5, 8] := rfl
@[simp] theorem keep_56_1 : fn56.keep 1 = some [2, 3, 4, 5, 8, 9] := rfl
@[simp] theorem keep_56_2 : fn56.keep 2 = some [2, 3, 4, 5, 8, 9, 13] := rfl
@[simp] theorem keep_56_3 : fn56.keep 3 = some [8] := rfl
@[simp] theorem keep_56_4 : fn56.keep 4 = some [2, 3, 8, 9, 22] := rfl
@[simp] theorem keep_56_5 : fn56.keep 5 = some [8] := rfl
@[simp] theorem keep_56_6 : fn56.keep 6 = some [2, 3, 8, 9, 28] := rfl
@[simp] theorem keep_56_7 : fn56.keep 7 = some [8] := rfl
@[simp] theorem keep_56_8 : fn56.keep 8 = some [3, 8, 9, 37] := rfl
@[simp] theorem keep_56_9 : fn56.keep 9 = some [8] := rfl
@[simp] theorem keep_56_10 : fn56.keep 10 = some [3, 8, 42] := rfl
@[simp] theorem keep_56_11 : fn56.keep 11 = some [8] := rfl
@[simp] theorem keep_56_12 : fn56.keep 12 = some [8] := rfl
@[simp] theorem ntmps_57 : fn57.ntmps = 41 := rfl
@[simp] theorem results_57 : fn57.results = [.cell 8 71] := rfl
theorem body_57 : fn57.body = c57 := rfl
@[simp] theorem dyn_57 : fn57.dyn = fun _ => [] := id rfl
@[simp] theorem opn_57 : fn57.opn = fun _ => none := id rfl
@[simp] theorem keep_57_0 : fn57.keep 0 = some [2, 3, 4, 5, 8] := rfl
@[simp] theorem keep_57_1 : fn57.keep 1 = some [2, 3, 4, 5, 8, 15] := rfl
@[simp] theorem keep_57_2 : fn57.keep 2 = some [8] := rfl
@[simp] theorem keep_57_3 : fn57.keep 3 = some [2, 3, 4, 8, 20] := rfl
@[simp] theorem keep_57_4 : fn57.keep 4 = some [8] := rfl
@[simp] theorem keep_57_5 : fn57.keep 5 = some [3, 4, 8, 26] := rfl
@[simp] theorem keep_57_6 : fn57.keep 6 = some [8, 30] := rfl
@[simp] theorem keep_57_7 : fn57.keep 7 = some [8] := rfl
@[simp] theorem keep_57_8 : fn57.keep 8 = some [8] := rfl
@[simp] theorem keep_57_9 : fn57.keep 9 = some [3, 8, 37] := rfl
@[simp] theorem keep_57_10 : fn57.keep 10 = some [8] := rfl
@[simp] theorem keep_57_11 : fn57.keep 11 = some [8] := rfl
@[simp] theorem ntmps_58 : fn58.ntmps = 26 := rfl
@[simp] theorem results_58 : fn58.results = [.cell 4 71] := rfl
theorem body_58 : fn58.body = c58 := rfl
@[simp] theorem dyn_58 : fn58.dyn = fun _ => [] := id rfl
@[simp] theorem opn_58 : fn58.opn = fun _ => none := id rfl
@[simp] theorem keep_58_0 : fn58.keep 0 = some [1, 2, 4] := rfl
@[simp] theorem keep_58_1 : fn58.keep 1 = some [2, 4, 5] := rfl
@[simp] theorem keep_58_2 : fn58.keep 2 = some [4] := rfl
@[simp] theorem keep_58_3 : fn58.keep 3 = some [2, 4, 12] := rfl
@[simp] theorem keep_58_4 : fn58.keep 4 = some [4] := rfl
@[simp] theorem keep_58_5 : fn58.keep 5 = some [4, 18] := rfl
@[simp] theorem keep_58_6 : fn58.keep 6 = some [4] := rfl
@[simp] theorem keep_58_7 : fn58.keep 7 = some [4] := rfl
@[simp] theorem ntmps_59 : fn59.ntmps = 34 := rfl
@[simp] theorem results_59 : fn59.results = [.cell 4 71] := rfl
theorem body_59 : fn59.body = c59 := rfl
@[simp] theorem dyn_59 : fn59.dyn = fun _ => [] := id rfl
@[simp] theorem opn_59 : fn59.opn = fun _ => none := id rfl
@[simp] theorem keep_59_0 : fn59.keep 0 = some [1, 2, 4] := rfl
@[simp] theorem keep_59_1 : fn59.keep 1 = some [2, 4, 21] := rfl
@[simp] theorem keep_59_2 : fn59.keep 2 = some [4] := rfl
@[simp] theorem keep_59_3 : fn59.keep 3 = some [2, 4, 26] := rfl
@[simp] theorem keep_59_4 : fn59.keep 4 = some [4] := rfl
@[simp] theorem keep_59_5 : fn59.keep 5 = some [4, 31] := rfl
@[simp] theorem keep_59_6 : fn59.keep 6 = some [4] := rfl
@[simp] theorem keep_59_7 : fn59.keep 7 = some [4] := rfl
@[simp] theorem ntmps_63 : fn63.ntmps = 49 := rfl
@[simp] theorem results_63 : fn63.results = [.tmp 4, .tmp 5] := rfl
theorem body_63 : fn63.body = c63 := rfl
@[simp] theorem dyn_63 : fn63.dyn = fun _ => [] := id rfl
@[simp] theorem opn_63 : fn63.opn = fun _ => none := id rfl
@[simp] theorem keep_63_0 : fn63.keep 0 = some [1, 2] := rfl
@[simp] theorem keep_63_1 : fn63.keep 1 = some [1, 2, 7] := rfl
@[simp] theorem keep_63_2 : fn63.keep 2 = some [1, 2, 7, 19] := rfl
@[simp] theorem keep_63_3 : fn63.keep 3 = some [4, 5] := rfl
@[simp] theorem keep_63_4 : fn63.keep 4 = some [1, 2, 8] := rfl
@[simp] theorem keep_63_5 : fn63.keep 5 = some [2, 8, 21, 22, 23] := rfl
@[simp] theorem keep_63_6 : fn63.keep 6 = some [2, 8, 21, 22, 23, 24] := rfl
@[simp] theorem keep_63_7 : fn63.keep 7 = some [2, 8, 10, 21, 22, 23] := rfl
@[simp] theorem keep_63_8 : fn63.keep 8 = some [2, 8, 10, 11, 12, 21, 22, 23] := rfl
@[simp] theorem keep_63_9 : fn63.keep 9 = some [2, 8, 10, 11, 21, 22, 23, 34] := rfl
@[simp] theorem keep_63_10 : fn63.keep 10 = some [4, 5] := rfl
@[simp] theorem keep_63_11 : fn63.keep 11 = some [2, 8, 11, 21, 22, 23] := rfl
@[simp] theorem keep_63_12 : fn63.keep 12 = some [2, 8, 21, 22, 23] := rfl
@[simp] theorem keep_63_13 : fn63.keep 13 = some [2, 8, 21, 22, 23] := rfl
@[simp] theorem keep_63_14 : fn63.keep 14 = some [4, 5] := rfl
@[simp] theorem head_63_6 : fn63.head 6 = some [2, 8, 21, 22, 23] := rfl
@[simp] theorem ntmps_67 : fn67.ntmps = 17 := rfl
@[simp] theorem results_67 : fn67.results = [.cell 4 71] := rfl
theorem body_67 : fn67.body = c67 := rfl
@[simp] theorem dyn_67 : fn67.dyn = fun _ => [] := id rfl
@[simp] theorem opn_67 : fn67.opn = fun _ => none := id rfl
@[simp] theorem keep_67_0 : fn67.keep 0 = some [0, 1, 4] := rfl
@[simp] theorem keep_67_1 : fn67.keep 1 = some [1, 4, 5] := rfl
@[simp] theorem keep_67_2 : fn67.keep 2 = some [1, 4, 5, 9] := rfl
@[simp] theorem keep_67_3 : fn67.keep 3 = some [4, 5] := rfl
@[simp] theorem keep_67_4 : fn67.keep 4 = some [4] := rfl
@[simp] theorem ntmps_69 : fn69.ntmps = 14 := rfl
@[simp] theorem results_69 : fn69.results = [.tmp 2] := rfl
theorem body_69 : fn69.body = c69 := rfl
@[simp] theorem dyn_69 : fn69.dyn = fun _ => [] := id rfl
@[simp] theorem opn_69 : fn69.opn = fun _ => none := id rfl
@[simp] theorem keep_69_0 : fn69.keep 0 = some [1] := rfl
@[simp] theorem keep_69_1 : fn69.keep 1 = some [1, 3] := rfl
@[simp] theorem keep_69_2 : fn69.keep 2 = some [1, 3, 7] := rfl
@[simp] theorem keep_69_3 : fn69.keep 3 = some [2] := rfl
@[simp] theorem keep_69_4 : fn69.keep 4 = some [2] := rfl
@[simp] theorem ntmps_70 : fn70.ntmps = 44 := rfl
@[simp] theorem results_70 : fn70.results = [.tmp 4] := rfl
theorem body_70 : fn70.body = c70 := rfl
@[simp] theorem dyn_70 : fn70.dyn = fun _ => [] := id rfl
@[simp] theorem opn_70 : fn70.opn = opnT := id rfl
@[simp] theorem keep_70_0 : fn70.keep 0 = some [0, 3] := rfl
@[simp] theorem keep_70_1 : fn70.keep 1 = some [0, 3, 5] := rfl
@[simp] theorem keep_70_2 : fn70.keep 2 = some [0, 3, 5, 7] := rfl
@[simp] theorem keep_70_3 : fn70.keep 3 = some [0, 3] := rfl
@[simp] theorem keep_70_4 : fn70.keep 4 = some [0, 3] := rfl
@[simp] theorem keep_70_5 : fn70.keep 5 = some [0, 33, 34, 35] := rfl
@[simp] theorem keep_70_6 : fn70.keep 6 = some [0, 33, 34, 35, 36] := rfl
@[simp] theorem keep_70_7 : fn70.keep 7 = some [0, 10, 33, 34, 35] := rfl
@[simp] theorem keep_70_8 : fn70.keep 8 = some [0, 33, 34, 35] := rfl
@[simp] theorem keep_70_9 : fn70.keep 9 = some [0, 33, 34, 35] := rfl
@[simp] theorem keep_70_10 : fn70.keep 10 = some [4] := rfl
@[simp] theorem head_70_6 : fn70.head 6 = some [0, 33, 34, 35] := rfl
@[simp] theorem ntmps_71 : fn71.ntmps = 20 := rfl
@[simp] theorem results_71 : fn71.results = [.cell 2 27] := rfl
theorem body_71 : fn71.body = c71 := rfl
@[simp] theorem dyn_71 : fn71.dyn = fun _ => [] := id rfl
@[simp] theorem opn_71 : fn71.opn = fun _ => none := id rfl
@[simp] theorem keep_71_0 : fn71.keep 0 = some [1, 2] := rfl
@[simp] theorem keep_71_1 : fn71.keep 1 = some [2, 3] := rfl
@[simp] theorem keep_71_2 : fn71.keep 2 = some [2, 3, 17] := rfl
@[simp] theorem keep_71_3 : fn71.keep 3 = some [2, 3] := rfl
@[simp] theorem keep_71_4 : fn71.keep 4 = some [2] := rfl
@[simp] theorem ntmps_74 : fn74.ntmps = 38 := rfl
@[simp] theorem results_74 : fn74.results = [.cell 2 30] := rfl
theorem body_74 : fn74.body = c74 := rfl
@[simp] theorem dyn_74 : fn74.dyn = fun _ => [] := id rfl
@[simp] theorem opn_74 : fn74.opn = fun _ => none := id rfl
@[simp] theorem keep_74_0 : fn74.keep 0 = some [1, 2] := rfl
@[simp] theorem keep_74_1 : fn74.keep 1 = some [1, 2, 3] := rfl
@[simp] theorem keep_74_2 : fn74.keep 2 = some [1, 2, 3, 16] := rfl
@[simp] theorem keep_74_3 : fn74.keep 3 = some [1, 2, 3] := rfl
@[simp] theorem keep_74_4 : fn74.keep 4 = some [2, 3, 23, 24, 25] := rfl
@[simp] theorem keep_74_5 : fn74.keep 5 = some [2, 3, 23, 24, 25, 26] := rfl
@[simp] theorem keep_74_6 : fn74.keep 6 = some [2, 3, 4, 5, 23, 24, 25] := rfl
@[simp] theorem keep_74_7 : fn74.keep 7 = some [2, 3, 23, 24, 25] := rfl
@[simp] theorem keep_74_8 : fn74.keep 8 = some [2, 3, 23, 24, 25] := rfl
@[simp] theorem keep_74_9 : fn74.keep 9 = some [2] := rfl
@[simp] theorem head_74_5 : fn74.head 5 = some [2, 3, 23, 24, 25] := rfl
@[simp] theorem ntmps_75 : fn75.ntmps = 13 := rfl
@[simp] theorem results_75 : fn75.results = [.tmp 2, .cell 3 3, .cell 4 3] := rfl
theorem body_75 : fn75.body = c75 := rfl
@[simp] theorem dyn_75_4 : fn75.dyn 4 = [(1, 3)] := id rfl

@[simp] theorem opn_75 : fn75.opn = opnT := id rfl
@[simp] theorem keep_75_0 : fn75.keep 0 = some [1, 3, 4] := rfl
@[simp] theorem keep_75_1 : fn75.keep 1 = some [2, 3, 4] := rfl
@[simp] theorem keep_75_2 : fn75.keep 2 = some [2, 3, 4, 9] := rfl
@[simp] theorem keep_75_3 : fn75.keep 3 = some [2, 3, 4] := rfl
@[simp] theorem keep_75_4 : fn75.keep 4 = some [2, 3, 4] := rfl
@[simp] theorem ntmps_77 : fn77.ntmps = 26 := rfl
@[simp] theorem results_77 : fn77.results = [.tmp 2] := rfl
theorem body_77 : fn77.body = c77 := rfl
@[simp] theorem dyn_77 : fn77.dyn = fun _ => [] := id rfl
@[simp] theorem opn_77 : fn77.opn = fun _ => none := id rfl
@[simp] theorem keep_77_0 : fn77.keep 0 = some [0] := rfl
@[simp] theorem keep_77_1 : fn77.keep 1 = some [0, 5] := rfl
@[simp] theorem keep_77_2 : fn77.keep 2 = some [2] := rfl
@[simp] theorem keep_77_3 : fn77.keep 3 = some [0, 3] := rfl
@[simp] theorem keep_77_4 : fn77.keep 4 = some [0, 3, 10] := rfl
@[simp] theorem keep_77_5 : fn77.keep 5 = some [0, 3] := rfl
@[simp] theorem keep_77_6 : fn77.keep 6 = some [0, 3] := rfl
@[simp] theorem keep_77_7 : fn77.keep 7 = some [2] := rfl
@[simp] theorem head_77_4 : fn77.head 4 = some [0, 3] := rfl
@[simp] theorem ntmps_79 : fn79.ntmps = 8 := rfl
@[simp] theorem results_79 : fn79.results = [.tmp 4] := rfl
theorem body_79 : fn79.body = c79 := rfl
@[simp] theorem dyn_79 : fn79.dyn = fun _ => [] := id rfl
@[simp] theorem opn_79 : fn79.opn = fun _ => none := id rfl
@[simp] theorem keep_79_0 : fn79.keep 0 = some [0, 1] := rfl
@[simp] theorem keep_79_1 : fn79.keep 1 = some [4] := rfl
@[simp] theorem ntmps_80 : fn80.ntmps = 34 := rfl
@[simp] theorem results_80 : fn80.results = [.tmp 2] := rfl
theorem body_80 : fn80.body = c80 := rfl
@[simp] theorem dyn_80 : fn80.dyn = fun _ => [] := id rfl
@[simp] theorem opn_80 : fn80.opn = fun _ => none := id rfl
@[simp] theorem keep_80_0 : fn80.keep 0 = some [1] := rfl
@[simp] theorem keep_80_1 : fn80.keep 1 = some [1, 10] := rfl
@[simp] theorem keep_80_2 : fn80.keep 2 = some [2] := rfl
@[simp] theorem keep_80_3 : fn80.keep 3 = some [33] := rfl
@[simp] theorem keep_80_4 : fn80.keep 4 = some [2] := rfl
@[simp] theorem keep_80_5 : fn80.keep 5 = some [2] := rfl
@[simp] theorem ntmps_81 : fn81.ntmps = 87 := rfl
@[simp] theorem results_81 : fn81.results = [.tmp 6, .tmp 7] := rfl
theorem body_81 : fn81.body = c81 := rfl

@[simp] theorem opn_81 : fn81.opn = fun _ => none := id rfl
@[simp] theorem keep_81_0 : fn81.keep 0 = some [0, 1, 2] := rfl
@[simp] theorem keep_81_1 : fn81.keep 1 = some [0, 1, 2, 8] := rfl
@[simp] theorem keep_81_2 : fn81.keep 2 = some [0, 1, 2, 8, 18] := rfl
@[simp] theorem keep_81_3 : fn81.keep 3 = some [0, 1, 2, 8, 9] := rfl
@[simp] theorem keep_81_4 : fn81.keep 4 = some [0, 1, 2, 8, 9] := rfl
@[simp] theorem keep_81_5 : fn81.keep 5 = some [0, 1, 2, 8, 9, 27] := rfl
@[simp] theorem keep_81_6 : fn81.keep 6 = some [6, 7] := rfl
@[simp] theorem keep_81_7 : fn81.keep 7 = some [0, 1, 2, 8, 9, 10] := rfl
@[simp] theorem keep_81_8 : fn81.keep 8 = some [0, 1, 2, 8, 9, 10, 35] := rfl
@[simp] theorem keep_81_9 : fn81.keep 9 = some [0, 1, 2, 8, 10, 37] := rfl
@[simp] theorem keep_81_10 : fn81.keep 10 = some [0, 1, 2, 8, 10] := rfl
@[simp] theorem keep_81_11 : fn81.keep 11 = some [0, 1, 2, 8, 9, 10, 56] := rfl
@[simp] theorem keep_81_12 : fn81.keep 12 = some [0, 1, 2, 8, 10] := rfl
@[simp] theorem keep_81_13 : fn81.keep 13 = some [0, 1, 2, 8, 9, 10, 68] := rfl
@[simp] theorem keep_81_14 : fn81.keep 14 = some [0, 1, 2, 8, 10] := rfl
@[simp] theorem keep_81_15 : fn81.keep 15 = some [0, 1, 2, 8, 10] := rfl
@[simp] theorem keep_81_16 : fn81.keep 16 = some [0, 1, 2, 8] := rfl
@[simp] theorem keep_81_17 : fn81.keep 17 = some [6, 7] := rfl
@[simp] theorem head_81_2 : fn81.head 2 = some [0, 1, 2, 8] := rfl
@[simp] theorem ntmps_82 : fn82.ntmps = 9 := rfl
@[simp] theorem results_82 : fn82.results = [.cell 4 71] := rfl
theorem body_82 : fn82.body = c82 := rfl
@[simp] theorem dyn_82 : fn82.dyn = fun _ => [] := id rfl
@[simp] theorem opn_82 : fn82.opn = fun _ => none := id rfl
@[simp] theorem keep_82_0 : fn82.keep 0 = some [0, 1, 4] := rfl
@[simp] theorem keep_82_1 : fn82.keep 1 = some [4] := rfl
@[simp] theorem ntmps_83 : fn83.ntmps = 14 := rfl
@[simp] theorem results_83 : fn83.results = [.tmp 4] := rfl
theorem body_83 : fn83.body = c83 := rfl
@[simp] theorem dyn_83 : fn83.dyn = fun _ => [] := id rfl
@[simp] theorem opn_83 : fn83.opn = fun _ => none := id rfl
@[simp] theorem keep_83_0 : fn83.keep 0 = some [2, 3] := rfl
@[simp] theorem keep_83_1 : fn83.keep 1 = some [4] := rfl
@[simp] theorem ntmps_85 : fn85.ntmps = 21 := rfl
@[simp] theorem results_85 : fn85.results = [.cell 4 30, .tmp 5] := rfl
theorem body_85 : fn85.body = c85 := rfl
@[simp] theorem dyn_85 : fn85.dyn = fun _ => [] := id rfl
@[simp] theorem opn_85 : fn85.opn = fun _ => none := id rfl
@[simp] theorem keep_85_0 : fn85.keep 0 = some [1, 2, 4] := rfl
@[simp] theorem keep_85_1 : fn85.keep 1 = some [1, 2, 4, 14] := rfl
@[simp] theorem keep_85_2 : fn85.keep 2 = some [4, 5] := rfl
@[simp] theorem keep_85_3 : fn85.keep 3 = some [4, 5] := rfl
@[simp] theorem ntmps_87 : fn87.ntmps = 24 := rfl
@[simp] theorem results_87 : fn87.results = [.tmp 2] := rfl
theorem body_87 : fn87.body = c87 := rfl
@[simp] theorem dyn_87 : fn87.dyn = fun _ => [] := id rfl
@[simp] theorem opn_87 : fn87.opn = fun _ => none := id rfl
@[simp] theorem keep_87_0 : fn87.keep 0 = some [0, 2] := rfl
@[simp] theorem keep_87_1 : fn87.keep 1 = some [2, 7, 8, 9] := rfl
@[simp] theorem keep_87_2 : fn87.keep 2 = some [2, 7, 8, 9, 10] := rfl
@[simp] theorem keep_87_3 : fn87.keep 3 = some [2, 4, 7, 8, 9] := rfl
@[simp] theorem keep_87_4 : fn87.keep 4 = some [2, 5, 7, 8, 9] := rfl
@[simp] theorem keep_87_5 : fn87.keep 5 = some [2, 7, 8, 9] := rfl
@[simp] theorem keep_87_6 : fn87.keep 6 = some [2, 7, 8, 9] := rfl
@[simp] theorem keep_87_7 : fn87.keep 7 = some [2] := rfl
@[simp] theorem head_87_2 : fn87.head 2 = some [2, 7, 8, 9] := rfl
@[simp] theorem ntmps_89 : fn89.ntmps = 59 := rfl
@[simp] theorem results_89 : fn89.results = [.tmp 2, .tmp 3, .tmp 4] := rfl
theorem body_89 : fn89.body = c89 := rfl
@[simp] theorem dyn_89 : fn89.dyn = fun _ => [] := id rfl
@[simp] theorem opn_89 : fn89.opn = fun _ => none := id rfl
@[simp] theorem keep_89_0 : fn89.keep 0 = some [0] := rfl
@[simp] theorem keep_89_1 : fn89.keep 1 = some [0, 10] := rfl
@[simp] theorem keep_89_2 : fn89.keep 2 = some [2, 3, 4] := rfl
@[simp] theorem keep_89_3 : fn89.keep 3 = some [0, 14] := rfl
@[simp] theorem keep_89_4 : fn89.keep 4 = some [2, 3, 4] := rfl
@[simp] theorem keep_89_5 : fn89.keep 5 = some [0, 5] := rfl
@[simp] theorem keep_89_6 : fn89.keep 6 = some [0, 5, 29] := rfl
@[simp] theorem keep_89_7 : fn89.keep 7 = some [2, 3, 4] := rfl
@[simp] theorem keep_89_8 : fn89.keep 8 = some [0, 5, 34] := rfl
@[simp] theorem keep_89_9 : fn89.keep 9 = some [2, 3, 4] := rfl
@[simp] theorem keep_89_10 : fn89.keep 10 = some [0, 5, 6] := rfl
@[simp] theorem keep_89_11 : fn89.keep 11 = some [0, 5, 6, 7] := rfl
@[simp] theorem keep_89_12 : fn89.keep 12 = some [0, 5, 6, 7, 37] := rfl
@[simp] theorem keep_89_13 : fn89.keep 13 = some [0, 5, 6, 7] := rfl
@[simp] theorem keep_89_14 : fn89.keep 14 = some [0, 5, 6, 7] := rfl
@[simp] theorem keep_89_15 : fn89.keep 15 = some [5, 6, 55] := rfl
@[simp] theorem keep_89_16 : fn89.keep 16 = some [2, 3, 4] := rfl
@[simp] theorem keep_89_17 : fn89.keep 17 = some [2, 3, 4] := rfl
@[simp] theorem head_89_12 : fn89.head 12 = some [0, 5, 6, 7] := rfl
@[simp] theorem ntmps_90 : fn90.ntmps = 27 := rfl
@[simp] theorem results_90 : fn90.results = [.tmp 2] := rfl
theorem body_90 : fn90.body = c90 := rfl
@[simp] theorem dyn_90 : fn90.dyn = fun _ => [] := id rfl
@[simp] theorem opn_90 : fn90.opn = fun _ => none := id rfl
@[simp] theorem keep_90_0 : fn90.keep 0 = some [1] := rfl
@[simp] theorem keep_90_1 : fn90.keep 1 = some [1, 9] := rfl
@[simp] theorem keep_90_2 : fn90.keep 2 = some [2] := rfl
@[simp] theorem keep_90_3 : fn90.keep 3 = some [1, 3] := rfl
@[simp] theorem keep_90_4 : fn90.keep 4 = some [3, 14, 15, 16] := rfl
@[simp] theorem keep_90_5 : fn90.keep 5 = some [3, 14, 15, 16, 17] := rfl
@[simp] theorem keep_90_6 : fn90.keep 6 = some [3, 5, 14, 15, 16] := rfl
@[simp] theorem keep_90_7 : fn90.keep 7 = some [3, 14, 15, 16] := rfl
@[simp] theorem keep_90_8 : fn90.keep 8 = some [3, 14, 15, 16] := rfl
@[simp] theorem keep_90_9 : fn90.keep 9 = some [2] := rfl
@[simp] theorem head_90_5 : fn90.head 5 = some [3, 14, 15, 16] := rfl
@[simp] theorem ntmps_91 : fn91.ntmps = 22 := rfl
@[simp] theorem results_91 : fn91.results = [.tmp 4] := rfl
theorem body_91 : fn91.body = c91 := rfl
@[simp] theorem dyn_91 : fn91.dyn = fun _ => [] := id rfl
@[simp] theorem opn_91 : fn91.opn = fun _ => none := id rfl
@[simp] theorem keep_91_0 : fn91.keep 0 = some [0, 1] := rfl
@[simp] theorem keep_91_1 : fn91.keep 1 = some [0, 1, 15] := rfl
@[simp] theorem keep_91_2 : fn91.keep 2 = some [4] := rfl
@[simp] theorem keep_91_3 : fn91.keep 3 = some [4] := rfl
@[simp] theorem ntmps_92 : fn92.ntmps = 12 := rfl
@[simp] theorem results_92 : fn92.results = [.tmp 2] := rfl
theorem body_92 : fn92.body = c92 := rfl
@[simp] theorem dyn_92 : fn92.dyn = fun _ => [] := id rfl
@[simp] theorem opn_92 : fn92.opn = fun _ => none := id rfl
@[simp] theorem keep_92_0 : fn92.keep 0 = some [1] := rfl
@[simp] theorem keep_92_1 : fn92.keep 1 = some [3] := rfl
@[simp] theorem keep_92_2 : fn92.keep 2 = some [2] := rfl
@[simp] theorem ntmps_93 : fn93.ntmps = 42 := rfl
@[simp] theorem results_93 : fn93.results = [.tmp 2, .tmp 3] := rfl
theorem body_93 : fn93.body = c93 := rfl
@[simp] theorem dyn_93 : fn93.dyn = fun _ => [] := id rfl
@[simp] theorem opn_93 : fn93.opn = fun _ => none := id rfl
@[simp] theorem keep_93_0 : fn93.keep 0 = some [1, 35] := rfl
@[simp] theorem keep_93_1 : fn93.keep 1 = some [1, 4, 35] := rfl
@[simp] theorem keep_93_2 : fn93.keep 2 = some [1, 4, 11, 35] := rfl
@[simp] theorem keep_93_3 : fn93.keep 3 = some [2, 3] := rfl
@[simp] theorem keep_93_4 : fn93.keep 4 = some [1, 5, 35] := rfl
@[simp] theorem keep_93_5 : fn93.keep 5 = some [1, 5, 17, 35] := rfl
@[simp] theorem keep_93_6 : fn93.keep 6 = some [1, 5, 35] := rfl
@[simp] theorem keep_93_7 : fn93.keep 7 = some [1, 5, 22, 35] := rfl
@[simp] theorem keep_93_8 : fn93.keep 8 = some [2, 3] := rfl
@[simp] theorem keep_93_9 : fn93.keep 9 = some [1, 6, 35] := rfl
@[simp] theorem keep_93_10 : fn93.keep 10 = some [6, 34, 35] := rfl
@[simp] theorem keep_93_11 : fn93.keep 11 = some [6, 7, 35] := rfl
@[simp] theorem keep_93_12 : fn93.keep 12 = some [6, 35] := rfl
@[simp] theorem keep_93_13 : fn93.keep 13 = some [2, 3] := rfl
@[simp] theorem ntmps_94 : fn94.ntmps = 50 := rfl
@[simp] theorem results_94 : fn94.results = [.tmp 2, .tmp 3] := rfl
theorem body_94 : fn94.body = c94 := rfl
@[simp] theorem dyn_94 : fn94.dyn = fun _ => [] := id rfl
@[simp] theorem opn_94 : fn94.opn = fun _ => none := id rfl
@[simp] theorem keep_94_0 : fn94.keep 0 = some [0] := rfl
@[simp] theorem keep_94_1 : fn94.keep 1 = some [0, 5] := rfl
@[simp] theorem keep_94_2 : fn94.keep 2 = some [2, 3] := rfl
@[simp] theorem keep_94_3 : fn94.keep 3 = some [0, 8] := rfl
@[simp] theorem keep_94_4 : fn94.keep 4 = some [2, 3] := rfl
@[simp] theorem keep_94_5 : fn94.keep 5 = some [0, 11] := rfl
@[simp] theorem keep_94_6 : fn94.keep 6 = some [2, 3] := rfl
@[simp] theorem keep_94_7 : fn94.keep 7 = some [0, 4] := rfl
@[simp] theorem keep_94_8 : fn94.keep 8 = some [0, 4, 18] := rfl
@[simp] theorem keep_94_9 : fn94.keep 9 = some [0, 4, 21] := rfl
@[simp] theorem keep_94_10 : fn94.keep 10 = some [0, 4] := rfl
@[simp] theorem keep_94_11 : fn94.keep 11 = some [0, 4] := rfl
@[simp] theorem keep_94_12 : fn94.keep 12 = some [4] := rfl
@[simp] theorem keep_94_13 : fn94.keep 13 = some [4] := rfl
@[simp] theorem keep_94_14 : fn94.keep 14 = some [2, 3] := rfl
@[simp] theorem ntmps_96 : fn96.ntmps = 65 := rfl
@[simp] theorem results_96 : fn96.results = [.tmp 2, .tmp 3, .tmp 4] := rfl
theorem body_96 : fn96.body = c96 := rfl
@[simp] theorem dyn_96 : fn96.dyn = fun _ => [] := id rfl
@[simp] theorem opn_96 : fn96.opn = fun _ => none := id rfl
@[simp] theorem keep_96_0 : fn96.keep 0 = some [0] := rfl
@[simp] theorem keep_96_1 : fn96.keep 1 = some [0, 9] := rfl
@[simp] theorem keep_96_2 : fn96.keep 2 = some [2, 3, 4] := rfl
@[simp] theorem keep_96_3 : fn96.keep 3 = some [0, 13] := rfl
@[simp] theorem keep_96_4 : fn96.keep 4 = some [2, 3, 4] := rfl
@[simp] theorem keep_96_5 : fn96.keep 5 = some [0, 5] := rfl
@[simp] theorem keep_96_6 : fn96.keep 6 = some [0, 5, 6] := rfl
@[simp] theorem keep_96_7 : fn96.keep 7 = some [0, 5, 6, 23] := rfl
@[simp] theorem keep_96_8 : fn96.keep 8 = some [2, 3, 4] := rfl
@[simp] theorem keep_96_9 : fn96.keep 9 = some [0, 5, 6, 30] := rfl
@[simp] theorem keep_96_10 : fn96.keep 10 = some [2, 3, 4] := rfl
@[simp] theorem keep_96_11 : fn96.keep 11 = some [0, 5, 6] := rfl
@[simp] theorem keep_96_12 : fn96.keep 12 = some [0, 2, 6] := rfl
@[simp] theorem keep_96_13 : fn96.keep 13 = some [2, 6, 61] := rfl
@[simp] theorem keep_96_14 : fn96.keep 14 = some [2, 3, 4] := rfl
@[simp] theorem keep_96_15 : fn96.keep 15 = some [2, 3, 4] := rfl
@[simp] theorem ntmps_97 : fn97.ntmps = 9 := rfl
@[simp] theorem results_97 : fn97.results = [.tmp 2] := rfl
theorem body_97 : fn97.body = c97 := rfl
@[simp] theorem dyn_97 : fn97.dyn = fun _ => [] := id rfl
@[simp] theorem opn_97 : fn97.opn = fun _ => none := id rfl
@[simp] theorem keep_97_0 : fn97.keep 0 = some [0] := rfl
@[simp] theorem keep_97_1 : fn97.keep 1 = some [2] := rfl
@[simp] theorem ntmps_98 : fn98.ntmps = 8 := rfl
@[simp] theorem results_98 : fn98.results = [.tmp 2] := rfl
theorem body_98 : fn98.body = c98 := rfl
@[simp] theorem dyn_98 : fn98.dyn = fun _ => [] := id rfl
@[simp] theorem opn_98 : fn98.opn = fun _ => none := id rfl
@[simp] theorem keep_98_0 : fn98.keep 0 = some [0] := rfl
@[simp] theorem keep_98_1 : fn98.keep 1 = some [0, 4] := rfl
@[simp] theorem keep_98_2 : fn98.keep 2 = some [2] := rfl
@[simp] theorem keep_98_3 : fn98.keep 3 = some [2] := rfl
@[simp] theorem ntmps_100 : fn100.ntmps = 10 := rfl
@[simp] theorem results_100 : fn100.results = [.tmp 4] := rfl
theorem body_100 : fn100.body = c100 := rfl
@[simp] theorem dyn_100 : fn100.dyn = fun _ => [] := id rfl
@[simp] theorem opn_100 : fn100.opn = opnT := id rfl
@[simp] theorem keep_100_0 : fn100.keep 0 = some [2, 3] := rfl
@[simp] theorem keep_100_1 : fn100.keep 1 = some [2, 3, 5] := rfl
@[simp] theorem keep_100_2 : fn100.keep 2 = some [2, 5] := rfl
@[simp] theorem keep_100_3 : fn100.keep 3 = some [4] := rfl
@[simp] theorem ntmps_101 : fn101.ntmps = 47 := rfl
@[simp] theorem results_101 : fn101.results = [.tmp 6] := rfl
theorem body_101 : fn101.body = c101 := rfl
@[simp] theorem dyn_101 : fn101.dyn = fun _ => [] := id rfl
@[simp] theorem opn_101 : fn101.opn = fun _ => none := id rfl
@[simp] theorem keep_101_0 : fn101.keep 0 = some [1, 2, 3, 4] := rfl
@[simp] theorem keep_101_1 : fn101.keep 1 = some [1, 2, 3, 4, 7] := rfl
@[simp] theorem keep_101_2 : fn101.keep 2 = some [1, 2, 3, 4, 7, 12] := rfl
@[simp] theorem keep_101_3 : fn101.keep 3 = some [6] := rfl
@[simp] theorem keep_101_4 : fn101.keep 4 = some [1, 2, 3, 14] := rfl
@[simp] theorem keep_101_5 : fn101.keep 5 = some [6] := rfl
@[simp] theorem keep_101_6 : fn101.keep 6 = some [1, 2, 3, 36] := rfl
@[simp] theorem keep_101_7 : fn101.keep 7 = some [6] := rfl
@[simp] theorem keep_101_8 : fn101.keep 8 = some [1, 2, 3, 39] := rfl
@[simp] theorem keep_101_9 : fn101.keep 9 = some [6] := rfl
@[simp] theorem keep_101_10 : fn101.keep 10 = some [1, 3] := rfl
@[simp] theorem keep_101_11 : fn101.keep 11 = some [] := rfl
@[simp] theorem keep_101_12 : fn101.keep 12 = some [6] := rfl
@[simp] theorem ntmps_102 : fn102.ntmps = 24 := rfl
@[simp] theorem results_102 : fn102.results = [.tmp 2] := rfl
theorem body_102 : fn102.body = c102 := rfl
@[simp] theorem dyn_102 : fn102.dyn = fun _ => [] := id rfl
@[simp] theorem opn_102 : fn102.opn = fun _ => none := id rfl
@[simp] theorem keep_102_0 : fn102.keep 0 = some [1] := rfl
@[simp] theorem keep_102_1 : fn102.keep 1 = some [1, 10] := rfl
@[simp] theorem keep_102_2 : fn102.keep 2 = some [2] := rfl
@[simp] theorem keep_102_3 : fn102.keep 3 = some [1, 13] := rfl
@[simp] theorem keep_102_4 : fn102.keep 4 = some [2] := rfl
@[simp] theorem keep_102_5 : fn102.keep 5 = some [1, 15] := rfl
@[simp] theorem keep_102_6 : fn102.keep 6 = some [1, 15, 16] := rfl
@[simp] theorem keep_102_7 : fn102.keep 7 = some [2] := rfl
@[simp] theorem keep_102_8 : fn102.keep 8 = some [1, 15, 18] := rfl
@[simp] theorem keep_102_9 : fn102.keep 9 = some [1, 18] := rfl
@[simp] theorem keep_102_10 : fn102.keep 10 = some [23] := rfl
@[simp] theorem keep_102_11 : fn102.keep 11 = some [2] := rfl
@[simp] theorem keep_102_12 : fn102.keep 12 = some [2] := rfl
@[simp] theorem ntmps_107 : fn107.ntmps = 9 := rfl
@[simp] theorem results_107 : fn107.results = [.tmp 2] := rfl
theorem body_107 : fn107.body = c107 := rfl
@[simp] theorem dyn_107 : fn107.dyn = fun _ => [] := id rfl
@[simp] theorem opn_107 : fn107.opn = fun _ => none := id rfl
@[simp] theorem keep_107_0 : fn107.keep 0 = some [0] := rfl
@[simp] theorem keep_107_1 : fn107.keep 1 = some [2] := rfl
@[simp] theorem ntmps_110 : fn110.ntmps = 12 := rfl
@[simp] theorem results_110 : fn110.results = [.tmp 2] := rfl
theorem body_110 : fn110.body = c110 := rfl
@[simp] theorem dyn_110 : fn110.dyn = fun _ => [] := id rfl
@[simp] theorem opn_110 : fn110.opn = fun _ => none := id rfl
@[simp] theorem keep_110_0 : fn110.keep 0 = some [0] := rfl
@[simp] theorem keep_110_1 : fn110.keep 1 = some [3] := rfl
@[simp] theorem keep_110_2 : fn110.keep 2 = some [2] := rfl
@[simp] theorem ntmps_111 : fn111.ntmps = 4 := rfl
@[simp] theorem results_111 : fn111.results = [.tmp 2] := rfl
theorem body_111 : fn111.body = c111 := rfl
@[simp] theorem dyn_111 : fn111.dyn = fun _ => [] := id rfl
@[simp] theorem opn_111 : fn111.opn = fun _ => none := id rfl
@[simp] theorem keep_111_0 : fn111.keep 0 = some [1] := rfl
@[simp] theorem keep_111_1 : fn111.keep 1 = some [2] := rfl
@[simp] theorem ntmps_113 : fn113.ntmps = 34 := rfl
@[simp] theorem results_113 : fn113.results = [.tmp 6] := rfl
theorem body_113 : fn113.body = c113 := rfl
@[simp] theorem dyn_113 : fn113.dyn = fun _ => [] := id rfl
@[simp] theorem opn_113 : fn113.opn = opnT := id rfl
@[simp] theorem keep_113_0 : fn113.keep 0 = some [1, 2, 3, 4] := rfl
@[simp] theorem keep_113_1 : fn113.keep 1 = some [1, 3, 4, 7] := rfl
@[simp] theorem keep_113_2 : fn113.keep 2 = some [1, 3, 4, 7, 16] := rfl
@[simp] theorem keep_113_3 : fn113.keep 3 = some [6] := rfl
@[simp] theorem keep_113_4 : fn113.keep 4 = some [1, 3, 19, 20, 21] := rfl
@[simp] theorem keep_113_5 : fn113.keep 5 = some [1, 3, 19, 20, 21, 22] := rfl
@[simp] theorem keep_113_6 : fn113.keep 6 = some [1, 3, 9, 19, 20, 21] := rfl
@[simp] theorem keep_113_7 : fn113.keep 7 = some [1, 3, 10, 19, 20, 21] := rfl
@[simp] theorem keep_113_8 : fn113.keep 8 = some [1, 3, 10, 19, 20, 21, 31] := rfl
@[simp] theorem keep_113_9 : fn113.keep 9 = some [6] := rfl
@[simp] theorem keep_113_10 : fn113.keep 10 = some [1, 3, 19, 20, 21] := rfl
@[simp] theorem keep_113_11 : fn113.keep 11 = some [6] := rfl
@[simp] theorem head_113_5 : fn113.head 5 = some [1, 3, 19, 20, 21] := rfl
@[simp] theorem ntmps_114 : fn114.ntmps = 29 := rfl
@[simp] theorem results_114 : fn114.results = [] := rfl
theorem body_114 : fn114.body = c114 := rfl
@[simp] theorem dyn_114 : fn114.dyn = fun _ => [] := id rfl
@[simp] theorem opn_114 : fn114.opn = opnT := id rfl
@[simp] theorem keep_114_0 : fn114.keep 0 = some [0, 1, 3] := rfl
@[simp] theorem keep_114_1 : fn114.keep 1 = some [0, 1, 3, 9] := rfl
@[simp] theorem keep_114_2 : fn114.keep 2 = some [0, 1, 3] := rfl
@[simp] theorem keep_114_3 : fn114.keep 3 = some [0, 1, 3, 13] := rfl
@[simp] theorem keep_114_4 : fn114.keep 4 = some [0, 1, 3] := rfl
@[simp] theorem keep_114_5 : fn114.keep 5 = some [0, 1, 3, 4] := rfl
@[simp] theorem keep_114_6 : fn114.keep 6 = some [0, 1, 3, 4, 22] := rfl
@[simp] theorem keep_114_7 : fn114.keep 7 = some [0, 1, 3, 4] := rfl
@[simp] theorem keep_114_8 : fn114.keep 8 = some [0, 1, 3, 28] := rfl
@[simp] theorem head_114_1 : fn114.head 1 = some [0, 1, 3] := rfl
@[simp] theorem head_114_3 : fn114.head 3 = some [0, 1, 3] := rfl
@[simp] theorem E_fn10 : E.fn 10 = some fn10 := rfl
@[simp] theorem E_grd10 : E.grd 10 = none := id rfl
@[simp] theorem opnT_10 : opnT 10 = none := id rfl
@[simp] theorem E_fn11 : E.fn 11 = some fn11 := rfl
@[simp] theorem E_grd11 : E.grd 11 = none := id rfl
@[simp] theorem opnT_11 : opnT 11 = none := id rfl
@[simp] theorem E_fn13 : E.fn 13 = some fn13 := rfl
@[simp] theorem E_grd13 : E.grd 13 = none := id rfl
@[simp] theorem opnT_13 : opnT 13 = none := id rfl
@[simp] theorem E_fn14 : E.fn 14 = some fn14 := rfl
@[simp] theorem E_grd14 : E.grd 14 = none := id rfl
@[simp] theorem opnT_14 : opnT 14 = none := id rfl
@[simp] theorem E_fn21 : E.fn 21 = some fn21 := rfl
@[simp] theorem E_grd21 : E.grd 21 = none := id rfl
@[simp] theorem opnT_21 : opnT 21 = none := id rfl
@[simp] theorem E_fn25 : E.fn 25 = some fn25 := rfl
@[simp] theorem E_grd25 : E.grd 25 = none := id rfl
@[simp] theorem opnT_25 : opnT 25 = none := id rfl
@[simp] theorem E_fn32 : E.fn 32 = some fn32 := rfl
@[simp] theorem E_grd32 : E.grd 32 = none := id rfl
@[simp] theorem opnT_32 : opnT 32 = none := id rfl
@[simp] theorem E_fn37 : E.fn 37 = some fn37 := rfl
@[simp] theorem E_grd37 : E.grd 37 = none := id rfl
@[simp] theorem opnT_37 : opnT 37 = none := id rfl
@[simp] theorem E_fn42 : E.fn 42 = some fn42 := rfl
@[simp] theorem E_grd42 : E.grd 42 = none := id rfl
@[simp] theorem opnT_42 : opnT 42 = none := id rfl
@[simp] theorem E_fn43 : E.fn 43 = some fn43 := rfl
@[simp] theorem E_grd43 : E.grd 43 = none := id rfl
@[simp] theorem opnT_43 : opnT 43 = none := id rfl
@[simp] theorem E_fn44 : E.fn 44 = some fn44 := rfl
@[simp] theorem E_grd44 : E.grd 44 = none := id rfl
@[simp] theorem opnT_44 : opnT 44 = none := id rfl
@[simp] theorem E_fn45 : E.fn 45 = some fn45 := rfl
@[simp] theorem E_grd45 : E.grd 45 = none := id rfl
@[simp] theorem opnT_45 : opnT 45 = none := id rfl
@[simp] theorem E_fn46 : E.fn 46 = some fn46 := rfl
@[simp] theorem E_grd46 : E.grd 46 = none := id rfl
@[simp] theorem opnT_46 : opnT 46 = none := id rfl
@[simp] theorem E_fn47 : E.fn 47 = some fn47 := rfl
@[simp] theorem E_grd47 : E.grd 47 = none := id rfl
@[simp] theorem opnT_47 : opnT 47 = none := id rfl
@[simp] theorem E_fn48 : E.fn 48 = some fn48 := rfl
@[simp] theorem E_grd48 : E.grd 48 = none := id rfl
@[simp] theorem opnT_48 : opnT 48 = none := id rfl
@[simp] theorem E_fn49 : E.fn 49 = some fn49 := rfl
@[simp] theorem E_grd49 : E.grd 49 = none := id rfl
@[simp] theorem opnT_49 : opnT 49 = none := id rfl
@[simp] theorem E_fn50 : E.fn 50 = some fn50 := rfl
@[simp] theorem E_grd50 : E.grd 50 = none := id rfl
@[simp] theorem opnT_50 : opnT 50 = none := id rfl
@[simp] theorem E_fn51 : E.fn 51 = some fn51 := rfl
@[simp] theorem E_grd51 : E.grd 51 = none := id rfl
@[simp] theorem opnT_51 : opnT 51 = none := id rfl
@[simp] theorem E_fn53 : E.fn 53 = some fn53 := rfl
@[simp] theorem E_grd53 : E.grd 53 = none := id rfl
@[simp] theorem opnT_53 : opnT 53 = none := id rfl
@[simp] theorem E_fn54 : E.fn 54 = some fn54 := rfl
@[simp] theorem E_grd54 : E.grd 54 = none := id rfl
@[simp] theorem opnT_54 : opnT 54 = none := id rfl
@[simp] theorem E_fn55 : E.fn 55 = some fn55 := rfl
@[simp] theorem E_grd55 : E.grd 55 = none := id rfl
@[simp] theorem opnT_55 : opnT 55 = none := id rfl
@[simp] theorem E_fn56 : E.fn 56 = some fn56 := rfl
@[simp] theorem E_grd56 : E.grd 56 = none := id rfl
@[simp] theorem opnT_56 : opnT 56 = none := id rfl
@[simp] theorem E_fn57 : E.fn 57 = some fn57 := rfl
@[simp] theorem E_grd57 : E.grd 57 = none := id rfl
@[simp] theorem opnT_57 : opnT 57 = none := id rfl
@[simp] theorem E_fn58 : E.fn 58 = some fn58 := rfl
@[simp] theorem E_grd58 : E.grd 58 = none := id rfl
@[simp] theorem opnT_58 : opnT 58 = none := id rfl
@[simp] theorem E_fn59 : E.fn 59 = some fn59 := rfl
@[simp] theorem E_grd59 : E.grd 59 = none := id rfl
@[simp] theorem opnT_59 : opnT 59 = none := id rfl
@[simp] theorem E_fn63 : E.fn 63 = some fn63 := rfl
@[simp] theorem E_grd63 : E.grd 63 = none := id rfl
@[simp] theorem opnT_63 : opnT 63 = none := id rfl
@[simp] theorem E_fn67 : E.fn 67 = some fn67 := rfl
@[simp] theorem E_grd67 : E.grd 67 = none := id rfl
@[simp] theorem opnT_67 : opnT 67 = none := id rfl
@[simp] theorem E_fn69 : E.fn 69 = some fn69 := rfl
@[simp] theorem E_grd69 : E.grd 69 = none := id rfl
@[simp] theorem opnT_69 : opnT 69 = none := id rfl
@[simp] theorem E_fn70 : E.fn 70 = some fn70 := rfl
@[simp] theorem E_grd70 : E.grd 70 = none := id rfl
@[simp] theorem opnT_70 : opnT 70 = some ([true, false], false) := id rfl
@[simp] theorem E_fn71 : E.fn 71 = some fn71 := rfl
@[simp] theorem E_grd71 : E.grd 71 = none := id rfl
@[simp] theorem opnT_71 : opnT 71 = none := id rfl
@[simp] theorem E_fn74 : E.fn 74 = some fn74 := rfl
@[simp] theorem E_grd74 : E.grd 74 = none := id rfl
@[simp] theorem opnT_74 : opnT 74 = none := id rfl
@[simp] theorem E_fn75 : E.fn 75 = some fn75 := rfl
@[simp] theorem E_grd75 : E.grd 75 = none := id rfl
@[simp] theorem opnT_75 : opnT 75 = none := id rfl
@[simp] theorem E_fn77 : E.fn 77 = some fn77 := rfl
@[simp] theorem E_grd77 : E.grd 77 = none := id rfl
@[simp] theorem opnT_77 : opnT 77 = none := id rfl
@[simp] theorem E_fn79 : E.fn 79 = some fn79 := rfl
@[simp] theorem E_grd79 : E.grd 79 = none := id rfl
@[simp] theorem opnT_79 : opnT 79 = none := id rfl
@[simp] theorem E_fn80 : E.fn 80 = some fn80 := rfl
@[simp] theorem E_grd80 : E.grd 80 = none := id rfl
@[simp] theorem opnT_80 : opnT 80 = none := id rfl
@[simp] theorem E_fn81 : E.fn 81 = some fn81 := rfl
@[simp] theorem E_grd81 : E.grd 81 = none := id rfl
@[simp] theorem opnT_81 : opnT 81 = none := id rfl
@[simp] theorem E_fn82 : E.fn 82 = some fn82 := rfl
@[simp] theorem E_grd82 : E.grd 82 = none := id rfl
@[simp] theorem opnT_82 : opnT 82 = none := id rfl
@[simp] theorem E_fn83 : E.fn 83 = some fn83 := rfl
@[simp] theorem E_grd83 : E.grd 83 = none := id rfl
@[simp] theorem opnT_83 : opnT 83 = none := id rfl
@[simp] theorem E_fn85 : E.fn 85 = some fn85 := rfl
@[simp] theorem E_grd85 : E.grd 85 = none := id rfl
@[simp] theorem opnT_85 : opnT 85 = none := id rfl
@[simp] theorem E_fn87 : E.fn 87 = some fn87 := rfl
@[simp] theorem E_grd87 : E.grd 87 = none := id rfl
@[simp] theorem opnT_87 : opnT 87 = none := id rfl
@[simp] theorem E_fn89 : E.fn 89 = some fn89 := rfl
@[simp] theorem E_grd89 : E.grd 89 = none := id rfl
@[simp] theorem opnT_89 : opnT 89 = none := id rfl
@[simp] theorem E_fn90 : E.fn 90 = some fn90 := rfl
@[simp] theorem E_grd90 : E.grd 90 = none := id rfl
@[simp] theorem opnT_90 : opnT 90 = none := id rfl
@[simp] theorem E_fn91 : E.fn 91 = some fn91 := rfl
@[simp] theorem E_grd91 : E.grd 91 = none := id rfl
@[simp] theorem opnT_91 : opnT 91 = none := id rfl
@[simp] theorem E_fn92 : E.fn 92 = some fn92 := rfl
@[simp] theorem E_grd92 : E.grd 92 = none := id rfl
@[simp] theorem opnT_92 : opnT 92 = none := id rfl
@[simp] theorem E_fn93 : E.fn 93 = some fn93 := rfl
@[simp] theorem E_grd93 : E.grd 93 = none := id rfl
@[simp] theorem opnT_93 : opnT 93 = none := id rfl
@[simp] theorem E_fn94 : E.fn 94 = some fn94 := rfl
@[simp] theorem E_grd94 : E.grd 94 = none := id rfl
@[simp] theorem opnT_94 : opnT 94 = none := id rfl
@[simp] theorem E_fn96 : E.fn 96 = some fn96 := rfl
@[simp] theorem E_grd96 : E.grd 96 = none := id rfl
@[simp] theorem opnT_96 : opnT 96 = none := id rfl
@[simp] theorem E_fn97 : E.fn 97 = some fn97 := rfl
@[simp] theorem E_grd97 : E.grd 97 = none := id rfl
@[simp] theorem opnT_97 : opnT 97 = none := id rfl
@[simp] theorem E_fn98 : E.fn 98 = some fn98 := rfl
@[simp] theorem E_grd98 : E.grd 98 = none := id rfl
@[simp] theorem opnT_98 : opnT 98 = none := id rfl
@[simp] theorem E_fn100 : E.fn 100 = some fn100 := rfl
@[simp] theorem E_grd100 : E.grd 100 = none := id rfl
@[simp] theorem opnT_100 : opnT 100 = some ([false, true], true) := id rfl
@[simp] theorem E_fn101 : E.fn 101 = some fn101 := rfl
@[simp] theorem E_grd101 : E.grd 101 = none := id rfl
@[simp] theorem opnT_101 : opnT 101 = some ([false, false, true, true], true) := id rfl
@[simp] theorem E_fn102 : E.fn 102 = some fn102 := rfl
@[simp] theorem E_grd102 : E.grd 102 = none := id rfl
@[simp] theorem opnT_102 : opnT 102 = none := id rfl
@[simp] theorem E_fn107 : E.fn 107 = some fn107 := rfl
@[simp] theorem E_grd107 : E.grd 107 = none := id rfl
@[simp] theorem opnT_107 : opnT 107 = none := id rfl
@[simp] theorem E_fn110 : E.fn 110 = some fn110 := rfl
@[simp] theorem E_grd110 : E.grd 110 = none := id rfl
@[simp] theorem opnT_110 : opnT 110 = none := id rfl
@[simp] theorem E_fn111 : E.fn 111 = some fn111 := rfl
@[simp] theorem E_grd111 : E.grd 111 = none := id rfl
@[simp] theorem opnT_111 : opnT 111 = none := id rfl
@[simp] theorem E_fn113 : E.fn 113 = some fn113 := rfl
@[simp] theorem E_grd113 : E.grd 113 = none := id rfl
@[simp] theorem opnT_113 : opnT 113 = some ([false, false, true, true], true) := id rfl
@[simp] theorem E_fn114 : E.fn 114 = some fn114 := rfl
@[simp] theorem E_grd114 : E.grd 114 = none := id rfl
@[simp] theorem opnT_114 : opnT 114 = some ([true, true], true) := id rfl
@[simp] theorem E_ty1 : E.ty 1 = some ⟨.func, 1, 8, [.nilf], false⟩ := rfl
@[simp] theorem E_ty2 : E.ty 2 = some ⟨.int .i64, 1, 8, [.int .i64 0], false⟩ := rfl
@[simp] theorem E_ty3 : E.ty 3 = some ⟨.int .i64, 1, 8, [.int .i64 0], false⟩ := rfl
@[simp] theorem E_ty4 : E.ty 4 = some ⟨.bool, 1, 1, [.bool false], false⟩ := rfl
@[simp] theorem E_ty5 : E.ty 5 = some ⟨.int .u8, 1, 1, [.int .u8 0], false⟩ := rfl
@[simp] theorem E_ty6 : E.ty 6 = some ⟨.int .u8, 1, 1, [.int .u8 0], false⟩ := rfl
@[simp] theorem E_ty7 : E.ty 7 = some ⟨.strct [(0, 2), (1, 3), (2, 4), (3, 6)], 4, 24, [.int .i64 0, .int .i64 0, .bool false, .int .u8 0], false⟩ := rfl
@[simp] theorem E_ty8 : E.ty 8 = some ⟨.strct [(0, 2), (1, 3), (2, 4), (3, 6)], 4, 24, [.int .i64 0, .int .i64 0, .bool false, .int .u8 0], false⟩ := rfl
@[simp] theorem E_ty9 : E.ty 9 = some ⟨.str, 1, 16, [.str []], false⟩ := rfl
@[simp] theorem E_ty10 : E.ty 10 = some ⟨.str, 1, 16, [.str []], false⟩ := rfl
@[simp] theorem E_ty11 : E.ty 11 = some ⟨.str, 1, 16, [.str []], false⟩ := rfl
@[simp] theorem E_ty12 : E.ty 12 = some ⟨.int .u64, 1, 8, [.int .u64 0], false⟩ := rfl
@[simp] theorem E_ty13 : E.ty 13 = some ⟨.strct [(0, 9), (1, 12)], 2, 24, [.str [], .int .u64 0], false⟩ := rfl
@[simp] theorem E_ty14 : E.ty 14 = some ⟨.strct [(0, 9), (1, 12)], 2, 24, [.str [], .int .u64 0], false⟩ := rfl
@[simp] theorem E_ty15 : E.ty 15 = some ⟨.ptr 162, 1, 8, [.nilp], false⟩ := rfl
@[simp] theorem E_ty16 : E.ty 16 = some ⟨.ptr 165, 1, 8, [.nilp], false⟩ := rfl
@[simp] theorem E_ty17 : E.ty 17 = some ⟨.ptr 174, 1, 8, [.nilp], false⟩ := rfl
@[simp] theorem E_ty18 : E.ty 18 = some ⟨.strct [(0, 17)], 1, 8, [.nilp], false⟩ := rfl
@[simp] theorem E_ty19 : E.ty 19 = some ⟨.strct [(0, 17)], 1, 8, [.nilp], false⟩ := rfl
@[simp] theorem E_ty20 : E.ty 20 = some ⟨.iface true, 1, 16, [.nili], false⟩ := rfl
@[simp] theorem E_ty21 : E.ty 21 = some ⟨.int .i32, 1, 4, [.int .i32 0], false⟩ := rfl
@[simp] theorem E_ty22 : E.ty 22 = some ⟨.slice 5, 1, 24, [.sl true [] (some 0)], false⟩ := rfl
@[simp] theorem E_ty23 : E.ty 23 = some ⟨.func, 1, 8, [.nilf], false⟩ := rfl
@[simp] theorem E_ty24 : E.ty 24 = some ⟨.int .u8, 1, 1, [.int .u8 0], false⟩ := rfl
@[simp] theorem E_ty25 : E.ty 25 = some ⟨.int .u32, 1, 4, [.int .u32 0], false⟩ := rfl
@[simp] theorem E_ty26 : E.ty 26 = some ⟨.strct [(0, 24), (1, 4), (2, 25)], 3, 8, [.int .u8 0, .bool false, .int .u32 0], false⟩ := rfl
@[simp] theorem E_ty27 : E.ty 27 = some ⟨.strct [(0, 24), (1, 4), (2, 25)], 3, 8, [.int .u8 0, .bool false, .int .u32 0], true⟩ := rfl
@[simp] theorem E_ty28 : E.ty 28 = some ⟨.slice 30, 1, 24, [.sl true [] (some 0)], false⟩ := rfl
@[simp] theorem E_ty29 : E.ty 29 = some ⟨.strct [(0, 27), (3, 22), (4, 28)], 5, 56, [.int .u8 0, .bool false, .int .u32 0, .sl true [] (some 0), .sl true [] (some 0)], false⟩ := rfl
@[simp] theorem E_ty30 : E.ty 30 = some ⟨.strct [(0, 27), (3, 22), (4, 28)], 5, 56, [.int .u8 0, .bool false, .int .u32 0, .sl true [] (some 0), .sl true [] (some 0)], false⟩ := rfl
@[simp] theorem E_ty32 : E.ty 32 = some ⟨.func, 1, 8, [.nilf], false⟩ := rfl
@[simp] theorem E_ty33 : E.ty 33 = some ⟨.func, 1, 8, [.nilf], false⟩ := rfl
@[simp] theorem E_ty34 : E.ty 34 = some ⟨.int .i64, 1, 8, [.int .i64 0], false⟩ := rfl
@[simp] theorem E_ty36 : E.ty 36 = some ⟨.func, 1, 8, [.nilf], false⟩ := rfl
@[simp] theorem E_ty37 : E.ty 37 = some ⟨.func, 1, 8, [.nilf], false⟩ := rfl
@[simp] theorem E_ty38 : E.ty 38 = some ⟨.slice 107, 1, 24, [.sl true [] (some 0)], false⟩ := rfl
@[simp] theorem E_ty39 : E.ty 39 = some ⟨.strct [(0, 38)], 1, 24, [.sl true [] (some 0)], false⟩ := rfl
@[simp] theorem E_ty40 : E.ty 40 = some ⟨.strct [(0, 38)], 1, 24, [.sl true [] (some 0)], false⟩ := rfl
@[simp] theorem E_ty41 : E.ty 41 = some ⟨.int .u16, 1, 2, [.int .u16 0], false⟩ := rfl
@[simp] theorem E_ty42 : E.ty 42 = some ⟨.func, 1, 8, [.nilf], false⟩ := rfl
@[simp] theorem E_ty44 : E.ty 44 = some ⟨.func, 1, 8, [.nilf], false⟩ := rfl
@[simp] theorem E_ty45 : E.ty 45 = some ⟨.func, 1, 8, [.nilf], false⟩ := rfl
@[simp] theorem E_ty46 : E.ty 46 = some ⟨.func, 1, 8, [.nilf], false⟩ := rfl
@[simp] theorem E_ty47 : E.ty 47 = some ⟨.slice 3, 1, 24, [.sl true [] (some 0)], false⟩ := rfl
@[simp] theorem E_ty49 : E.ty 49 = some ⟨.func, 1, 8, [.nilf], false⟩ := rfl
@[simp] theorem E_ty50 : E.ty 50 = some ⟨.func, 1, 8, [.nilf], false⟩ := rfl
@[simp] theorem E_ty51 : E.ty 51 = some ⟨.func, 1, 8, [.nilf], false⟩ := rfl
@[simp] theorem E_ty52 : E.ty 52 = some ⟨.func, 1, 8, [.nilf], false⟩ := rfl
@[simp] theorem E_ty53 : E.ty 53 = some ⟨.func, 1, 8, [.nilf], false⟩ := rfl
@[simp] theorem E_ty54 : E.ty 54 = some ⟨.func, 1, 8, [.nilf], false⟩ := rfl
@[simp] theorem E_ty55 : E.ty 55 = some ⟨.func, 1, 8, [.nilf], false⟩ := rfl
@[simp] theorem E_ty57 : E.ty 57 = some ⟨.func, 1, 8, [.nilf], false⟩ := rfl
@[simp] theorem E_ty58 : E.ty 58 = some ⟨.func, 1, 8, [.nilf], false⟩ := rfl
@[simp] theorem E_ty59 : E.ty 59 = some ⟨.func, 1, 8, [.nilf], false⟩ := rfl
@[simp] theorem E_ty60 : E.ty 60 = some ⟨.func, 1, 8, [.nilf], false⟩ := rfl
@[simp] theorem E_ty61 : E.ty 61 = some ⟨.func, 1, 8, [.nilf], false⟩ := rfl
@[simp] theorem E_ty63 : E.ty 63 = some ⟨.func, 1, 8, [.nilf], false⟩ := rfl
@[simp] theorem E_ty64 : E.ty 64 = some ⟨.strct [(0, 22)], 1, 24, [.sl true [] (some 0)], false⟩ := rfl
@[simp] theorem E_ty65 : E.ty 65 = some ⟨.strct [(0, 22)], 1, 24, [.sl true [] (some 0)], false⟩ := rfl
@[simp] theorem E_ty66 : E.ty 66 = some ⟨.slice 125, 1, 24, [.sl true [] (some 0)], false⟩ := rfl
@[simp] theorem E_ty67 : E.ty 67 = some ⟨.slice 78, 1, 24, [.sl true [] (some 0)], false⟩ := rfl
@[simp] theorem E_ty68 : E.ty 68 = some ⟨.func, 1, 8, [.nilf], false⟩ := rfl
@[simp] theorem E_ty69 : E.ty 69 = some ⟨.func, 1, 8, [.nilf], false⟩ := rfl
@[simp] theorem E_ty70 : E.ty 70 = some ⟨.strct [(0, 47), (1, 34)], 2, 32, [.sl true [] (some 0), .int .i64 0], false⟩ := rfl
@[simp] theorem E_ty71 : E.ty 71 = some ⟨.strct [(0, 47), (1, 34)], 2, 32, [.sl true [] (some 0), .int .i64 0], false⟩ := rfl
@[simp] theorem E_ty73 : E.ty 73 = some ⟨.func, 1, 8, [.nilf], false⟩ := rfl
@[simp] theorem E_ty74 : E.ty 74 = some ⟨.func, 1, 8, [.nilf], false⟩ := rfl
@[simp] theorem E_ty75 : E.ty 75 = some ⟨.func, 1, 8, [.nilf], false⟩ := rfl
@[simp] theorem E_ty76 : E.ty 76 = some ⟨.func, 1, 8, [.nilf], false⟩ := rfl
@[simp] theorem E_ty77 : E.ty 77 = some ⟨.strct [(0, 27), (3, 4), (4, 4)], 5, 12, [.int .u8 0, .bool false, .int .u32 0, .bool false, .bool false], false⟩ := rfl
@[simp] theorem E_ty78 : E.ty 78 = some ⟨.strct [(0, 27), (3, 4), (4, 4)], 5, 12, [.int .u8 0, .bool false, .int .u32 0, .bool false, .bool false], false⟩ := rfl
@[simp] theorem E_ty79 : E.ty 79 = some ⟨.func, 1, 8, [.nilf], false⟩ := rfl
@[simp] theorem E_ty80 : E.ty 80 = some ⟨.func, 1, 8, [.nilf], false⟩ := rfl
@[simp] theorem E_ty81 : E.ty 81 = some ⟨.func, 1, 8, [.nilf], false⟩ := rfl
@[simp] theorem E_ty82 : E.ty 82 = some ⟨.arr 2 3, 2, 16, [.int .i64 0, .int .i64 0], false⟩ := rfl
@[simp] theorem E_ty83 : E.ty 83 = some ⟨.func, 1, 8, [.nilf], false⟩ := rfl
@[simp] theorem E_ty85 : E.ty 85 = some ⟨.func, 1, 8, [.nilf], false⟩ := rfl
@[simp] theorem E_ty86 : E.ty 86 = some ⟨.func, 1, 8, [.nilf], false⟩ := rfl
@[simp] theorem E_ty87 : E.ty 87 = some ⟨.func, 1, 8, [.nilf], false⟩ := rfl
@[simp] theorem E_ty88 : E.ty 88 = some ⟨.func, 1, 8, [.nilf], false⟩ := rfl
@[simp] theorem E_ty89 : E.ty 89 = some ⟨.func, 1, 8, [.nilf], false⟩ := rfl
@[simp] theorem E_ty90 : E.ty 90 = some ⟨.func, 1, 8, [.nilf], false⟩ := rfl
@[simp] theorem E_ty92 : E.ty 92 = some ⟨.func, 1, 8, [.nilf], false⟩ := rfl
@[simp] theorem E_ty93 : E.ty 93 = some ⟨.func, 1, 8, [.nilf], false⟩ := rfl
@[simp] theorem E_ty94 : E.ty 94 = some ⟨.func, 1, 8, [.nilf], false⟩ := rfl
@[simp] theorem E_ty95 : E.ty 95 = some ⟨.func, 1, 8, [.nilf], false⟩ := rfl
@[simp] theorem E_ty96 : E.ty 96 = some ⟨.func, 1, 8, [.nilf], false⟩ := rfl
@[simp] theorem E_ty97 : E.ty 97 = some ⟨.ptr 3, 1, 8, [.nilp], false⟩ := rfl
@[simp] theorem E_ty98 : E.ty 98 = some ⟨.func, 1, 8, [.nilf], false⟩ := rfl
@[simp] theorem E_ty99 : E.ty 99 = some ⟨.func, 1, 8, [.nilf], false⟩ := rfl
@[simp] theorem E_ty100 : E.ty 100 = some ⟨.func, 1, 8, [.nilf], false⟩ := rfl
@[simp] theorem E_ty102 : E.ty 102 = some ⟨.func, 1, 8, [.nilf], false⟩ := rfl
@[simp] theorem E_ty103 : E.ty 103 = some ⟨.func, 1, 8, [.nilf], false⟩ := rfl
@[simp] theorem E_ty104 : E.ty 104 = some ⟨.strct [(0, 5), (1, 5), (2, 25)], 3, 8, [.int .u8 0, .int .u8 0, .int .u32 0], false⟩ := rfl
@[simp] theorem E_ty105 : E.ty 105 = some ⟨.strct [(0, 5), (1, 5), (2, 25)], 3, 8, [.int .u8 0, .int .u8 0, .int .u32 0], false⟩ := rfl
@[simp] theorem E_ty106 : E.ty 106 = some ⟨.strct [(0, 5), (1, 5), (2, 105), (5, 22)], 6, 40, [.int .u8 0, .int .u8 0, .int .u8 0, .int .u8 0, .int .u32 0, .sl true [] (some 0)], false⟩ := rfl
@[simp] theorem E_ty107 : E.ty 107 = some ⟨.strct [(0, 5), (1, 5), (2, 105), (5, 22)], 6, 40, [.int .u8 0, .int .u8 0, .int .u8 0, .int .u8 0, .int .u32 0, .sl true [] (some 0)], false⟩ := rfl
@[simp] theorem E_ty108 : E.ty 108 = some ⟨.func, 1, 8, [.nilf], false⟩ := rfl
@[simp] theorem E_ty109 : E.ty 109 = some ⟨.strct [(0, 3), (1, 34)], 2, 16, [.int .i64 0, .int .i64 0], false⟩ := rfl
@[simp] theorem E_ty110 : E.ty 110 = some ⟨.strct [(0, 3), (1, 34)], 2, 16, [.int .i64 0, .int .i64 0], false⟩ := rfl
@[simp] theorem E_ty112 : E.ty 112 = some ⟨.strct [(0, 22), (1, 3)], 2, 32, [.sl true [] (some 0), .int .i64 0], false⟩ := rfl
@[simp] theorem E_ty113 : E.ty 113 = some ⟨.strct [(0, 22), (1, 3)], 2, 32, [.sl true [] (some 0), .int .i64 0], false⟩ := rfl
@[simp] theorem E_ty115 : E.ty 115 = some ⟨.func, 1, 8, [.nilf], false⟩ := rfl
@[simp] theorem E_ty117 : E.ty 117 = some ⟨.func, 1, 8, [.nilf], false⟩ := rfl
@[simp] theorem E_ty118 : E.ty 118 = some ⟨.func, 1, 8, [.nilf], false⟩ := rfl
@[simp] theorem E_ty119 : E.ty 119 = some ⟨.func, 1, 8, [.nilf], false⟩ := rfl
@[simp] theorem E_ty120 : E.ty 120 = some ⟨.func, 1, 8, [.nilf], false⟩ := rfl
@[simp] theorem E_ty121 : E.ty 121 = some ⟨.func, 1, 8, [.nilf], false⟩ := rfl
@[simp] theorem E_ty123 : E.ty 123 = some ⟨.func, 1, 8, [.nilf], false⟩ := rfl
@[simp] theorem E_ty124 : E.ty 124 = some ⟨.strct [(0, 5), (1, 5)], 2, 2, [.int .u8 0, .int .u8 0], false⟩ := rfl
@[simp] theorem E_ty125 : E.ty 125 = some ⟨.strct [(0, 5), (1, 5)], 2, 2, [.int .u8 0, .int .u8 0], false⟩ := rfl
@[simp] theorem E_ty126 : E.ty 126 = some ⟨.func, 1, 8, [.nilf], false⟩ := rfl
@[simp] theorem E_ty127 : E.ty 127 = some ⟨.func, 1, 8, [.nilf], false⟩ := rfl
@[simp] theorem E_ty128 : E.ty 128 = some ⟨.func, 1, 8, [.nilf], false⟩ := rfl
@[simp] theorem E_ty130 : E.ty 130 = some ⟨.func, 1, 8, [.nilf], false⟩ := rfl
@[simp] theorem E_ty132 : E.ty 132 = some ⟨.func, 1, 8, [.nilf], false⟩ := rfl
@[simp] theorem E_ty133 : E.ty 133 = some ⟨.func, 1, 8, [.nilf], false⟩ := rfl
@[simp] theorem E_ty134 : E.ty 134 = some ⟨.func, 1, 8, [.nilf], false⟩ := rfl
@[simp] theorem E_ty135 : E.ty 135 = some ⟨.func, 1, 8, [.nilf], false⟩ := rfl
@[simp] theorem E_ty136 : E.ty 136 = some ⟨.ptr 113, 1, 8, [.nilp], false⟩ := rfl
@[simp] theorem E_ty138 : E.ty 138 = some ⟨.func, 1, 8, [.nilf], false⟩ := rfl
@[simp] theorem E_ty140 : E.ty 140 = some ⟨.func, 1, 8, [.nilf], false⟩ := rfl
@[simp] theorem E_ty141 : E.ty 141 = some ⟨.func, 1, 8, [.nilf], false⟩ := rfl
@[simp] theorem E_ty142 : E.ty 142 = some ⟨.func, 1, 8, [.nilf], false⟩ := rfl
@[simp] theorem E_ty143 : E.ty 143 = some ⟨.func, 1, 8, [.nilf], false⟩ := rfl
@[simp] theorem E_ty144 : E.ty 144 = some ⟨.func, 1, 8, [.nilf], false⟩ := rfl
@[simp] theorem E_ty145 : E.ty 145 = some ⟨.func, 1, 8, [.nilf], false⟩ := rfl
@[simp] theorem E_ty146 : E.ty 146 = some ⟨.func, 1, 8, [.nilf], false⟩ := rfl
@[simp] theorem E_ty147 : E.ty 147 = some ⟨.func, 1, 8, [.nilf], false⟩ := rfl
@[simp] theorem E_ty148 : E.ty 148 = some ⟨.func, 1, 8, [.nilf], false⟩ := rfl
@[simp] theorem E_ty149 : E.ty 149 = some ⟨.func, 1, 8, [.nilf], false⟩ := rfl
@[simp] theorem E_ty150 : E.ty 150 = some ⟨.func, 1, 8, [.nilf], false⟩ := rfl
@[simp] theorem E_ty151 : E.ty 151 = some ⟨.int .u64, 1, 8, [.int .u64 0], false⟩ := rfl
@[simp] theorem E_ty152 : E.ty 152 = some ⟨.func, 1, 8, [.nilf], false⟩ := rfl
@[simp] theorem E_ty153 : E.ty 153 = some ⟨.func, 1, 8, [.nilf], false⟩ := rfl
@[simp] theorem E_ty154 : E.ty 154 = some ⟨.func, 1, 8, [.nilf], false⟩ := rfl
@[simp] theorem E_ty156 : E.ty 156 = some ⟨.func, 1, 8, [.nilf], false⟩ := rfl
@[simp] theorem E_ty157 : E.ty 157 = some ⟨.arr 3 5, 3, 3, [.int .u8 0, .int .u8 0, .int .u8 0], false⟩ := rfl
@[simp] theorem E_ty158 : E.ty 158 = some ⟨.arr 3 5, 3, 3, [.int .u8 0, .int .u8 0, .int .u8 0], false⟩ := rfl
@[simp] theorem E_ty159 : E.ty 159 = some ⟨.func, 1, 8, [.nilf], false⟩ := rfl
@[simp] theorem E_ty160 : E.ty 160 = some ⟨.func, 1, 8, [.nilf], false⟩ := rfl
@[simp] theorem E_ty161 : E.ty 161 = some ⟨.strct [(0, 17), (1, 17), (2, 17), (3, 9)], 4, 40, [.nilp, .nilp, .nilp, .str []], false⟩ := rfl
@[simp] theorem E_ty162 : E.ty 162 = some ⟨.strct [(0, 17), (1, 17), (2, 17), (3, 9)], 4, 40, [.nilp, .nilp, .nilp, .str []], false⟩ := rfl
@[simp] theorem E_ty163 : E.ty 163 = some ⟨.arr 0 16, 0, 0, [], false⟩ := rfl
@[simp] theorem E_ty164 : E.ty 164 = some ⟨.strct [(0, 163)], 0, 0, [], false⟩ := rfl
@[simp] theorem E_ty165 : E.ty 165 = some ⟨.strct [(0, 163)], 0, 0, [], false⟩ := rfl
@[simp] theorem E_ty166 : E.ty 166 = some ⟨.func, 1, 8, [.nilf], false⟩ := rfl
@[simp] theorem E_ty167 : E.ty 167 = some ⟨.int .u8, 1, 1, [.int .u8 0], false⟩ := rfl
@[simp] theorem E_ty168 : E.ty 168 = some ⟨.int .u8, 1, 1, [.int .u8 0], false⟩ := rfl
@[simp] theorem E_ty169 : E.ty 169 = some ⟨.func, 1, 8, [.nilf], false⟩ := rfl
@[simp] theorem E_ty170 : E.ty 170 = some ⟨.ptr 5, 1, 8, [.nilp], false⟩ := rfl
@[simp] theorem E_ty171 : E.ty 171 = some ⟨.int .i32, 1, 4, [.int .i32 0], false⟩ := rfl
@[simp] theorem E_ty172 : E.ty 172 = some ⟨.int .i32, 1, 4, [.int .i32 0], false⟩ := rfl
@[simp] theorem E_ty173 : E.ty 173 = some ⟨.strct [(0, 12), (1, 12), (2, 25), (3, 167), (4, 5), (5, 5), (6, 168), (7, 169), (8, 170), (9, 171), (10, 172)], 11, 48, [.int .u64 0, .int .u64 0, .int .u32 0, .int .u8 0, .int .u8 0, .int .u8 0, .int .u8 0, .nilf, .nilp, .int .i32 0, .int .i32 0], false⟩ := rfl
@[simp] theorem E_ty174 : E.ty 174 = some ⟨.strct [(0, 12), (1, 12), (2, 25), (3, 167), (4, 5), (5, 5), (6, 168), (7, 169), (8, 170), (9, 171), (10, 172)], 11, 48, [.int .u64 0, .int .u64 0, .int .u32 0, .int .u8 0, .int .u8 0, .int .u8 0, .int .u8 0, .nilf, .nilp, .int .i32 0, .int .i32 0], false⟩ := rfl
end TabE
