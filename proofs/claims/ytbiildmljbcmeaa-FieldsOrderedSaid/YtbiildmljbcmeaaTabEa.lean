/- The tables of this translation for the evaluator: written by gen2.py. No conditions. -/
import Derived.Test.YtbiildmljbcmeaaB2
import Derived.Test.YtbiildmljbcmeaaTg
set_option linter.unusedVariables false
set_option maxRecDepth 100000
namespace TabE
open Go Ab
abbrev o (d : Nat) (x : Op) (t : TypeId) : Oper := ⟨some d, x, t, "", #[], none⟩
abbrev m (d i : Nat) (t : TypeId) : Oper := ⟨some d, .move (.tmp i), t, "", #[], none⟩

def opnT : FuncId → Option (List Bool × Bool)
  | 70 => some ([true, false], false)
  | 72 => some ([true, true, true, true], true)
  | 73 => some ([true, false, false, false], true)
  | 76 => some ([false], false)
  | 100 => some ([false, true], true)
  | 101 => some ([false, false, true, true], true)
  | 105 => some ([false, false, true], true)
  | 113 => some ([false, false, true, true], true)
  | 114 => some ([true, true], true)
  | _ => none

def c8 : Code :=
  (.seq (.region 0 #[o 2 (.box 40 (.tmp 0)) 0, o 3 (.box 40 (.tmp 1)) 0, o 4 (.assign (.const (.bool false))) 4] false)
 (.seq (.region 1 #[o 10 (.load 40 (.tmp 2)) 40, o 11 (.call { callee := .value (.func 22), args := #[.tmp 10], argTypes := #[40] }) 30, o 12 (.load 40 (.tmp 3)) 40, o 13 (.call { callee := .value (.func 22), args := #[.tmp 12], argTypes := #[40] }) 30, o 5 (.alloc 30) 0, o 6 (.alloc 30) 0, ⟨none, .store 30 (.tmp 5) (.tmp 11), 0, "", #[], none⟩, ⟨none, .store 30 (.tmp 6) (.tmp 13), 0, "", #[], none⟩] true)
 (.seq (.region 2 #[o 14 (.load 30 (.tmp 5)) 30, o 15 (.call { callee := .value (.func 35), args := #[.tmp 14], argTypes := #[30] }) 22, o 16 (.convert 22 9 (.tmp 15)) 9, o 17 (.load 30 (.tmp 6)) 30, o 18 (.call { callee := .value (.func 35), args := #[.tmp 17], argTypes := #[30] }) 22, o 19 (.convert 22 9 (.tmp 18)) 9, o 7 (.assign (.tmp 16)) 9, o 8 (.assign (.tmp 19)) 9] true)
 (.seq (.region 3 #[o 9 (.assign (.const (.int .i64 0))) 3] false)
 (.seq (.seq (.region 4 #[m 20 7 9, m 21 8 9, o 22 (.binOp .lss 9 (.tmp 20) (.tmp 21) 9) 4] false)
 (.cond (.tmp 22)
 (.region 5 #[o 9 (.assign (.const (.int .i64 (-1)))) 3] false)
 .skip))
 (.seq (.seq (.region 6 #[m 23 7 9, m 24 8 9, o 25 (.binOp .gtr 9 (.tmp 23) (.tmp 24) 9) 4] false)
 (.cond (.tmp 25)
 (.region 7 #[o 9 (.assign (.const (.int .i64 1))) 3] false)
 .skip))
 (.seq (.region 8 #[o 26 (.load 30 (.tmp 5)) 30, o 27 (.load 30 (.tmp 6)) 30, o 28 (.call { callee := .value (.func 37), args := #[.tmp 26, .tmp 27], argTypes := #[30, 30] }) 3, m 29 9 3, o 30 (.binOp .eql 3 (.tmp 28) (.tmp 29) 3) 4, m 31 30 4, ⟨some 32, .load 30 (.tmp 6), 30, "", #[], some (31, true)⟩, ⟨some 33, .load 30 (.tmp 5), 30, "", #[], some (31, true)⟩, ⟨some 34, .call { callee := .value (.func 37), args := #[.tmp 32, .tmp 33], argTypes := #[30, 30] }, 3, "", #[], some (31, true)⟩, ⟨some 35, .move (.tmp 9), 3, "", #[], some (31, true)⟩, ⟨some 36, .unOp .neg 3 (.tmp 35), 3, "", #[], some (31, true)⟩, ⟨some 37, .binOp .eql 3 (.tmp 34) (.tmp 36) 3, 4, "", #[], some (31, true)⟩, o 38 (.pick (.tmp 31) (.tmp 37) (.const (.bool false))) 4, m 39 38 4, ⟨some 40, .load 30 (.tmp 5), 30, "", #[], some (39, true)⟩, ⟨some 41, .load 30 (.tmp 6), 30, "", #[], some (39, true)⟩, ⟨some 42, .call { callee := .value (.func 36), args := #[.tmp 40, .tmp 41], argTypes := #[30, 30] }, 4, "", #[], some (39, true)⟩, ⟨some 43, .move (.tmp 9), 3, "", #[], some (39, true)⟩, ⟨some 44, .binOp .eql 3 (.tmp 43) (.const (.int .i64 0)) 3, 4, "", #[], some (39, true)⟩, ⟨some 45, .binOp .eql 4 (.tmp 42) (.tmp 44) 4, 4, "", #[], some (39, true)⟩, o 46 (.pick (.tmp 39) (.tmp 45) (.const (.bool false))) 4, m 47 46 4, ⟨some 48, .load 30 (.tmp 5), 30, "", #[], some (47, true)⟩, ⟨some 49, .load 30 (.tmp 5), 30, "", #[], some (47, true)⟩, ⟨some 50, .call { callee := .value (.func 37), args := #[.tmp 48, .tmp 49], argTypes := #[30, 30] }, 3, "", #[], some (47, true)⟩, ⟨some 51, .binOp .eql 3 (.tmp 50) (.const (.int .i64 0)) 3, 4, "", #[], some (47, true)⟩, o 52 (.pick (.tmp 47) (.tmp 51) (.const (.bool false))) 4, m 53 52 4, ⟨some 54, .call { callee := .value (.func 18), args := #[], argTypes := #[] }, 4, "", #[], some (53, true)⟩, o 55 (.pick (.tmp 53) (.tmp 54) (.const (.bool false))) 4, o 4 (.assign (.tmp 55)) 4] false)
 .ret)))))))
def fn8 : AFn := { ntmps := 56, results := [.tmp 4], body := c8, keep := fun | 0 => some [2, 3] | 1 => some [5, 6] | 2 => some [5, 6, 7, 8] | 3 => some [5, 6, 7, 8, 9] | 4 => some [5, 6, 7, 8, 9, 22] | 5 => some [5, 6, 7, 8, 9] | 6 => some [5, 6, 9, 25] | 7 => some [5, 6, 9] | 8 => some [4] | _ => none, head := fun  | _ => none, opn := fun _ => none, dyn := fun _ => [] }
def c9 : Code :=
  (.seq (.region 0 #[o 1 (.box 30 (.tmp 0)) 0, o 2 (.assign (.const (.bool false))) 4] false)
 (.seq (.seq (.region 1 #[o 10 (.load 30 (.tmp 1)) 30, o 11 (.call { callee := .value (.func 38), args := #[.tmp 10], argTypes := #[30] }) 3, o 12 (.binOp .eql 3 (.tmp 11) (.const (.int .i64 0)) 3) 4] false)
 (.cond (.tmp 12)
 (.seq (.region 2 #[o 13 (.call { callee := .value (.func 18), args := #[], argTypes := #[] }) 4, o 2 (.assign (.tmp 13)) 4] false)
 .ret)
 .skip))
 (.seq (.region 3 #[o 15 (.load 30 (.tmp 1)) 30, o 16 (.call { callee := .value (.func 39), args := #[.tmp 15, .const (.int .i64 1), .const (.int .i64 0)], argTypes := #[30, 3, 3] }) 62, m 14 16 62, o 17 (.extract (.tmp 14) 0) 3, o 18 (.extract (.tmp 14) 1) 3, o 3 (.assign (.tmp 17)) 3, o 4 (.assign (.tmp 18)) 3] false)
 (.seq (.region 4 #[o 20 (.load 30 (.tmp 1)) 30, o 21 (.call { callee := .value (.func 21), args := #[.tmp 20], argTypes := #[30] }) 35, m 19 21 35, o 22 (.extract (.tmp 19) 0) 22, o 23 (.extract (.tmp 19) 1) 34, o 5 (.assign (.tmp 22)) 22, o 6 (.assign (.tmp 23)) 34] false)
 (.seq (.seq (.region 5 #[o 24 (.load 30 (.tmp 1)) 30, o 25 (.call { callee := .value (.func 32), args := #[.tmp 24], argTypes := #[30] }) 34, m 26 3 3, o 27 (.binOp .neq 3 (.tmp 25) (.tmp 26) 3) 4, m 28 27 4, ⟨some 29, .move (.tmp 6), 34, "", #[], some (28, false)⟩, ⟨some 30, .move (.tmp 3), 3, "", #[], some (28, false)⟩, ⟨some 31, .binOp .neq 3 (.tmp 29) (.tmp 30) 3, 4, "", #[], some (28, false)⟩, o 32 (.pick (.tmp 28) (.const (.bool true)) (.tmp 31)) 4, m 33 32 4, ⟨some 34, .load 30 (.tmp 1), 30, "", #[], some (33, false)⟩, ⟨some 35, .call { callee := .value (.func 29), args := #[.tmp 34], argTypes := #[30] }, 3, "", #[], some (33, false)⟩, ⟨some 36, .move (.tmp 4), 3, "", #[], some (33, false)⟩, ⟨some 37, .binOp .neq 3 (.tmp 35) (.tmp 36) 3, 4, "", #[], some (33, false)⟩, o 38 (.pick (.tmp 33) (.const (.bool true)) (.tmp 37)) 4, m 39 38 4, ⟨some 40, .load 30 (.tmp 1), 30, "", #[], some (39, false)⟩, ⟨some 41, .load 30 (.tmp 1), 30, "", #[], some (39, false)⟩, ⟨some 42, .call { callee := .value (.func 36), args := #[.tmp 40, .tmp 41], argTypes := #[30, 30] }, 4, "", #[], some (39, false)⟩, ⟨some 43, .move (.tmp 3), 3, "", #[], some (39, false)⟩, ⟨some 44, .binOp .eql 3 (.tmp 43) (.const (.int .i64 0)) 3, 4, "", #[], some (39, false)⟩, ⟨some 45, .binOp .neq 4 (.tmp 42) (.tmp 44) 4, 4, "", #[], some (39, false)⟩, o 46 (.pick (.tmp 39) (.const (.bool true)) (.tmp 45)) 4] false)
 (.cond (.tmp 46)
 (.seq (.region 6 #[o 2 (.assign (.const (.bool false))) 4] false)
 .ret)
 .skip))
 (.seq (.seq (.region 7 #[m 47 3 3, o 48 (.binOp .eql 3 (.tmp 47) (.const (.int .i64 0)) 3) 4] false)
 (.cond (.tmp 48)
 (.seq (.region 8 #[o 49 (.load 30 (.tmp 1)) 30, o 50 (.call { callee := .value (.func 35), args := #[.tmp 49], argTypes := #[30] }) 22, o 7 (.assign (.tmp 50)) 22] false)
 (.seq (.region 9 #[m 51 5 22, o 52 (.convert 22 9 (.tmp 51)) 9, m 53 7 22, o 54 (.convert 22 9 (.tmp 53)) 9, o 55 (.binOp .eql 9 (.tmp 52) (.tmp 54) 9) 4, m 56 55 4, ⟨some 57, .move (.tmp 5), 22, "", #[], some (56, true)⟩, ⟨some 58, .call { callee := .builtin .cap, args := #[.tmp 57], argTypes := #[22] }, 3, "", #[], some (56, true)⟩, ⟨some 59, .move (.tmp 5), 22, "", #[], some (56, true)⟩, ⟨some 60, .call { callee := .builtin .len, args := #[.tmp 59], argTypes := #[22] }, 3, "", #[], some (56, true)⟩, ⟨some 61, .binOp .eql 3 (.tmp 58) (.tmp 60) 3, 4, "", #[], some (56, true)⟩, o 62 (.pick (.tmp 56) (.tmp 61) (.const (.bool false))) 4, m 63 62 4, ⟨some 64, .load 30 (.tmp 1), 30, "", #[], some (63, true)⟩, ⟨some 65, .call { callee := .value (.func 28), args := #[.tmp 64], argTypes := #[30] }, 3, "", #[], some (63, true)⟩, ⟨some 66, .move (.tmp 7), 22, "", #[], some (63, true)⟩, ⟨some 67, .call { callee := .builtin .len, args := #[.tmp 66], argTypes := #[22] }, 3, "", #[], some (63, true)⟩, ⟨some 68, .binOp .eql 3 (.tmp 65) (.tmp 67) 3, 4, "", #[], some (63, true)⟩, o 69 (.pick (.tmp 63) (.tmp 68) (.const (.bool false))) 4, m 70 69 4, ⟨some 71, .load 30 (.tmp 1), 30, "", #[], some (70, true)⟩, ⟨some 72, .call { callee := .value (.func 30), args := #[.tmp 71], argTypes := #[30] }, 3, "", #[], some (70, true)⟩, ⟨some 73, .load 30 (.tmp 1), 30, "", #[], some (70, true)⟩, ⟨some 74, .call { callee := .value (.func 40), args := #[.tmp 73], argTypes := #[30] }, 3, "", #[], some (70, true)⟩, ⟨some 75, .binOp .eql 3 (.tmp 72) (.tmp 74) 3, 4, "", #[], some (70, true)⟩, o 76 (.pick (.tmp 70) (.tmp 75) (.const (.bool false))) 4, m 77 76 4, ⟨some 78, .call { callee := .value (.func 18), args := #[], argTypes := #[] }, 4, "", #[], some (77, true)⟩, o 79 (.pick (.tmp 77) (.tmp 78) (.const (.bool false))) 4, o 2 (.assign (.tmp 79)) 4] true)
 .ret))
 .skip))
 (.seq (.region 10 #[o 81 (.load 30 (.tmp 1)) 30, o 82 (.call { callee := .value (.func 25), args := #[.tmp 81, .const (.slice none 0 0)], argTypes := #[30, 47] }) 48, m 80 82 48, o 83 (.extract (.tmp 80) 0) 30, o 84 (.extract (.tmp 80) 1) 34, o 8 (.alloc 30) 0, ⟨none, .store 30 (.tmp 8) (.tmp 83), 0, "", #[], none⟩, o 9 (.assign (.tmp 84)) 34] false)
 (.seq (.region 11 #[m 85 5 22, o 86 (.call { callee := .builtin .len, args := #[.tmp 85], argTypes := #[22] }) 3, o 87 (.binOp .eql 3 (.tmp 86) (.const (.int .i64 0)) 3) 4, m 88 87 4, ⟨some 89, .load 30 (.tmp 1), 30, "", #[], some (88, true)⟩, ⟨some 90, .call { callee := .value (.func 28), args := #[.tmp 89], argTypes := #[30] }, 3, "", #[], some (88, true)⟩, ⟨some 91, .binOp .eql 3 (.tmp 90) (.const (.int .i64 0)) 3, 4, "", #[], some (88, true)⟩, o 92 (.pick (.tmp 88) (.tmp 91) (.const (.bool false))) 4, m 93 92 4, ⟨some 94, .load 30 (.tmp 1), 30, "", #[], some (93, true)⟩, ⟨some 95, .call { callee := .value (.func 30), args := #[.tmp 94], argTypes := #[30] }, 3, "", #[], some (93, true)⟩, ⟨some 96, .binOp .eql 3 (.tmp 95) (.const (.int .i64 0)) 3, 4, "", #[], some (93, true)⟩, o 97 (.pick (.tmp 93) (.tmp 96) (.const (.bool false))) 4, m 98 97 4, ⟨some 99, .move (.tmp 9), 34, "", #[], some (98, true)⟩, ⟨some 100, .move (.tmp 3), 3, "", #[], some (98, true)⟩, ⟨some 101, .binOp .eql 3 (.tmp 99) (.tmp 100) 3, 4, "", #[], some (98, true)⟩, o 102 (.pick (.tmp 98) (.tmp 101) (.const (.bool false))) 4, m 103 102 4, ⟨some 104, .load 30 (.tmp 8), 30, "", #[], some (103, true)⟩, ⟨some 105, .build 30 #[], 30, "", #[], some (103, true)⟩, ⟨some 106, .call { callee := .value (.func 24), args := #[.tmp 104, .tmp 105], argTypes := #[30, 30] }, 4, "", #[], some (103, true)⟩, o 107 (.pick (.tmp 103) (.tmp 106) (.const (.bool false))) 4, m 108 107 4, ⟨some 109, .load 30 (.tmp 1), 30, "", #[], some (108, true)⟩, ⟨some 110, .call { callee := .value (.func 41), args := #[], argTypes := #[] }, 30, "", #[], some (108, true)⟩, ⟨some 111, .call { callee := .value (.func 37), args := #[.tmp 109, .tmp 110], argTypes := #[30, 30] }, 3, "", #[], some (108, true)⟩, ⟨some 112, .binOp .eql 3 (.tmp 111) (.const (.int .i64 (-1))) 3, 4, "", #[], some (108, true)⟩, o 113 (.pick (.tmp 108) (.tmp 112) (.const (.bool false))) 4, m 114 113 4, ⟨some 115, .load 30 (.tmp 1), 30, "", #[], some (114, true)⟩, ⟨some 116, .load 30 (.tmp 1), 30, "", #[], some (114, true)⟩, ⟨some 117, .call { callee := .value (.func 37), args := #[.tmp 115, .tmp 116], argTypes := #[30, 30] }, 3, "", #[], some (114, true)⟩, ⟨some 118, .binOp .eql 3 (.tmp 117) (.const (.int .i64 0)) 3, 4, "", #[], some (114, true)⟩, o 119 (.pick (.tmp 114) (.tmp 118) (.const (.bool false))) 4, m 120 119 4, ⟨some 121, .call { callee := .value (.func 18), args := #[], argTypes := #[] }, 4, "", #[], some (120, true)⟩, o 122 (.pick (.tmp 120) (.tmp 121) (.const (.bool false))) 4, o 2 (.assign (.tmp 122)) 4] true)
 .ret))))))))
def fn9 : AFn := { ntmps := 123, results := [.tmp 2], body := c9, keep := fun | 0 => some [1] | 1 => some [1, 12] | 2 => some [2] | 3 => some [1, 3, 4] | 4 => some [1, 3, 4, 5, 6] | 5 => some [1, 3, 5, 46] | 6 => some [2] | 7 => some [1, 3, 5, 48] | 8 => some [1, 5, 7] | 9 => some [2] | 10 => some [1, 3, 5, 8, 9] | 11 => some [2] | _ => none, head := fun  | _ => none, opn := fun _ => none, dyn := fun _ => [] }
def c12 : Code :=
  (.seq (.region 0 #[o 1 (.box 65 (.tmp 0)) 0, o 2 (.assign (.const (.bool false))) 4] false)
 (.seq (.region 1 #[o 5 (.load 65 (.tmp 1)) 65, o 6 (.call { callee := .value (.func 42), args := #[.tmp 5], argTypes := #[65] }) 30, o 3 (.alloc 30) 0, ⟨none, .store 30 (.tmp 3) (.tmp 6), 0, "", #[], none⟩] false)
 (.seq (.seq (.region 2 #[o 7 (.load 30 (.tmp 3)) 30, o 8 (.call { callee := .value (.func 51), args := #[.tmp 7], argTypes := #[30] }) 71, o 9 (.load 30 (.tmp 3)) 30, o 10 (.call { callee := .value (.func 52), args := #[.tmp 9], argTypes := #[30] }) 71, o 11 (.call { callee := .value (.func 48), args := #[.tmp 8, .tmp 10], argTypes := #[71, 71] }) 3, o 12 (.binOp .eql 3 (.tmp 11) (.const (.int .i64 0)) 3) 4] true)
 (.cond (.tmp 12)
 (.seq (.region 3 #[o 2 (.assign (.const (.bool false))) 4] false)
 .ret)
 .skip))
 (.seq (.seq (.region 4 #[o 4 (.assign (.const (.int .i64 0))) 3] false)
 (.block 0 (.loop (.seq (.seq (.region 5 #[m 13 4 3, o 14 (.fieldAddr 30 (.tmp 3) 2) 0, o 15 (.load 28 (.tmp 14)) 28, o 16 (.call { callee := .builtin .len, args := #[.tmp 15], argTypes := #[28] }) 3, o 17 (.binOp .lss 3 (.tmp 13) (.tmp 16) 3) 4] false)
 (.cond (.tmp 17)
 .skip
 (.exit 0)))
 (.seq (.block 1 (.seq (.region 7 #[o 20 (.fieldAddr 30 (.tmp 3) 2) 0, o 21 (.load 28 (.tmp 20)) 28, m 22 4 3, o 23 (.indexAddr 28 (.tmp 21) (.tmp 22)) 0, o 24 (.load 30 (.tmp 23)) 30, o 25 (.call { callee := .value (.func 51), args := #[.tmp 24], argTypes := #[30] }) 71, o 26 (.fieldAddr 30 (.tmp 3) 2) 0, o 27 (.load 28 (.tmp 26)) 28, m 28 4 3, o 29 (.indexAddr 28 (.tmp 27) (.tmp 28)) 0, o 30 (.load 30 (.tmp 29)) 30, o 31 (.call { callee := .value (.func 52), args := #[.tmp 30], argTypes := #[30] }) 71, o 32 (.call { callee := .value (.func 48), args := #[.tmp 25, .tmp 31], argTypes := #[71, 71] }) 3, o 33 (.binOp .eql 3 (.tmp 32) (.const (.int .i64 0)) 3) 4] true)
 (.cond (.tmp 33)
 (.seq (.region 8 #[o 2 (.assign (.const (.bool false))) 4] false)
 .ret)
 .skip)))
 (.region 6 #[m 18 4 3, o 19 (.binOp .add 3 (.tmp 18) (.const (.int .i64 1)) 3) 3, o 4 (.assign (.tmp 19)) 3] false))))))
 (.seq (.region 9 #[o 34 (.load 30 (.tmp 3)) 30, o 35 (.load 65 (.tmp 1)) 65, o 36 (.call { callee := .value (.func 42), args := #[.tmp 35], argTypes := #[65] }) 30, o 37 (.call { callee := .value (.func 49), args := #[.tmp 34, .tmp 36], argTypes := #[30, 30] }) 3, o 38 (.binOp .eql 3 (.tmp 37) (.const (.int .i64 1)) 3) 4, m 39 38 4, ⟨some 40, .call { callee := .value (.func 50), args := #[], argTypes := #[] }, 4, "", #[], some (39, true)⟩, o 41 (.pick (.tmp 39) (.tmp 40) (.const (.bool false))) 4, o 2 (.assign (.tmp 41)) 4] true)
 .ret)))))
def fn12 : AFn := { ntmps := 42, results := [.tmp 2], body := c12, keep := fun | 0 => some [1] | 1 => some [1, 3] | 2 => some [1, 3, 12] | 3 => some [2] | 4 => some [1, 3, 4] | 5 => some [1, 3, 4, 17] | 6 => some [1, 3, 4] | 7 => some [1, 3, 4, 33] | 8 => some [2] | 9 => some [2] | _ => none, head := fun | 5 => some [1, 3, 4] | _ => none, opn := fun _ => none, dyn := fun _ => [] }
def c18 : Code :=
  (.seq (.region 0 #[o 0 (.assign (.const (.bool false))) 4] false)
 (.seq (.region 1 #[o 12 (.call { callee := .value (.func 41), args := #[], argTypes := #[] }) 30, o 1 (.alloc 30) 0, ⟨none, .store 30 (.tmp 1) (.tmp 12), 0, "", #[], none⟩] false)
 (.seq (.region 2 #[o 13 (.build 30 #[]) 30, o 2 (.alloc 30) 0, ⟨none, .store 30 (.tmp 2) (.tmp 13), 0, "", #[], none⟩] false)
 (.seq (.region 3 #[o 14 (.fieldAddr 30 (.tmp 1) 2) 0, o 15 (.load 28 (.tmp 14)) 28, o 16 (.indexAddr 28 (.tmp 15) (.const (.int .i64 1))) 0, o 17 (.load 30 (.tmp 16)) 30, o 3 (.alloc 30) 0, ⟨none, .store 30 (.tmp 3) (.tmp 17), 0, "", #[], none⟩] false)
 (.seq (.seq (.region 4 #[⟨some 18, .buildSlice 22 7 #[(0, .const (.int .u8 48)), (1, .const (.int .u8 5)), (2, .const (.int .u8 2)), (3, .const (.int .u8 1)), (4, .const (.int .u8 7)), (5, .const (.int .u8 5)), (6, .const (.int .u8 0))], 22, "", fz, none⟩, o 19 (.load 30 (.tmp 1)) 30, o 20 (.call { callee := .value (.func 20), args := #[.tmp 18, .tmp 19, .const (.int .i64 0), .const (.int .i64 0)], argTypes := #[22, 30, 3, 3] }) 4, o 21 (.unOp .not 4 (.tmp 20)) 4, m 22 21 4, ⟨some 23, .load 30 (.tmp 1), 30, "", #[], some (22, false)⟩, ⟨some 24, .call { callee := .value (.func 29), args := #[.tmp 23], argTypes := #[30] }, 3, "", #[], some (22, false)⟩, ⟨some 25, .binOp .neq 3 (.tmp 24) (.const (.int .i64 3)) 3, 4, "", #[], some (22, false)⟩, o 26 (.pick (.tmp 22) (.const (.bool true)) (.tmp 25)) 4, m 27 26 4, ⟨some 28, .load 30 (.tmp 1), 30, "", #[], some (27, false)⟩, ⟨some 29, .call { callee := .value (.func 30), args := #[.tmp 28], argTypes := #[30] }, 3, "", #[], some (27, false)⟩, ⟨some 30, .binOp .neq 3 (.tmp 29) (.const (.int .i64 2)) 3, 4, "", #[], some (27, false)⟩, o 31 (.pick (.tmp 27) (.const (.bool true)) (.tmp 30)) 4] false)
 (.cond (.tmp 31)
 (.seq (.region 5 #[o 0 (.assign (.const (.bool false))) 4] false)
 .ret)
 .skip))
 (.seq (.region 6 #[o 33 (.load 30 (.tmp 1)) 30, ⟨some 34, .buildSlice 47 1 #[(0, .const (.int .i64 1))], 47, "", fz, none⟩, o 35 (.call { callee := .value (.func 25), args := #[.tmp 33, .tmp 34], argTypes := #[30, 47] }) 48, m 32 35 48, o 36 (.extract (.tmp 32) 0) 30, o 37 (.extract (.tmp 32) 1) 34, o 4 (.alloc 30) 0, ⟨none, .store 30 (.tmp 4) (.tmp 36), 0, "", #[], none⟩, o 5 (.assign (.tmp 37)) 34] false)
 (.seq (.region 7 #[o 39 (.load 30 (.tmp 1)) 30, ⟨some 40, .buildSlice 47 1 #[(0, .const (.int .i64 2))], 47, "", fz, none⟩, o 41 (.call { callee := .value (.func 25), args := #[.tmp 39, .tmp 40], argTypes := #[30, 47] }) 48, m 38 41 48, o 42 (.extract (.tmp 38) 0) 30, o 43 (.extract (.tmp 38) 1) 34, o 6 (.alloc 30) 0, ⟨none, .store 30 (.tmp 6) (.tmp 42), 0, "", #[], none⟩, o 7 (.assign (.tmp 43)) 34] false)
 (.seq (.region 8 #[⟨some 45, .buildSlice 22 4 #[(0, .const (.int .u8 5)), (1, .const (.int .u8 0)), (2, .const (.int .u8 5)), (3, .const (.int .u8 0))], 22, "", fz, none⟩, o 46 (.call { callee := .value (.func 23), args := #[.tmp 45], argTypes := #[22] }) 43, m 44 46 43, o 47 (.extract (.tmp 44) 0) 30, o 48 (.extract (.tmp 44) 1) 3, o 49 (.extract (.tmp 44) 2) 3, o 50 (.extract (.tmp 44) 3) 34, o 8 (.alloc 30) 0, ⟨none, .store 30 (.tmp 8) (.tmp 47), 0, "", #[], none⟩, o 9 (.assign (.tmp 48)) 3, o 10 (.assign (.tmp 49)) 3, o 11 (.assign (.tmp 50)) 34] false)
 (.seq (.seq (.region 9 #[m 51 5 34, o 52 (.binOp .neq 34 (.tmp 51) (.const (.int .i64 0)) 34) 4, m 53 52 4, ⟨some 54, .load 30 (.tmp 4), 30, "", #[], some (53, false)⟩, ⟨some 55, .load 30 (.tmp 3), 30, "", #[], some (53, false)⟩, ⟨some 56, .call { callee := .value (.func 24), args := #[.tmp 54, .tmp 55], argTypes := #[30, 30] }, 4, "", #[], some (53, false)⟩, ⟨some 57, .unOp .not 4 (.tmp 56), 4, "", #[], some (53, false)⟩, o 58 (.pick (.tmp 53) (.const (.bool true)) (.tmp 57)) 4, m 59 58 4, ⟨some 60, .move (.tmp 7), 34, "", #[], some (59, false)⟩, ⟨some 61, .binOp .neq 34 (.tmp 60) (.const (.int .i64 19)) 34, 4, "", #[], some (59, false)⟩, o 62 (.pick (.tmp 59) (.const (.bool true)) (.tmp 61)) 4, m 63 62 4, ⟨some 64, .move (.tmp 9), 3, "", #[], some (63, false)⟩, ⟨some 65, .binOp .neq 3 (.tmp 64) (.const (.int .i64 2)) 3, 4, "", #[], some (63, false)⟩, o 66 (.pick (.tmp 63) (.const (.bool true)) (.tmp 65)) 4, m 67 66 4, ⟨some 68, .move (.tmp 11), 34, "", #[], some (67, false)⟩, ⟨some 69, .binOp .neq 34 (.tmp 68) (.const (.int .i64 0)) 34, 4, "", #[], some (67, false)⟩, o 70 (.pick (.tmp 67) (.const (.bool true)) (.tmp 69)) 4, m 71 70 4, ⟨some 72, .buildSlice 22 4 #[(0, .const (.int .u8 5)), (1, .const (.int .u8 0)), (2, .const (.int .u8 5)), (3, .const (.int .u8 0))], 22, "", fz, some (71, false)⟩, ⟨some 73, .load 30 (.tmp 2), 30, "", #[], some (71, false)⟩, ⟨some 74, .call { callee := .value (.func 20), args := #[.tmp 72, .tmp 73, .const (.int .i64 2), .const (.int .i64 8)], argTypes := #[22, 30, 3, 3] }, 4, "", #[], some (71, false)⟩, ⟨some 75, .unOp .not 4 (.tmp 74), 4, "", #[], some (71, false)⟩, o 76 (.pick (.tmp 71) (.const (.bool true)) (.tmp 75)) 4] false)
 (.cond (.tmp 76)
 (.seq (.region 10 #[o 0 (.assign (.const (.bool false))) 4] false)
 .ret)
 .skip))
 (.seq (.seq (.region 11 #[⟨some 77, .buildSlice 22 5 #[(0, .const (.int .u8 48)), (1, .const (.int .u8 5)), (2, .const (.int .u8 2)), (3, .const (.int .u8 1)), (4, .const (.int .u8 7))], 22, "", fz, none⟩, o 78 (.load 30 (.tmp 2)) 30, o 79 (.call { callee := .value (.func 20), args := #[.tmp 77, .tmp 78, .const (.int .i64 5), .const (.int .i64 7)], argTypes := #[22, 30, 3, 3] }) 4, o 80 (.unOp .not 4 (.tmp 79)) 4, m 81 80 4, ⟨some 82, .buildSlice 22 5 #[(0, .const (.int .u8 48)), (1, .const (.int .u8 3)), (2, .const (.int .u8 2)), (3, .const (.int .u8 2)), (4, .const (.int .u8 7))], 22, "", fz, some (81, false)⟩, ⟨some 83, .load 30 (.tmp 2), 30, "", #[], some (81, false)⟩, ⟨some 84, .call { callee := .value (.func 20), args := #[.tmp 82, .tmp 83, .const (.int .i64 5), .const (.int .i64 7)], argTypes := #[22, 30, 3, 3] }, 4, "", #[], some (81, false)⟩, ⟨some 85, .unOp .not 4 (.tmp 84), 4, "", #[], some (81, false)⟩, o 86 (.pick (.tmp 81) (.const (.bool true)) (.tmp 85)) 4, m 87 86 4, ⟨some 88, .buildSlice 22 4 #[(0, .const (.int .u8 48)), (1, .const (.int .u8 128)), (2, .const (.int .u8 0)), (3, .const (.int .u8 0))], 22, "", fz, some (87, false)⟩, ⟨some 89, .load 30 (.tmp 2), 30, "", #[], some (87, false)⟩, ⟨some 90, .call { callee := .value (.func 20), args := #[.tmp 88, .tmp 89, .const (.int .i64 1), .const (.int .i64 10)], argTypes := #[22, 30, 3, 3] }, 4, "", #[], some (87, false)⟩, ⟨some 91, .unOp .not 4 (.tmp 90), 4, "", #[], some (87, false)⟩, o 92 (.pick (.tmp 87) (.const (.bool true)) (.tmp 91)) 4, m 93 92 4, ⟨some 94, .buildSlice 22 4 #[(0, .const (.int .u8 48)), (1, .const (.int .u8 2)), (2, .const (.int .u8 0)), (3, .const (.int .u8 0))], 22, "", fz, some (93, false)⟩, ⟨some 95, .load 30 (.tmp 2), 30, "", #[], some (93, false)⟩, ⟨some 96, .call { callee := .value (.func 20), args := #[.tmp 94, .tmp 95, .const (.int .i64 2), .const (.int .i64 9)], argTypes := #[22, 30, 3, 3] }, 4, "", #[], some (93, false)⟩, ⟨some 97, .unOp .not 4 (.tmp 96), 4, "", #[], some (93, false)⟩, o 98 (.pick (.tmp 93) (.const (.bool true)) (.tmp 97)) 4, m 99 98 4, ⟨some 100, .buildSlice 22 3 #[(0, .const (.int .u8 48)), (1, .const (.int .u8 1)), (2, .const (.int .u8 5))], 22, "", fz, some (99, false)⟩, ⟨some 101, .load 30 (.tmp 2), 30, "", #[], some (99, false)⟩, ⟨some 102, .call { callee := .value (.func 20), args := #[.tmp 100, .tmp 101, .const (.int .i64 3), .const (.int .i64 7)], argTypes := #[22, 30, 3, 3] }, 4, "", #[], some (99, false)⟩, ⟨some 103, .unOp .not 4 (.tmp 102), 4, "", #[], some (99, false)⟩, o 104 (.pick (.tmp 99) (.const (.bool true)) (.tmp 103)) 4, m 105 104 4, ⟨some 106, .load 30 (.tmp 2), 30, "", #[], some (105, false)⟩, ⟨some 107, .call { callee := .value (.func 20), args := #[.const (.slice none 0 0), .tmp 106, .const (.int .i64 0), .const (.int .i64 7)], argTypes := #[22, 30, 3, 3] }, 4, "", #[], some (105, false)⟩, ⟨some 108, .unOp .not 4 (.tmp 107), 4, "", #[], some (105, false)⟩, o 109 (.pick (.tmp 105) (.const (.bool true)) (.tmp 108)) 4] false)
 (.cond (.tmp 109)
 (.seq (.region 12 #[o 0 (.assign (.const (.bool false))) 4] false)
 .ret)
 .skip))
 (.seq (.region 13 #[o 110 (.build 27 #[(2, .const (.int .u32 4))]) 27, o 111 (.load 30 (.tmp 3)) 30, o 112 (.buildSlice 28 1 #[(0, .tmp 111)]) 28, o 113 (.build 30 #[(0, .tmp 110), (2, .tmp 112)]) 30, o 114 (.call { callee := .value (.func 32), args := #[.tmp 113], argTypes := #[30] }) 34, o 115 (.binOp .eql 34 (.tmp 114) (.const (.int .i64 1)) 34) 4, m 116 115 4, ⟨some 117, .load 30 (.tmp 3), 30, "", #[], some (116, true)⟩, ⟨some 118, .load 30 (.tmp 1), 30, "", #[], some (116, true)⟩, ⟨some 119, .call { callee := .value (.func 37), args := #[.tmp 117, .tmp 118], argTypes := #[30, 30] }, 3, "", #[], some (116, true)⟩, ⟨some 120, .binOp .eql 3 (.tmp 119) (.const (.int .i64 (-1))) 3, 4, "", #[], some (116, true)⟩, o 121 (.pick (.tmp 116) (.tmp 120) (.const (.bool false))) 4, o 0 (.assign (.tmp 121)) 4] false)
 .ret)))))))))))
def fn18 : AFn := { ntmps := 122, results := [.tmp 0], body := c18, keep := fun | 0 => some [] | 1 => some [1] | 2 => some [1, 2] | 3 => some [1, 2, 3] | 4 => some [1, 2, 3, 31] | 5 => some [0] | 6 => some [1, 2, 3, 4, 5] | 7 => some [1, 2, 3, 4, 5, 7] | 8 => some [1, 2, 3, 4, 5, 7, 9, 11] | 9 => some [1, 2, 3, 76] | 10 => some [0] | 11 => some [1, 3, 109] | 12 => some [0] | 13 => some [0] | _ => none, head := fun  | _ => none, opn := fun _ => none, dyn := fun _ => [] }
def c20 : Code :=
  (.seq (.region 0 #[o 5 (.box 30 (.tmp 1)) 0, o 8 (.assign (.const (.bool false))) 4] false)
 (.seq (.region 1 #[m 13 0 22, o 14 (.call { callee := .value (.func 34), args := #[.tmp 13], argTypes := #[22] }) 56, m 12 14 56, o 15 (.extract (.tmp 12) 0) 30, o 16 (.extract (.tmp 12) 1) 3, o 17 (.extract (.tmp 12) 2) 34, o 9 (.alloc 30) 0, ⟨none, .store 30 (.tmp 9) (.tmp 15), 0, "", #[], none⟩, o 10 (.assign (.tmp 16)) 3, o 11 (.assign (.tmp 17)) 34] false)
 (.seq (.region 2 #[o 18 (.load 30 (.tmp 9)) 30, o 19 (.call { callee := .value (.func 26), args := #[.tmp 18, .const (.int .i64 9000)], argTypes := #[30, 3] }) 3, o 20 (.binOp .leq 3 (.tmp 19) (.const (.int .i64 9000)) 3) 4, m 21 20 4, ⟨some 22, .load 30 (.tmp 9), 30, "", #[], some (21, true)⟩, ⟨some 23, .load 30 (.tmp 5), 30, "", #[], some (21, true)⟩, ⟨some 24, .call { callee := .value (.func 24), args := #[.tmp 22, .tmp 23], argTypes := #[30, 30] }, 4, "", #[], some (21, true)⟩, o 25 (.pick (.tmp 21) (.tmp 24) (.const (.bool false))) 4, m 26 25 4, ⟨some 27, .load 30 (.tmp 9), 30, "", #[], some (26, true)⟩, ⟨some 28, .call { callee := .value (.func 27), args := #[.tmp 27], argTypes := #[30] }, 4, "", #[], some (26, true)⟩, o 29 (.pick (.tmp 26) (.tmp 28) (.const (.bool false))) 4, m 30 29 4, ⟨some 31, .move (.tmp 10), 3, "", #[], some (30, true)⟩, ⟨some 32, .move (.tmp 2), 3, "", #[], some (30, true)⟩, ⟨some 33, .binOp .eql 3 (.tmp 31) (.tmp 32) 3, 4, "", #[], some (30, true)⟩, o 34 (.pick (.tmp 30) (.tmp 33) (.const (.bool false))) 4, m 35 34 4, ⟨some 36, .move (.tmp 11), 34, "", #[], some (35, true)⟩, ⟨some 37, .move (.tmp 3), 3, "", #[], some (35, true)⟩, ⟨some 38, .binOp .eql 3 (.tmp 36) (.tmp 37) 3, 4, "", #[], some (35, true)⟩, o 39 (.pick (.tmp 35) (.tmp 38) (.const (.bool false))) 4, o 8 (.assign (.tmp 39)) 4] false)
 .ret)))
def fn20 : AFn := { ntmps := 40, results := [.tmp 8], body := c20, keep := fun | 0 => some [0, 2, 3, 5] | 1 => some [2, 3, 5, 9, 10, 11] | 2 => some [8] | _ => none, head := fun  | _ => none, opn := fun _ => none, dyn := fun _ => [] }
def c21 : Code :=
  (.seq (.region 0 #[o 1 (.box 30 (.tmp 0)) 0, o 2 (.assign (.const (.slice none 0 0))) 22, o 3 (.assign (.const (.int .i64 0))) 34] false)
 (.seq (.seq (.region 1 #[o 6 (.load 30 (.tmp 1)) 30, o 7 (.call { callee := .value (.func 32), args := #[.tmp 6], argTypes := #[30] }) 34, o 4 (.assign (.tmp 7)) 34] false)
 (.seq (.region 2 #[m 8 4 34, o 9 (.binOp .neq 34 (.tmp 8) (.const (.int .i64 0)) 34) 4] false)
 (.cond (.tmp 9)
 (.seq (.region 3 #[m 10 4 34, o 2 (.assign (.const (.slice none 0 0))) 22, o 3 (.assign (.tmp 10)) 34] false)
 .ret)
 .skip)))
 (.seq (.region 4 #[o 11 (.load 30 (.tmp 1)) 30, o 12 (.call { callee := .value (.func 69), args := #[.tmp 11], argTypes := #[30] }) 3, o 5 (.assign (.tmp 12)) 3] false)
 (.seq (.seq (.region 5 #[m 13 5 3, o 14 (.binOp .gtr 3 (.tmp 13) (.const (.int .i64 1048576)) 3) 4] false)
 (.cond (.tmp 14)
 (.seq (.region 6 #[o 2 (.assign (.const (.slice none 0 0))) 22, o 3 (.assign (.const (.int .i64 3))) 34] false)
 .ret)
 .skip))
 (.seq (.region 7 #[m 15 5 3, o 16 (.makeSlice 22 (.const (.int .i64 0)) (.tmp 15)) 22, o 17 (.load 30 (.tmp 1)) 30, o 18 (.call { callee := .value (.func 70), args := #[.tmp 16, .tmp 17], argTypes := #[22, 30] }) 22, o 2 (.assign (.tmp 18)) 22, o 3 (.assign (.const (.int .i64 0))) 34] true)
 .ret)))))
def fn21 : AFn := { ntmps := 19, results := [.tmp 2, .tmp 3], body := c21, keep := fun | 0 => some [1] | 1 => some [1, 4] | 2 => some [1, 4, 9] | 3 => some [2, 3] | 4 => some [1, 5] | 5 => some [1, 5, 14] | 6 => some [2, 3] | 7 => some [2, 3] | _ => none, head := fun  | _ => none, opn := opnT, dyn := fun | 7 => [(3, 3)] | _ => [] }
def c22 : Code :=
  (.seq (.region 0 #[o 1 (.box 40 (.tmp 0)) 0, o 2 (.alloc 30) 0] false)
 (.seq (.region 1 #[o 3 (.assign (.const (.slice none 0 0))) 28] false)
 (.seq (.seq (.region 2 #[o 4 (.assign (.const (.int .i64 0))) 3] false)
 (.block 0 (.loop (.seq (.seq (.region 3 #[m 9 4 3, o 10 (.fieldAddr 40 (.tmp 1) 0) 0, o 11 (.load 38 (.tmp 10)) 38, o 12 (.call { callee := .builtin .len, args := #[.tmp 11], argTypes := #[38] }) 3, o 13 (.binOp .lss 3 (.tmp 9) (.tmp 12) 3) 4, m 14 13 4, ⟨some 15, .move (.tmp 4), 3, "", #[], some (14, true)⟩, ⟨some 16, .binOp .lss 3 (.tmp 15) (.const (.int .i64 39)) 3, 4, "", #[], some (14, true)⟩, o 17 (.pick (.tmp 14) (.tmp 16) (.const (.bool false))) 4] false)
 (.cond (.tmp 17)
 .skip
 (.exit 0)))
 (.seq (.block 1 (.seq (.region 5 #[o 20 (.fieldAddr 40 (.tmp 1) 0) 0, o 21 (.load 38 (.tmp 20)) 38, m 22 4 3, o 23 (.indexAddr 38 (.tmp 21) (.tmp 22)) 0, o 24 (.load 107 (.tmp 23)) 107, o 5 (.alloc 107) 0, ⟨none, .store 107 (.tmp 5) (.tmp 24), 0, "", #[], none⟩] false)
 (.seq (.seq (.region 6 #[o 25 (.fieldAddr 107 (.tmp 5) 0) 0, o 26 (.load 5 (.tmp 25)) 5, o 27 (.binOp .rem 5 (.tmp 26) (.const (.int .u8 3)) 5) 5, o 28 (.binOp .eql 5 (.tmp 27) (.const (.int .u8 0)) 5) 4] false)
 (.cond (.tmp 28)
 (.seq (.region 7 #[o 29 (.fieldAddr 107 (.tmp 5) 2) 0, o 30 (.fieldAddr 105 (.tmp 29) 1) 0, ⟨none, .store 5 (.tmp 30) (.const (.int .u8 0)), 0, "", #[], none⟩] false)
 (.seq (.region 8 #[o 31 (.fieldAddr 107 (.tmp 5) 2) 0, o 32 (.load 105 (.tmp 31)) 105, o 33 (.call { callee := .value (.func 71), args := #[.tmp 32], argTypes := #[105] }) 27, o 34 (.build 30 #[(0, .tmp 33)]) 30, o 6 (.alloc 30) 0, ⟨none, .store 30 (.tmp 6) (.tmp 34), 0, "", #[], none⟩] false)
 (.seq (.region 9 #[o 35 (.fieldAddr 30 (.tmp 6) 1) 0, o 36 (.load 22 (.tmp 35)) 22, o 37 (.fieldAddr 107 (.tmp 5) 3) 0, o 38 (.load 22 (.tmp 37)) 22, o 39 (.fieldAddr 107 (.tmp 5) 3) 0, o 40 (.load 22 (.tmp 39)) 22, o 41 (.call { callee := .builtin .len, args := #[.tmp 40], argTypes := #[22] }) 3, o 42 (.call { callee := .builtin .min, args := #[.const (.int .i64 20), .tmp 41], argTypes := #[3, 3] }) 3, o 43 (.slice 22 (.tmp 38) none (some (.tmp 42)) none) 22, ⟨some 44, .call { callee := .builtin .append, args := #[.tmp 36, .tmp 43], argTypes := #[22, 22] }, 22, "", fz, none⟩, o 45 (.fieldAddr 30 (.tmp 6) 1) 0, ⟨none, .store 22 (.tmp 45) (.tmp 44), 0, "", #[], none⟩] true)
 (.seq (.region 10 #[m 46 3 28, o 47 (.load 30 (.tmp 6)) 30, o 48 (.buildSlice 28 1 #[(0, .tmp 47)]) 28, o 49 (.call { callee := .builtin .append, args := #[.tmp 46, .tmp 48], argTypes := #[28, 28] }) 28, o 3 (.assign (.tmp 49)) 28] false)
 (.exit 1)))))
 .skip))
 (.seq (.region 11 #[o 50 (.fieldAddr 107 (.tmp 5) 2) 0, o 51 (.fieldAddr 105 (.tmp 50) 1) 0, ⟨none, .store 5 (.tmp 51) (.const (.int .u8 1)), 0, "", #[], none⟩] false)
 (.seq (.region 12 #[o 52 (.fieldAddr 107 (.tmp 5) 1) 0, o 53 (.load 5 (.tmp 52)) 5, o 54 (.binOp .rem 5 (.tmp 53) (.const (.int .u8 5)) 5) 5, o 55 (.convert 5 3 (.tmp 54)) 3, m 56 3 28, o 57 (.call { callee := .builtin .len, args := #[.tmp 56], argTypes := #[28] }) 3, o 58 (.call { callee := .builtin .min, args := #[.tmp 55, .tmp 57], argTypes := #[3, 3] }) 3, o 7 (.assign (.tmp 58)) 3] false)
 (.seq (.seq (.region 13 #[o 59 (.fieldAddr 107 (.tmp 5) 0) 0, o 60 (.load 5 (.tmp 59)) 5, o 61 (.binOp .rem 5 (.tmp 60) (.const (.int .u8 3)) 5) 5, o 62 (.binOp .eql 5 (.tmp 61) (.const (.int .u8 2)) 5) 4] false)
 (.cond (.tmp 62)
 (.region 14 #[m 63 3 28, o 64 (.call { callee := .builtin .len, args := #[.tmp 63], argTypes := #[28] }) 3, o 7 (.assign (.tmp 64)) 3] false)
 .skip))
 (.seq (.region 15 #[o 65 (.fieldAddr 107 (.tmp 5) 2) 0, o 66 (.load 105 (.tmp 65)) 105, o 67 (.call { callee := .value (.func 71), args := #[.tmp 66], argTypes := #[105] }) 27, o 68 (.build 30 #[(0, .tmp 67)]) 30, o 8 (.alloc 30) 0, ⟨none, .store 30 (.tmp 8) (.tmp 68), 0, "", #[], none⟩] false)
 (.seq (.region 16 #[o 69 (.fieldAddr 30 (.tmp 8) 2) 0, o 70 (.load 28 (.tmp 69)) 28, m 71 3 28, m 72 3 28, o 73 (.call { callee := .builtin .len, args := #[.tmp 72], argTypes := #[28] }) 3, m 74 7 3, o 75 (.binOp .sub 3 (.tmp 73) (.tmp 74) 3) 3, o 76 (.slice 28 (.tmp 71) (some (.tmp 75)) none none) 28, ⟨some 77, .call { callee := .builtin .append, args := #[.tmp 70, .tmp 76], argTypes := #[28, 28] }, 28, "", fz, none⟩, o 78 (.fieldAddr 30 (.tmp 8) 2) 0, ⟨none, .store 28 (.tmp 78) (.tmp 77), 0, "", #[], none⟩] true)
 (.seq (.region 17 #[o 79 (.load 30 (.tmp 8)) 30, o 80 (.call { callee := .value (.func 40), args := #[.tmp 79], argTypes := #[30] }) 3, o 81 (.binOp .lss 3 (.tmp 80) (.const (.int .i64 15)) 3) 4] false)
 (.cond (.tmp 81)
 (.region 18 #[o 82 (.buildSlice 28 0 #[]) 28, m 83 3 28, m 84 3 28, o 85 (.call { callee := .builtin .len, args := #[.tmp 84], argTypes := #[28] }) 3, m 86 7 3, o 87 (.binOp .sub 3 (.tmp 85) (.tmp 86) 3) 3, o 88 (.slice 28 (.tmp 83) none (some (.tmp 87)) none) 28, o 89 (.call { callee := .builtin .append, args := #[.tmp 82, .tmp 88], argTypes := #[28, 28] }) 28, o 90 (.load 30 (.tmp 8)) 30, o 91 (.buildSlice 28 1 #[(0, .tmp 90)]) 28, o 92 (.call { callee := .builtin .append, args := #[.tmp 89, .tmp 91], argTypes := #[28, 28] }) 28, o 3 (.assign (.tmp 92)) 28] true)
 .skip))))))))))
 (.region 4 #[m 18 4 3, o 19 (.binOp .add 3 (.tmp 18) (.const (.int .i64 1)) 3) 3, o 4 (.assign (.tmp 19)) 3] false))))))
 (.seq (.seq (.region 19 #[m 93 3 28, o 94 (.call { callee := .builtin .len, args := #[.tmp 93], argTypes := #[28] }) 3, o 95 (.binOp .eql 3 (.tmp 94) (.const (.int .i64 1)) 3) 4] false)
 (.cond (.tmp 95)
 (.seq (.region 20 #[m 96 3 28, o 97 (.indexAddr 28 (.tmp 96) (.const (.int .i64 0))) 0, o 98 (.load 30 (.tmp 97)) 30, ⟨none, .store 30 (.tmp 2) (.tmp 98), 0, "", #[], none⟩] false)
 .ret)
 .skip))
 (.seq (.region 21 #[o 99 (.build 27 #[(1, .const (.bool true)), (2, .const (.int .u32 16))]) 27, m 100 3 28, o 101 (.build 30 #[(0, .tmp 99), (2, .tmp 100)]) 30, ⟨none, .store 30 (.tmp 2) (.tmp 101), 0, "", #[], none⟩] false)
 .ret)))))
def fn22 : AFn := { ntmps := 102, results := [.cell 2 30], body := c22, keep := fun | 0 => some [1, 2] | 1 => some [1, 2, 3] | 2 => some [1, 2, 3, 4] | 3 => some [1, 2, 3, 4, 17] | 4 => some [1, 2, 3, 4] | 5 => some [1, 2, 3, 4, 5] | 6 => some [1, 2, 3, 4, 5, 28] | 7 => some [1, 2, 3, 4, 5] | 8 => some [1, 2, 3, 4, 5, 6] | 9 => some [1, 2, 3, 4, 6] | 10 => some [1, 2, 3, 4] | 11 => some [1, 2, 3, 4, 5] | 12 => some [1, 2, 3, 4, 5, 7] | 13 => some [1, 2, 3, 4, 5, 7, 62] | 14 => some [1, 2, 3, 4, 5, 7] | 15 => some [1, 2, 3, 4, 7, 8] | 16 => some [1, 2, 3, 4, 7, 8] | 17 => some [1, 2, 3, 4, 7, 8, 81] | 18 => some [1, 2, 3, 4] | 19 => some [2, 3, 95] | 20 => some [2] | 21 => some [2] | _ => none, head := fun | 3 => some [1, 2, 3, 4] | _ => none, opn := fun _ => none, dyn := fun | 18 => [(7, 8)] | _ => [] }
def d23_0 : Code :=
  (.region 0 #[o 2 (.alloc 30) 0, o 3 (.alloc 3) 0, o 4 (.alloc 3) 0, o 5 (.alloc 34) 0] false)
def d23_1 : Code :=
  (.region 1 #[m 7 0 22, o 8 (.call { callee := .builtin .len, args := #[.tmp 7], argTypes := #[22] }) 3, o 9 (.binOp .gtr 3 (.tmp 8) (.const (.int .i64 1048576)) 3) 4] false)
def d23_2 : Code :=
  (.cond (.tmp 9)
 (.seq (.region 2 #[o 10 (.build 30 #[]) 30, ⟨none, .store 30 (.tmp 2) (.tmp 10), 0, "", #[], none⟩, ⟨none, .store 3 (.tmp 3) (.const (.int .i64 0)), 0, "", #[], none⟩, ⟨none, .store 3 (.tmp 4) (.const (.int .i64 0)), 0, "", #[], none⟩, ⟨none, .store 34 (.tmp 5) (.const (.int .i64 3)), 0, "", #[], none⟩] false)
 .ret)
 .skip)
def d23_4 : Code :=
  (.region 4 #[m 12 0 22, o 13 (.build 113 #[(0, .tmp 12)]) 113, o 6 (.alloc 113) 0, ⟨none, .store 113 (.tmp 6) (.tmp 13), 0, "", #[], none⟩] false)
def d23_5 : Code :=
  (.region 5 #[m 15 0 22, o 16 (.call { callee := .builtin .len, args := #[.tmp 15], argTypes := #[22] }) 3, o 17 (.call { callee := .value (.func 73), args := #[.tmp 6, .const (.int .i64 0), .tmp 16, .const (.int .i64 1)], argTypes := #[113, 3, 3, 3] }) 114, m 14 17 114, o 18 (.extract (.tmp 14) 0) 30, o 19 (.extract (.tmp 14) 1) 3, ⟨none, .store 30 (.tmp 2) (.tmp 18), 0, "", #[], none⟩, ⟨none, .store 3 (.tmp 3) (.tmp 19), 0, "", #[], none⟩] false)
def d23_6 : Code :=
  (.region 6 #[o 20 (.load 30 (.tmp 2)) 30, o 21 (.load 3 (.tmp 3)) 3, ⟨none, .store 30 (.tmp 2) (.tmp 20), 0, "", #[], none⟩, ⟨none, .store 3 (.tmp 3) (.tmp 21), 0, "", #[], none⟩, ⟨none, .store 3 (.tmp 4) (.const (.int .i64 0)), 0, "", #[], none⟩, ⟨none, .store 34 (.tmp 5) (.const (.int .i64 0)), 0, "", #[], none⟩] true)
def d23_7 : Code :=
  .ret
def e23_0 : Code :=
  (.region 1 #[m 8 4 20, o 9 (.binOp .neq 20 (.tmp 8) (.const .nilIface) 20) 4] false)
def e23_1 : Code :=
  (.cond (.tmp 9)
 (.seq (.region 2 #[m 11 4 20, o 12 (.typeAssert (.tmp 11) 20 110 true) 111, m 10 12 111, o 13 (.extract (.tmp 10) 0) 110, o 14 (.extract (.tmp 10) 1) 4, o 5 (.alloc 110) 0, ⟨none, .store 110 (.tmp 5) (.tmp 13), 0, "", #[], none⟩, o 6 (.assign (.tmp 14)) 4] false)
 (.seq (.seq (.region 3 #[m 15 6 4, o 16 (.unOp .not 4 (.tmp 15)) 4] false)
 (.cond (.tmp 16)
 (.region 4 #[m 17 4 20, ⟨none, .panic (.tmp 17), 0, "", #[], none⟩] false)
 .skip))
 (.region 5 #[o 18 (.build 30 #[]) 30, o 19 (.fieldAddr 110 (.tmp 5) 0) 0, o 20 (.load 3 (.tmp 19)) 3, o 21 (.fieldAddr 110 (.tmp 5) 1) 0, o 22 (.load 34 (.tmp 21)) 34, ⟨none, .store 30 (.tmp 0) (.tmp 18), 0, "", #[], none⟩, ⟨none, .store 3 (.tmp 1) (.const (.int .i64 0)), 0, "", #[], none⟩, ⟨none, .store 3 (.tmp 2) (.tmp 20), 0, "", #[], none⟩, ⟨none, .store 34 (.tmp 3) (.tmp 22), 0, "", #[], none⟩] true)))
 .skip)
def fn23 : AFn := { ntmps := 22, results := [.cell 2 30, .cell 3 3, .cell 4 3, .cell 5 34], body := .refuse "", keep := fun | 0 => some [0, 2, 3, 4, 5] | 1 => some [0, 2, 3, 4, 5, 9] | 2 => some [2, 3, 4, 5] | 3 => some [0, 2, 3, 4, 5] | 4 => some [0, 2, 3, 4, 5, 6] | 5 => some [2, 3, 4, 5] | 6 => some [2, 3, 4, 5] | _ => none, head := fun  | _ => none, opn := opnT, dyn := fun | 6 => [(1, 2)] | _ => [] }
def gfn23 : AFn := { ntmps := 23, results := [], body := .refuse "", keep := fun | 0 => some [0, 1, 2, 3, 4] | 1 => some [0, 1, 2, 3, 4, 9] | 2 => some [0, 1, 2, 3, 4, 5, 6] | 3 => some [0, 1, 2, 3, 4, 5, 16] | 4 => some [0, 1, 2, 3, 5] | 5 => some [] | _ => none, head := fun  | _ => none, opn := opnT, dyn := fun | 5 => [(2, 5), (4, 5), (2, 6), (4, 6), (4, 7)] | _ => [] }
def grd23 : Grd := { pre := [d23_0, d23_1, d23_2], t := 11, caps := [2, 3, 4, 5], post := [d23_4, d23_5, d23_6, d23_7], g := 72, rs := [4, 7], gfn := gfn23, gpost := [e23_0, e23_1] }
def c24 : Code :=
  (.seq (.region 0 #[o 2 (.box 30 (.tmp 0)) 0, o 3 (.box 30 (.tmp 1)) 0, o 4 (.assign (.const (.bool false))) 4] false)
 (.seq (.seq (.region 1 #[o 6 (.fieldAddr 30 (.tmp 2) 0) 0, o 7 (.load 27 (.tmp 6)) 27, o 8 (.fieldAddr 30 (.tmp 3) 0) 0, o 9 (.load 27 (.tmp 8)) 27, o 10 (.binOp .neq 27 (.tmp 7) (.tmp 9) 27) 4, m 11 10 4, ⟨some 12, .fieldAddr 30 (.tmp 2) 1, 0, "", #[], some (11, false)⟩, ⟨some 13, .load 22 (.tmp 12), 22, "", #[], some (11, false)⟩, ⟨some 14, .convert 22 9 (.tmp 13), 9, "", #[], some (11, false)⟩, ⟨some 15, .fieldAddr 30 (.tmp 3) 1, 0, "", #[], some (11, false)⟩, ⟨some 16, .load 22 (.tmp 15), 22, "", #[], some (11, false)⟩, ⟨some 17, .convert 22 9 (.tmp 16), 9, "", #[], some (11, false)⟩, ⟨some 18, .binOp .neq 9 (.tmp 14) (.tmp 17) 9, 4, "", #[], some (11, false)⟩, o 19 (.pick (.tmp 11) (.const (.bool true)) (.tmp 18)) 4, m 20 19 4, ⟨some 21, .fieldAddr 30 (.tmp 2) 2, 0, "", #[], some (20, false)⟩, ⟨some 22, .load 28 (.tmp 21), 28, "", #[], some (20, false)⟩, ⟨some 23, .call { callee := .builtin .len, args := #[.tmp 22], argTypes := #[28] }, 3, "", #[], some (20, false)⟩, ⟨some 24, .fieldAddr 30 (.tmp 3) 2, 0, "", #[], some (20, false)⟩, ⟨some 25, .load 28 (.tmp 24), 28, "", #[], some (20, false)⟩, ⟨some 26, .call { callee := .builtin .len, args := #[.tmp 25], argTypes := #[28] }, 3, "", #[], some (20, false)⟩, ⟨some 27, .binOp .neq 3 (.tmp 23) (.tmp 26) 3, 4, "", #[], some (20, false)⟩, o 28 (.pick (.tmp 20) (.const (.bool true)) (.tmp 27)) 4] false)
 (.cond (.tmp 28)
 (.seq (.region 2 #[o 4 (.assign (.const (.bool false))) 4] false)
 .ret)
 .skip))
 (.seq (.seq (.region 3 #[o 5 (.assign (.const (.int .i64 0))) 3] false)
 (.block 0 (.loop (.seq (.seq (.region 4 #[m 29 5 3, o 30 (.fieldAddr 30 (.tmp 2) 2) 0, o 31 (.load 28 (.tmp 30)) 28, o 32 (.call { callee := .builtin .len, args := #[.tmp 31], argTypes := #[28] }) 3, o 33 (.binOp .lss 3 (.tmp 29) (.tmp 32) 3) 4] false)
 (.cond (.tmp 33)
 .skip
 (.exit 0)))
 (.seq (.block 1 (.seq (.region 6 #[o 36 (.fieldAddr 30 (.tmp 2) 2) 0, o 37 (.load 28 (.tmp 36)) 28, m 38 5 3, o 39 (.indexAddr 28 (.tmp 37) (.tmp 38)) 0, o 40 (.load 30 (.tmp 39)) 30, o 41 (.fieldAddr 30 (.tmp 3) 2) 0, o 42 (.load 28 (.tmp 41)) 28, m 43 5 3, o 44 (.indexAddr 28 (.tmp 42) (.tmp 43)) 0, o 45 (.load 30 (.tmp 44)) 30, o 46 (.call { callee := .value (.func 24), args := #[.tmp 40, .tmp 45], argTypes := #[30, 30] }) 4, o 47 (.unOp .not 4 (.tmp 46)) 4] true)
 (.cond (.tmp 47)
 (.seq (.region 7 #[o 4 (.assign (.const (.bool false))) 4] false)
 .ret)
 .skip)))
 (.region 5 #[m 34 5 3, o 35 (.binOp .add 3 (.tmp 34) (.const (.int .i64 1)) 3) 3, o 5 (.assign (.tmp 35)) 3] false))))))
 (.seq (.region 8 #[o 4 (.assign (.const (.bool true))) 4] false)
 .ret))))
def fn24 : AFn := { ntmps := 48, results := [.tmp 4], body := c24, keep := fun | 0 => some [2, 3] | 1 => some [2, 3, 28] | 2 => some [4] | 3 => some [2, 3, 5] | 4 => some [2, 3, 5, 33] | 5 => some [2, 3, 5] | 6 => some [2, 3, 5, 47] | 7 => some [4] | 8 => some [4] | _ => none, head := fun | 4 => some [2, 3, 5] | _ => none, opn := fun _ => none, dyn := fun _ => [] }
def c25 : Code :=
  (.seq (.region 0 #[o 2 (.box 30 (.tmp 0)) 0, o 4 (.alloc 30) 0, o 5 (.assign (.const (.int .i64 0))) 34] false)
 (.seq (.seq (.region 1 #[o 9 (.load 30 (.tmp 2)) 30, o 10 (.call { callee := .value (.func 32), args := #[.tmp 9], argTypes := #[30] }) 34, o 6 (.assign (.tmp 10)) 34] false)
 (.seq (.region 2 #[m 11 6 34, o 12 (.binOp .neq 34 (.tmp 11) (.const (.int .i64 0)) 34) 4] false)
 (.cond (.tmp 12)
 (.seq (.region 3 #[o 13 (.build 30 #[]) 30, m 14 6 34, ⟨none, .store 30 (.tmp 4) (.tmp 13), 0, "", #[], none⟩, o 5 (.assign (.tmp 14)) 34] false)
 .ret)
 .skip)))
 (.seq (.seq (.region 4 #[m 15 1 47, o 16 (.call { callee := .builtin .len, args := #[.tmp 15], argTypes := #[47] }) 3, o 17 (.move (.const (.int .i64 0))) 3] false)
 (.block 0 (.loop (.seq (.region 5 #[o 18 (.binOp .lss 3 (.tmp 17) (.tmp 16) 3) 0] false)
 (.seq (.cond (.tmp 18)
 .skip
 (.exit 0))
 (.seq (.block 1 (.seq (.region 6 #[o 19 (.indexAddr 47 (.tmp 15) (.tmp 17)) 0, o 20 (.load 3 (.tmp 19)) 3, o 8 (.assign (.tmp 20)) 3] false)
 (.seq (.seq (.region 7 #[m 21 8 3, o 22 (.binOp .lss 3 (.tmp 21) (.const (.int .i64 0)) 3) 4, m 23 22 4, ⟨some 24, .move (.tmp 8), 3, "", #[], some (23, false)⟩, ⟨some 25, .fieldAddr 30 (.tmp 2) 2, 0, "", #[], some (23, false)⟩, ⟨some 26, .load 28 (.tmp 25), 28, "", #[], some (23, false)⟩, ⟨some 27, .call { callee := .builtin .len, args := #[.tmp 26], argTypes := #[28] }, 3, "", #[], some (23, false)⟩, ⟨some 28, .binOp .geq 3 (.tmp 24) (.tmp 27) 3, 4, "", #[], some (23, false)⟩, o 29 (.pick (.tmp 23) (.const (.bool true)) (.tmp 28)) 4] false)
 (.cond (.tmp 29)
 (.seq (.region 8 #[o 30 (.build 30 #[]) 30, ⟨none, .store 30 (.tmp 4) (.tmp 30), 0, "", #[], none⟩, o 5 (.assign (.const (.int .i64 19))) 34] false)
 .ret)
 .skip))
 (.region 9 #[o 31 (.fieldAddr 30 (.tmp 2) 2) 0, o 32 (.load 28 (.tmp 31)) 28, m 33 8 3, o 34 (.indexAddr 28 (.tmp 32) (.tmp 33)) 0, o 35 (.load 30 (.tmp 34)) 30, ⟨none, .store 30 (.tmp 2) (.tmp 35), 0, "", #[], none⟩] false))))
 (.region 10 #[o 36 (.binOp .add 3 (.tmp 17) (.const (.int .i64 1)) 3) 3, m 17 36 3] false)))))))
 (.seq (.region 11 #[o 37 (.load 30 (.tmp 2)) 30, o 38 (.call { callee := .value (.func 74), args := #[.tmp 37], argTypes := #[30] }) 30, ⟨none, .store 30 (.tmp 4) (.tmp 38), 0, "", #[], none⟩, o 5 (.assign (.const (.int .i64 0))) 34] false)
 .ret))))
def fn25 : AFn := { ntmps := 39, results := [.cell 4 30, .tmp 5], body := c25, keep := fun | 0 => some [1, 2, 4] | 1 => some [1, 2, 4, 6] | 2 => some [1, 2, 4, 6, 12] | 3 => some [4, 5] | 4 => some [2, 4, 15, 16, 17] | 5 => some [2, 4, 15, 16, 17, 18] | 6 => some [2, 4, 8, 15, 16, 17] | 7 => some [2, 4, 8, 15, 16, 17, 29] | 8 => some [4, 5] | 9 => some [2, 4, 15, 16, 17] | 10 => some [2, 4, 15, 16, 17] | 11 => some [4, 5] | _ => none, head := fun | 5 => some [2, 4, 15, 16, 17] | _ => none, opn := fun _ => none, dyn := fun _ => [] }
def c26 : Code :=
  (.seq (.region 0 #[o 2 (.box 30 (.tmp 0)) 0, o 4 (.assign (.const (.int .i64 0))) 3] false)
 (.seq (.seq (.region 1 #[m 7 1 3, o 8 (.binOp .leq 3 (.tmp 7) (.const (.int .i64 0)) 3) 4] false)
 (.cond (.tmp 8)
 (.seq (.region 2 #[o 4 (.assign (.const (.int .i64 1))) 3] false)
 .ret)
 .skip))
 (.seq (.region 3 #[o 5 (.assign (.const (.int .i64 1))) 3] false)
 (.seq (.seq (.region 4 #[o 6 (.assign (.const (.int .i64 0))) 3] false)
 (.block 0 (.loop (.seq (.seq (.region 5 #[m 9 6 3, o 10 (.fieldAddr 30 (.tmp 2) 2) 0, o 11 (.load 28 (.tmp 10)) 28, o 12 (.call { callee := .builtin .len, args := #[.tmp 11], argTypes := #[28] }) 3, o 13 (.binOp .lss 3 (.tmp 9) (.tmp 12) 3) 4, m 14 13 4, ⟨some 15, .move (.tmp 5), 3, "", #[], some (14, true)⟩, ⟨some 16, .move (.tmp 1), 3, "", #[], some (14, true)⟩, ⟨some 17, .binOp .leq 3 (.tmp 15) (.tmp 16) 3, 4, "", #[], some (14, true)⟩, o 18 (.pick (.tmp 14) (.tmp 17) (.const (.bool false))) 4] false)
 (.cond (.tmp 18)
 .skip
 (.exit 0)))
 (.seq (.block 1 (.region 7 #[m 21 5 3, o 22 (.fieldAddr 30 (.tmp 2) 2) 0, o 23 (.load 28 (.tmp 22)) 28, m 24 6 3, o 25 (.indexAddr 28 (.tmp 23) (.tmp 24)) 0, o 26 (.load 30 (.tmp 25)) 30, m 27 1 3, m 28 5 3, o 29 (.binOp .sub 3 (.tmp 27) (.tmp 28) 3) 3, o 30 (.call { callee := .value (.func 26), args := #[.tmp 26, .tmp 29], argTypes := #[30, 3] }) 3, o 31 (.binOp .add 3 (.tmp 21) (.tmp 30) 3) 3, o 5 (.assign (.tmp 31)) 3] false))
 (.region 6 #[m 19 6 3, o 20 (.binOp .add 3 (.tmp 19) (.const (.int .i64 1)) 3) 3, o 6 (.assign (.tmp 20)) 3] false))))))
 (.seq (.region 8 #[m 32 5 3, o 4 (.assign (.tmp 32)) 3] false)
 .ret)))))
def fn26 : AFn := { ntmps := 33, results := [.tmp 4], body := c26, keep := fun | 0 => some [1, 2] | 1 => some [1, 2, 8] | 2 => some [4] | 3 => some [1, 2, 5] | 4 => some [1, 2, 5, 6] | 5 => some [1, 2, 5, 6, 18] | 6 => some [1, 2, 5, 6] | 7 => some [1, 2, 5, 6] | 8 => some [4] | _ => none, head := fun | 5 => some [1, 2, 5, 6] | _ => none, opn := fun _ => none, dyn := fun _ => [] }
def c27 : Code :=
  (.seq (.region 0 #[o 1 (.box 30 (.tmp 0)) 0, o 2 (.assign (.const (.bool false))) 4] false)
 (.seq (.seq (.region 1 #[o 4 (.fieldAddr 30 (.tmp 1) 1) 0, o 5 (.load 22 (.tmp 4)) 22, o 6 (.call { callee := .builtin .cap, args := #[.tmp 5], argTypes := #[22] }) 3, o 7 (.fieldAddr 30 (.tmp 1) 1) 0, o 8 (.load 22 (.tmp 7)) 22, o 9 (.call { callee := .builtin .len, args := #[.tmp 8], argTypes := #[22] }) 3, o 10 (.binOp .neq 3 (.tmp 6) (.tmp 9) 3) 4, m 11 10 4, ⟨some 12, .fieldAddr 30 (.tmp 1) 2, 0, "", #[], some (11, false)⟩, ⟨some 13, .load 28 (.tmp 12), 28, "", #[], some (11, false)⟩, ⟨some 14, .call { callee := .builtin .cap, args := #[.tmp 13], argTypes := #[28] }, 3, "", #[], some (11, false)⟩, ⟨some 15, .fieldAddr 30 (.tmp 1) 2, 0, "", #[], some (11, false)⟩, ⟨some 16, .load 28 (.tmp 15), 28, "", #[], some (11, false)⟩, ⟨some 17, .call { callee := .builtin .len, args := #[.tmp 16], argTypes := #[28] }, 3, "", #[], some (11, false)⟩, ⟨some 18, .binOp .neq 3 (.tmp 14) (.tmp 17) 3, 4, "", #[], some (11, false)⟩, o 19 (.pick (.tmp 11) (.const (.bool true)) (.tmp 18)) 4] false)
 (.cond (.tmp 19)
 (.seq (.region 2 #[o 2 (.assign (.const (.bool false))) 4] false)
 .ret)
 .skip))
 (.seq (.seq (.region 3 #[o 3 (.assign (.const (.int .i64 0))) 3] false)
 (.block 0 (.loop (.seq (.seq (.region 4 #[m 20 3 3, o 21 (.fieldAddr 30 (.tmp 1) 2) 0, o 22 (.load 28 (.tmp 21)) 28, o 23 (.call { callee := .builtin .len, args := #[.tmp 22], argTypes := #[28] }) 3, o 24 (.binOp .lss 3 (.tmp 20) (.tmp 23) 3) 4] false)
 (.cond (.tmp 24)
 .skip
 (.exit 0)))
 (.seq (.block 1 (.seq (.region 6 #[o 27 (.fieldAddr 30 (.tmp 1) 2) 0, o 28 (.load 28 (.tmp 27)) 28, m 29 3 3, o 30 (.indexAddr 28 (.tmp 28) (.tmp 29)) 0, o 31 (.load 30 (.tmp 30)) 30, o 32 (.call { callee := .value (.func 27), args := #[.tmp 31], argTypes := #[30] }) 4, o 33 (.unOp .not 4 (.tmp 32)) 4] false)
 (.cond (.tmp 33)
 (.seq (.region 7 #[o 2 (.assign (.const (.bool false))) 4] false)
 .ret)
 .skip)))
 (.region 5 #[m 25 3 3, o 26 (.binOp .add 3 (.tmp 25) (.const (.int .i64 1)) 3) 3, o 3 (.assign (.tmp 26)) 3] false))))))
 (.seq (.region 8 #[o 2 (.assign (.const (.bool true))) 4] false)
 .ret))))
def fn27 : AFn := { ntmps := 34, results := [.tmp 2], body := c27, keep := fun | 0 => some [1] | 1 => some [1, 19] | 2 => some [2] | 3 => some [1, 3] | 4 => some [1, 3, 24] | 5 => some [1, 3] | 6 => some [1, 3, 33] | 7 => some [2] | 8 => some [2] | _ => none, head := fun | 4 => some [1, 3] | _ => none, opn := fun _ => none, dyn := fun _ => [] }
def c28 : Code :=
  (.seq (.region 0 #[o 1 (.box 30 (.tmp 0)) 0, o 2 (.assign (.const (.int .i64 0))) 3] false)
 (.seq (.seq (.region 1 #[o 4 (.load 30 (.tmp 1)) 30, o 5 (.call { callee := .value (.func 32), args := #[.tmp 4], argTypes := #[30] }) 34, o 6 (.binOp .neq 34 (.tmp 5) (.const (.int .i64 0)) 34) 4] false)
 (.cond (.tmp 6)
 (.seq (.region 2 #[o 2 (.assign (.const (.int .i64 0))) 3] false)
 .ret)
 .skip))
 (.seq (.region 3 #[o 7 (.load 30 (.tmp 1)) 30, o 8 (.call { callee := .value (.func 69), args := #[.tmp 7], argTypes := #[30] }) 3, o 3 (.assign (.tmp 8)) 3] false)
 (.seq (.seq (.region 4 #[m 9 3 3, o 10 (.binOp .gtr 3 (.tmp 9) (.const (.int .i64 1048576)) 3) 4] false)
 (.cond (.tmp 10)
 (.seq (.region 5 #[o 2 (.assign (.const (.int .i64 0))) 3] false)
 .ret)
 .skip))
 (.seq (.region 6 #[m 11 3 3, o 2 (.assign (.tmp 11)) 3] false)
 .ret)))))
def fn28 : AFn := { ntmps := 12, results := [.tmp 2], body := c28, keep := fun | 0 => some [1] | 1 => some [1, 6] | 2 => some [2] | 3 => some [3] | 4 => some [3, 10] | 5 => some [2] | 6 => some [2] | _ => none, head := fun  | _ => none, opn := fun _ => none, dyn := fun _ => [] }
def c29 : Code :=
  (.seq (.region 0 #[o 1 (.box 30 (.tmp 0)) 0, o 2 (.assign (.const (.int .i64 0))) 3] false)
 (.seq (.region 1 #[o 7 (.load 30 (.tmp 1)) 30, o 8 (.call { callee := .value (.func 75), args := #[.tmp 7], argTypes := #[30] }) 116, m 6 8 116, o 9 (.extract (.tmp 6) 0) 34, o 10 (.extract (.tmp 6) 1) 3, o 11 (.extract (.tmp 6) 2) 3, o 3 (.assign (.tmp 9)) 34, o 4 (.assign (.tmp 10)) 3, o 5 (.assign (.tmp 11)) 3] false)
 (.seq (.region 2 #[m 12 4 3, o 2 (.assign (.tmp 12)) 3] false)
 .ret)))
def fn29 : AFn := { ntmps := 13, results := [.tmp 2], body := c29, keep := fun | 0 => some [1] | 1 => some [4] | 2 => some [2] | _ => none, head := fun  | _ => none, opn := fun _ => none, dyn := fun _ => [] }
def c30 : Code :=
  (.seq (.region 0 #[o 1 (.box 30 (.tmp 0)) 0, o 2 (.assign (.const (.int .i64 0))) 3] false)
 (.seq (.region 1 #[o 7 (.load 30 (.tmp 1)) 30, o 8 (.call { callee := .value (.func 75), args := #[.tmp 7], argTypes := #[30] }) 116, m 6 8 116, o 9 (.extract (.tmp 6) 0) 34, o 10 (.extract (.tmp 6) 1) 3, o 11 (.extract (.tmp 6) 2) 3, o 3 (.assign (.tmp 9)) 34, o 4 (.assign (.tmp 10)) 3, o 5 (.assign (.tmp 11)) 3] false)
 (.seq (.region 2 #[m 12 5 3, o 2 (.assign (.tmp 12)) 3] false)
 .ret)))
def fn30 : AFn := { ntmps := 13, results := [.tmp 2], body := c30, keep := fun | 0 => some [1] | 1 => some [5] | 2 => some [2] | _ => none, head := fun  | _ => none, opn := fun _ => none, dyn := fun _ => [] }
def c32 : Code :=
  (.seq (.region 0 #[o 1 (.box 30 (.tmp 0)) 0, o 2 (.assign (.const (.int .i64 0))) 34] false)
 (.seq (.region 1 #[o 7 (.load 30 (.tmp 1)) 30, o 8 (.call { callee := .value (.func 75), args := #[.tmp 7], argTypes := #[30] }) 116, m 6 8 116, o 9 (.extract (.tmp 6) 0) 34, o 10 (.extract (.tmp 6) 1) 3, o 11 (.extract (.tmp 6) 2) 3, o 3 (.assign (.tmp 9)) 34, o 4 (.assign (.tmp 10)) 3, o 5 (.assign (.tmp 11)) 3] false)
 (.seq (.region 2 #[m 12 3 34, o 2 (.assign (.tmp 12)) 34] false)
 .ret)))
def fn32 : AFn := { ntmps := 13, results := [.tmp 2], body := c32, keep := fun | 0 => some [1] | 1 => some [3] | 2 => some [2] | _ => none, head := fun  | _ => none, opn := fun _ => none, dyn := fun _ => [] }
def c34 : Code :=
  (.seq (.region 0 #[o 2 (.alloc 30) 0, o 3 (.assign (.const (.int .i64 0))) 3, o 4 (.assign (.const (.int .i64 0))) 34] false)
 (.seq (.region 1 #[m 7 0 22, o 8 (.call { callee := .value (.func 23), args := #[.tmp 7], argTypes := #[22] }) 43, m 6 8 43, o 9 (.extract (.tmp 6) 0) 30, o 10 (.extract (.tmp 6) 1) 3, o 11 (.extract (.tmp 6) 2) 3, o 12 (.extract (.tmp 6) 3) 34, ⟨none, .store 30 (.tmp 2) (.tmp 9), 0, "", #[], none⟩, o 5 (.assign (.tmp 10)) 3, o 3 (.assign (.tmp 11)) 3, o 4 (.assign (.tmp 12)) 34] false)
 (.seq (.block 0 (.seq (.region 2 #[m 14 4 34, o 15 (.binOp .neq 34 (.tmp 14) (.const (.int .i64 0)) 34) 4, o 13 (.assign (.tmp 15)) 4] false)
 (.cond (.tmp 13)
 (.seq (.region 3 #[o 16 (.build 30 #[]) 30, m 17 3 3, m 18 4 34, ⟨none, .store 30 (.tmp 2) (.tmp 16), 0, "", #[], none⟩, o 3 (.assign (.tmp 17)) 3, o 4 (.assign (.tmp 18)) 34] false)
 .ret)
 (.seq (.region 4 #[m 20 5 3, m 21 0 22, o 22 (.call { callee := .builtin .len, args := #[.tmp 21], argTypes := #[22] }) 3, o 23 (.binOp .lss 3 (.tmp 20) (.tmp 22) 3) 4, o 19 (.assign (.tmp 23)) 4] false)
 (.cond (.tmp 19)
 (.seq (.region 5 #[o 24 (.build 30 #[]) 30, m 25 5 3, ⟨none, .store 30 (.tmp 2) (.tmp 24), 0, "", #[], none⟩, o 3 (.assign (.tmp 25)) 3, o 4 (.assign (.const (.int .i64 8))) 34] false)
 .ret)
 .skip)))))
 (.seq (.region 6 #[o 26 (.load 30 (.tmp 2)) 30, ⟨none, .store 30 (.tmp 2) (.tmp 26), 0, "", #[], none⟩, o 3 (.assign (.const (.int .i64 0))) 3, o 4 (.assign (.const (.int .i64 0))) 34] false)
 .ret))))
def fn34 : AFn := { ntmps := 27, results := [.cell 2 30, .tmp 3, .tmp 4], body := c34, keep := fun | 0 => some [0, 2] | 1 => some [0, 2, 3, 4, 5] | 2 => some [0, 2, 3, 4, 5, 13] | 3 => some [2, 3, 4] | 4 => some [2, 5, 19] | 5 => some [2, 3, 4] | 6 => some [2, 3, 4] | _ => none, head := fun  | _ => none, opn := fun _ => none, dyn := fun _ => [] }
def c35 : Code :=
  (.seq (.region 0 #[o 1 (.box 30 (.tmp 0)) 0, o 2 (.assign (.const (.slice none 0 0))) 22] false)
 (.seq (.region 1 #[o 5 (.buildSlice 22 0 #[]) 22, o 6 (.fieldAddr 30 (.tmp 1) 1) 0, o 7 (.load 22 (.tmp 6)) 22, o 8 (.call { callee := .builtin .append, args := #[.tmp 5, .tmp 7], argTypes := #[22, 22] }) 22, o 3 (.assign (.tmp 8)) 22] false)
 (.seq (.seq (.region 2 #[o 4 (.assign (.const (.int .i64 0))) 3] false)
 (.block 0 (.loop (.seq (.seq (.region 3 #[m 9 4 3, o 10 (.fieldAddr 30 (.tmp 1) 2) 0, o 11 (.load 28 (.tmp 10)) 28, o 12 (.call { callee := .builtin .len, args := #[.tmp 11], argTypes := #[28] }) 3, o 13 (.binOp .lss 3 (.tmp 9) (.tmp 12) 3) 4] false)
 (.cond (.tmp 13)
 .skip
 (.exit 0)))
 (.seq (.block 1 (.region 5 #[m 16 3 22, o 17 (.fieldAddr 30 (.tmp 1) 2) 0, o 18 (.load 28 (.tmp 17)) 28, m 19 4 3, o 20 (.indexAddr 28 (.tmp 18) (.tmp 19)) 0, o 21 (.load 30 (.tmp 20)) 30, o 22 (.call { callee := .value (.func 35), args := #[.tmp 21], argTypes := #[30] }) 22, o 23 (.call { callee := .builtin .append, args := #[.tmp 16, .tmp 22], argTypes := #[22, 22] }) 22, o 3 (.assign (.tmp 23)) 22] false))
 (.region 4 #[m 14 4 3, o 15 (.binOp .add 3 (.tmp 14) (.const (.int .i64 1)) 3) 3, o 4 (.assign (.tmp 15)) 3] false))))))
 (.seq (.region 6 #[o 24 (.fieldAddr 30 (.tmp 1) 0) 0, o 25 (.load 27 (.tmp 24)) 27, o 26 (.call { callee := .value (.func 76), args := #[.tmp 25], argTypes := #[27] }) 22, m 27 3 22, o 28 (.call { callee := .builtin .len, args := #[.tmp 27], argTypes := #[22] }) 3, o 29 (.call { callee := .value (.func 77), args := #[.tmp 28], argTypes := #[3] }) 22, o 30 (.call { callee := .builtin .append, args := #[.tmp 26, .tmp 29], argTypes := #[22, 22] }) 22, m 31 3 22, o 32 (.call { callee := .builtin .append, args := #[.tmp 30, .tmp 31], argTypes := #[22, 22] }) 22, o 2 (.assign (.tmp 32)) 22] false)
 .ret))))
def fn35 : AFn := { ntmps := 33, results := [.tmp 2], body := c35, keep := fun | 0 => some [1] | 1 => some [1, 3] | 2 => some [1, 3, 4] | 3 => some [1, 3, 4, 13] | 4 => some [1, 3, 4] | 5 => some [1, 3, 4] | 6 => some [2] | _ => none, head := fun | 3 => some [1, 3, 4] | _ => none, opn := opnT, dyn := fun _ => [] }
def c36 : Code :=
  (.seq (.region 0 #[o 2 (.box 30 (.tmp 0)) 0, o 3 (.box 30 (.tmp 1)) 0, o 4 (.assign (.const (.bool false))) 4] false)
 (.seq (.region 1 #[o 5 (.load 30 (.tmp 2)) 30, o 6 (.call { callee := .value (.func 32), args := #[.tmp 5], argTypes := #[30] }) 34, o 7 (.binOp .eql 34 (.tmp 6) (.const (.int .i64 0)) 34) 4, m 8 7 4, ⟨some 9, .load 30 (.tmp 3), 30, "", #[], some (8, true)⟩, ⟨some 10, .call { callee := .value (.func 32), args := #[.tmp 9], argTypes := #[30] }, 34, "", #[], some (8, true)⟩, ⟨some 11, .binOp .eql 34 (.tmp 10) (.const (.int .i64 0)) 34, 4, "", #[], some (8, true)⟩, o 12 (.pick (.tmp 8) (.tmp 11) (.const (.bool false))) 4, m 13 12 4, ⟨some 14, .load 30 (.tmp 2), 30, "", #[], some (13, true)⟩, ⟨some 15, .load 30 (.tmp 3), 30, "", #[], some (13, true)⟩, ⟨some 16, .call { callee := .value (.func 78), args := #[.tmp 14, .tmp 15], argTypes := #[30, 30] }, 4, "", #[], some (13, true)⟩, o 17 (.pick (.tmp 13) (.tmp 16) (.const (.bool false))) 4, o 4 (.assign (.tmp 17)) 4] false)
 .ret))
def fn36 : AFn := { ntmps := 18, results := [.tmp 4], body := c36, keep := fun | 0 => some [2, 3] | 1 => some [4] | _ => none, head := fun  | _ => none, opn := fun _ => none, dyn := fun _ => [] }
def c37 : Code :=
  (.seq (.region 0 #[o 2 (.box 30 (.tmp 0)) 0, o 3 (.box 30 (.tmp 1)) 0, o 4 (.assign (.const (.int .i64 0))) 3] false)
 (.seq (.region 1 #[o 10 (.load 30 (.tmp 2)) 30, o 11 (.call { callee := .value (.func 21), args := #[.tmp 10], argTypes := #[30] }) 35, m 9 11 35, o 12 (.extract (.tmp 9) 0) 22, o 13 (.extract (.tmp 9) 1) 34, o 5 (.assign (.tmp 12)) 22, o 6 (.assign (.tmp 13)) 34] false)
 (.seq (.region 2 #[o 15 (.load 30 (.tmp 3)) 30, o 16 (.call { callee := .value (.func 21), args := #[.tmp 15], argTypes := #[30] }) 35, m 14 16 35, o 17 (.extract (.tmp 14) 0) 22, o 18 (.extract (.tmp 14) 1) 34, o 7 (.assign (.tmp 17)) 22, o 8 (.assign (.tmp 18)) 34] false)
 (.seq (.region 3 #[m 19 5 22, m 20 7 22, o 21 (.call { callee := .value (.func 79), args := #[.tmp 19, .tmp 20], argTypes := #[22, 22] }) 3, o 4 (.assign (.tmp 21)) 3] false)
 .ret))))
def fn37 : AFn := { ntmps := 22, results := [.tmp 4], body := c37, keep := fun | 0 => some [2, 3] | 1 => some [3, 5] | 2 => some [5, 7] | 3 => some [4] | _ => none, head := fun  | _ => none, opn := fun _ => none, dyn := fun _ => [] }
def c38 : Code :=
  (.seq (.region 0 #[o 1 (.box 30 (.tmp 0)) 0, o 2 (.assign (.const (.int .i64 0))) 3] false)
 (.seq (.seq (.region 1 #[o 4 (.load 30 (.tmp 1)) 30, o 5 (.call { callee := .value (.func 26), args := #[.tmp 4, .const (.int .i64 60)], argTypes := #[30, 3] }) 3, o 6 (.binOp .gtr 3 (.tmp 5) (.const (.int .i64 60)) 3) 4] false)
 (.cond (.tmp 6)
 (.seq (.region 2 #[o 2 (.assign (.const (.int .i64 0))) 3] false)
 .ret)
 .skip))
 (.seq (.seq (.region 3 #[o 7 (.fieldAddr 30 (.tmp 1) 1) 0, o 8 (.load 22 (.tmp 7)) 22, o 9 (.call { callee := .builtin .len, args := #[.tmp 8], argTypes := #[22] }) 3, o 10 (.binOp .gtr 3 (.tmp 9) (.const (.int .i64 200)) 3) 4] false)
 (.cond (.tmp 10)
 (.seq (.region 4 #[o 2 (.assign (.const (.int .i64 0))) 3] false)
 .ret)
 .skip))
 (.seq (.seq (.region 5 #[o 3 (.assign (.const (.int .i64 0))) 3] false)
 (.block 0 (.loop (.seq (.seq (.region 6 #[m 11 3 3, o 12 (.fieldAddr 30 (.tmp 1) 2) 0, o 13 (.load 28 (.tmp 12)) 28, o 14 (.call { callee := .builtin .len, args := #[.tmp 13], argTypes := #[28] }) 3, o 15 (.binOp .lss 3 (.tmp 11) (.tmp 14) 3) 4] false)
 (.cond (.tmp 15)
 .skip
 (.exit 0)))
 (.seq (.block 1 (.seq (.region 8 #[o 18 (.fieldAddr 30 (.tmp 1) 2) 0, o 19 (.load 28 (.tmp 18)) 28, m 20 3 3, o 21 (.indexAddr 28 (.tmp 19) (.tmp 20)) 0, o 22 (.load 30 (.tmp 21)) 30, o 23 (.call { callee := .value (.func 38), args := #[.tmp 22], argTypes := #[30] }) 3, o 24 (.binOp .eql 3 (.tmp 23) (.const (.int .i64 0)) 3) 4] false)
 (.cond (.tmp 24)
 (.seq (.region 9 #[o 2 (.assign (.const (.int .i64 0))) 3] false)
 .ret)
 .skip)))
 (.region 7 #[m 16 3 3, o 17 (.binOp .add 3 (.tmp 16) (.const (.int .i64 1)) 3) 3, o 3 (.assign (.tmp 17)) 3] false))))))
 (.seq (.region 10 #[o 2 (.assign (.const (.int .i64 1))) 3] false)
 .ret)))))
def fn38 : AFn := { ntmps := 25, results := [.tmp 2], body := c38, keep := fun | 0 => some [1] | 1 => some [1, 6] | 2 => some [2] | 3 => some [1, 10] | 4 => some [2] | 5 => some [1, 3] | 6 => some [1, 3, 15] | 7 => some [1, 3] | 8 => some [1, 3, 24] | 9 => some [2] | 10 => some [2] | _ => none, head := fun | 6 => some [1, 3] | _ => none, opn := fun _ => none, dyn := fun _ => [] }
def c39 : Code :=
  (.seq (.region 0 #[o 3 (.box 30 (.tmp 0)) 0, o 6 (.assign (.const (.int .i64 0))) 3, o 7 (.assign (.const (.int .i64 0))) 3] false)
 (.seq (.seq (.region 1 #[o 13 (.fieldAddr 30 (.tmp 3) 0) 0, o 14 (.load 27 (.tmp 13)) 27, o 15 (.call { callee := .value (.func 80), args := #[.tmp 14], argTypes := #[27] }) 3, o 8 (.assign (.tmp 15)) 3] false)
 (.seq (.region 2 #[m 16 8 3, o 17 (.binOp .neq 3 (.tmp 16) (.const (.int .i64 0)) 3) 4] false)
 (.cond (.tmp 17)
 (.seq (.region 3 #[m 18 8 3, o 6 (.assign (.tmp 18)) 3, o 7 (.assign (.const (.int .i64 0))) 3] false)
 .ret)
 .skip)))
 (.seq (.seq (.region 4 #[o 19 (.fieldAddr 30 (.tmp 3) 0) 0, o 20 (.fieldAddr 27 (.tmp 19) 1) 0, o 21 (.load 4 (.tmp 20)) 4, m 22 21 4, ⟨some 23, .fieldAddr 30 (.tmp 3) 1, 0, "", #[], some (22, true)⟩, ⟨some 24, .load 22 (.tmp 23), 22, "", #[], some (22, true)⟩, ⟨some 25, .call { callee := .builtin .len, args := #[.tmp 24], argTypes := #[22] }, 3, "", #[], some (22, true)⟩, ⟨some 26, .binOp .gtr 3 (.tmp 25) (.const (.int .i64 0)) 3, 4, "", #[], some (22, true)⟩, o 27 (.pick (.tmp 22) (.tmp 26) (.const (.bool false))) 4, m 28 27 4, ⟨some 29, .fieldAddr 30 (.tmp 3) 0, 0, "", #[], some (28, false)⟩, ⟨some 30, .fieldAddr 27 (.tmp 29) 1, 0, "", #[], some (28, false)⟩, ⟨some 31, .load 4 (.tmp 30), 4, "", #[], some (28, false)⟩, ⟨some 32, .unOp .not 4 (.tmp 31), 4, "", #[], some (28, false)⟩, ⟨some 33, .move (.tmp 32), 4, "", #[], some (28, false)⟩, ⟨some 34, .fieldAddr 30 (.tmp 3) 2, 0, "", #[], some (33, true)⟩, ⟨some 35, .load 28 (.tmp 34), 28, "", #[], some (33, true)⟩, ⟨some 36, .call { callee := .builtin .len, args := #[.tmp 35], argTypes := #[28] }, 3, "", #[], some (33, true)⟩, ⟨some 37, .binOp .gtr 3 (.tmp 36) (.const (.int .i64 0)) 3, 4, "", #[], some (33, true)⟩, ⟨some 38, .pick (.tmp 33) (.tmp 37) (.const (.bool false)), 4, "", #[], some (28, false)⟩, o 39 (.pick (.tmp 28) (.const (.bool true)) (.tmp 38)) 4] false)
 (.cond (.tmp 39)
 (.seq (.region 5 #[o 6 (.assign (.const (.int .i64 1))) 3, o 7 (.assign (.const (.int .i64 0))) 3] false)
 .ret)
 .skip))
 (.seq (.seq (.region 6 #[m 40 1 3, o 41 (.binOp .gtr 3 (.tmp 40) (.const (.int .i64 16)) 3) 4] false)
 (.cond (.tmp 41)
 (.seq (.region 7 #[o 6 (.assign (.const (.int .i64 12))) 3, o 7 (.assign (.const (.int .i64 0))) 3] false)
 .ret)
 .skip))
 (.seq (.seq (.region 8 #[m 42 2 3, o 43 (.binOp .geq 3 (.tmp 42) (.const (.int .i64 8192)) 3) 4] false)
 (.cond (.tmp 43)
 (.seq (.region 9 #[o 6 (.assign (.const (.int .i64 3))) 3, o 7 (.assign (.const (.int .i64 0))) 3] false)
 .ret)
 .skip))
 (.seq (.region 10 #[m 44 2 3, o 45 (.binOp .add 3 (.tmp 44) (.const (.int .i64 1)) 3) 3, o 9 (.assign (.tmp 45)) 3] false)
 (.seq (.seq (.region 11 #[o 10 (.assign (.const (.int .i64 0))) 3] false)
 (.block 0 (.loop (.seq (.seq (.region 12 #[m 46 10 3, o 47 (.fieldAddr 30 (.tmp 3) 2) 0, o 48 (.load 28 (.tmp 47)) 28, o 49 (.call { callee := .builtin .len, args := #[.tmp 48], argTypes := #[28] }) 3, o 50 (.binOp .lss 3 (.tmp 46) (.tmp 49) 3) 4] false)
 (.cond (.tmp 50)
 .skip
 (.exit 0)))
 (.seq (.block 1 (.seq (.region 14 #[o 54 (.fieldAddr 30 (.tmp 3) 2) 0, o 55 (.load 28 (.tmp 54)) 28, m 56 10 3, o 57 (.indexAddr 28 (.tmp 55) (.tmp 56)) 0, o 58 (.load 30 (.tmp 57)) 30, m 59 1 3, o 60 (.binOp .add 3 (.tmp 59) (.const (.int .i64 1)) 3) 3, m 61 9 3, o 62 (.call { callee := .value (.func 39), args := #[.tmp 58, .tmp 60, .tmp 61], argTypes := #[30, 3, 3] }) 62, m 53 62 62, o 63 (.extract (.tmp 53) 0) 3, o 64 (.extract (.tmp 53) 1) 3, o 11 (.assign (.tmp 63)) 3, o 12 (.assign (.tmp 64)) 3] false)
 (.seq (.seq (.region 15 #[m 65 11 3, o 66 (.binOp .neq 3 (.tmp 65) (.const (.int .i64 0)) 3) 4] false)
 (.cond (.tmp 66)
 (.seq (.region 16 #[m 67 11 3, o 6 (.assign (.tmp 67)) 3, o 7 (.assign (.const (.int .i64 0))) 3] false)
 .ret)
 .skip))
 (.region 17 #[m 68 12 3, o 9 (.assign (.tmp 68)) 3] false))))
 (.region 13 #[m 51 10 3, o 52 (.binOp .add 3 (.tmp 51) (.const (.int .i64 1)) 3) 3, o 10 (.assign (.tmp 52)) 3] false))))))
 (.seq (.region 18 #[m 69 9 3, o 6 (.assign (.const (.int .i64 0))) 3, o 7 (.assign (.tmp 69)) 3] false)
 .ret))))))))
def fn39 : AFn := { ntmps := 70, results := [.tmp 6, .tmp 7], body := c39, keep := fun | 0 => some [1, 2, 3] | 1 => some [1, 2, 3, 8] | 2 => some [1, 2, 3, 8, 17] | 3 => some [6, 7] | 4 => some [1, 2, 3, 39] | 5 => some [6, 7] | 6 => some [1, 2, 3, 41] | 7 => some [6, 7] | 8 => some [1, 2, 3, 43] | 9 => some [6, 7] | 10 => some [1, 3, 9] | 11 => some [1, 3, 9, 10] | 12 => some [1, 3, 9, 10, 50] | 13 => some [1, 3, 9, 10] | 14 => some [1, 3, 10, 11, 12] | 15 => some [1, 3, 10, 11, 12, 66] | 16 => some [6, 7] | 17 => some [1, 3, 9, 10] | 18 => some [6, 7] | _ => none, head := fun | 12 => some [1, 3, 9, 10] | _ => none, opn := fun _ => none, dyn := fun _ => [] }
def c40 : Code :=
  (.seq (.region 0 #[o 1 (.box 30 (.tmp 0)) 0, o 2 (.assign (.const (.int .i64 0))) 3] false)
 (.seq (.region 1 #[o 3 (.assign (.const (.int .i64 0))) 3] false)
 (.seq (.seq (.region 2 #[o 4 (.assign (.const (.int .i64 0))) 3] false)
 (.block 0 (.loop (.seq (.seq (.region 3 #[m 5 4 3, o 6 (.fieldAddr 30 (.tmp 1) 2) 0, o 7 (.load 28 (.tmp 6)) 28, o 8 (.call { callee := .builtin .len, args := #[.tmp 7], argTypes := #[28] }) 3, o 9 (.binOp .lss 3 (.tmp 5) (.tmp 8) 3) 4] false)
 (.cond (.tmp 9)
 .skip
 (.exit 0)))
 (.seq (.block 1 (.region 5 #[m 12 3 3, o 13 (.fieldAddr 30 (.tmp 1) 2) 0, o 14 (.load 28 (.tmp 13)) 28, m 15 4 3, o 16 (.indexAddr 28 (.tmp 14) (.tmp 15)) 0, o 17 (.load 30 (.tmp 16)) 30, o 18 (.call { callee := .value (.func 40), args := #[.tmp 17], argTypes := #[30] }) 3, o 19 (.call { callee := .builtin .max, args := #[.tmp 12, .tmp 18], argTypes := #[3, 3] }) 3, o 3 (.assign (.tmp 19)) 3] false))
 (.region 4 #[m 10 4 3, o 11 (.binOp .add 3 (.tmp 10) (.const (.int .i64 1)) 3) 3, o 4 (.assign (.tmp 11)) 3] false))))))
 (.seq (.region 6 #[m 20 3 3, o 21 (.binOp .add 3 (.tmp 20) (.const (.int .i64 1)) 3) 3, o 2 (.assign (.tmp 21)) 3] false)
 .ret))))
def fn40 : AFn := { ntmps := 22, results := [.tmp 2], body := c40, keep := fun | 0 => some [1] | 1 => some [1, 3] | 2 => some [1, 3, 4] | 3 => some [1, 3, 4, 9] | 4 => some [1, 3, 4] | 5 => some [1, 3, 4] | 6 => some [2] | _ => none, head := fun | 3 => some [1, 3, 4] | _ => none, opn := fun _ => none, dyn := fun _ => [] }
def c41 : Code :=
  (.seq (.region 0 #[o 0 (.alloc 30) 0] false)
 (.seq (.region 1 #[o 1 (.build 27 #[(1, .const (.bool true)), (2, .const (.int .u32 16))]) 27, o 2 (.build 27 #[(2, .const (.int .u32 2))]) 27, o 3 (.buildSlice 22 1 #[(0, .const (.int .u8 7))]) 22, o 4 (.build 30 #[(0, .tmp 2), (1, .tmp 3)]) 30, o 5 (.build 27 #[(2, .const (.int .u32 5))]) 27, o 6 (.build 30 #[(0, .tmp 5)]) 30, o 7 (.buildSlice 28 2 #[(0, .tmp 4), (1, .tmp 6)]) 28, o 8 (.build 30 #[(0, .tmp 1), (2, .tmp 7)]) 30, ⟨none, .store 30 (.tmp 0) (.tmp 8), 0, "", #[], none⟩] false)
 .ret))
def fn41 : AFn := { ntmps := 9, results := [.cell 0 30], body := c41, keep := fun | 0 => some [0] | 1 => some [0] | _ => none, head := fun  | _ => none, opn := fun _ => none, dyn := fun _ => [] }
def c42 : Code :=
  (.seq (.region 0 #[o 1 (.box 65 (.tmp 0)) 0, o 2 (.alloc 30) 0] false)
 (.seq (.region 1 #[o 6 (.fieldAddr 65 (.tmp 1) 0) 0, o 7 (.load 22 (.tmp 6)) 22, o 8 (.call { callee := .value (.func 81), args := #[.tmp 7, .const (.int .i64 0), .const (.int .i64 2)], argTypes := #[22, 3, 3] }) 122, m 5 8 122, o 9 (.extract (.tmp 5) 0) 28, o 10 (.extract (.tmp 5) 1) 3, o 3 (.assign (.tmp 9)) 28, o 4 (.assign (.tmp 10)) 3] false)
 (.seq (.region 2 #[o 11 (.call { callee := .value (.func 44), args := #[.const (.int .u8 0)], argTypes := #[5] }) 27, m 12 3 28, o 13 (.build 30 #[(0, .tmp 11), (2, .tmp 12)]) 30, ⟨none, .store 30 (.tmp 2) (.tmp 13), 0, "", #[], none⟩] false)
 .ret)))
def fn42 : AFn := { ntmps := 14, results := [.cell 2 30], body := c42, keep := fun | 0 => some [1, 2] | 1 => some [2, 3] | 2 => some [2] | _ => none, head := fun  | _ => none, opn := fun _ => none, dyn := fun _ => [] }
def c44 : Code :=
  (.seq (.region 0 #[o 2 (.alloc 27) 0] false)
 (.seq (.seq (.region 1 #[m 3 0 5, o 4 (.binOp .rem 5 (.tmp 3) (.const (.int .u8 8)) 5) 5] false)
 (.block 0 (.seq (.region 2 #[o 6 (.binOp .eql 5 (.tmp 4) (.const (.int .u8 0)) 5) 4, o 5 (.assign (.tmp 6)) 4] false)
 (.cond (.tmp 5)
 (.seq (.region 3 #[o 7 (.build 27 #[(1, .const (.bool true)), (2, .const (.int .u32 16))]) 27, ⟨none, .store 27 (.tmp 2) (.tmp 7), 0, "", #[], none⟩] false)
 .ret)
 (.seq (.region 4 #[o 9 (.binOp .eql 5 (.tmp 4) (.const (.int .u8 1)) 5) 4, o 8 (.assign (.tmp 9)) 4] false)
 (.cond (.tmp 8)
 (.seq (.region 5 #[o 10 (.build 27 #[(1, .const (.bool true)), (2, .const (.int .u32 17))]) 27, ⟨none, .store 27 (.tmp 2) (.tmp 10), 0, "", #[], none⟩] false)
 .ret)
 (.seq (.region 6 #[o 12 (.binOp .eql 5 (.tmp 4) (.const (.int .u8 2)) 5) 4, o 11 (.assign (.tmp 12)) 4] false)
 (.cond (.tmp 11)
 (.seq (.region 7 #[m 13 0 5, o 14 (.binOp .quo 5 (.tmp 13) (.const (.int .u8 8)) 5) 5, o 15 (.binOp .rem 5 (.tmp 14) (.const (.int .u8 4)) 5) 5, o 16 (.convert 5 25 (.tmp 15)) 25, o 17 (.binOp .mul 25 (.tmp 16) (.const (.int .u32 12)) 25) 25, o 18 (.build 27 #[(0, .const (.int .u8 2)), (1, .const (.bool true)), (2, .tmp 17)]) 27, ⟨none, .store 27 (.tmp 2) (.tmp 18), 0, "", #[], none⟩] false)
 .ret)
 (.seq (.region 8 #[o 20 (.binOp .eql 5 (.tmp 4) (.const (.int .u8 3)) 5) 4, o 19 (.assign (.tmp 20)) 4] false)
 (.cond (.tmp 19)
 (.seq (.region 9 #[m 21 0 5, o 22 (.binOp .quo 5 (.tmp 21) (.const (.int .u8 8)) 5) 5, o 23 (.binOp .rem 5 (.tmp 22) (.const (.int .u8 4)) 5) 5, o 24 (.convert 5 25 (.tmp 23)) 25, o 25 (.build 27 #[(0, .const (.int .u8 2)), (2, .tmp 24)]) 27, ⟨none, .store 27 (.tmp 2) (.tmp 25), 0, "", #[], none⟩] false)
 .ret)
 (.seq (.region 10 #[o 27 (.binOp .eql 5 (.tmp 4) (.const (.int .u8 4)) 5) 4, o 26 (.assign (.tmp 27)) 4] false)
 (.cond (.tmp 26)
 (.seq (.region 11 #[o 28 (.build 27 #[(2, .const (.int .u32 1))]) 27, ⟨none, .store 27 (.tmp 2) (.tmp 28), 0, "", #[], none⟩] false)
 .ret)
 (.seq (.region 12 #[o 30 (.binOp .eql 5 (.tmp 4) (.const (.int .u8 5)) 5) 4, o 29 (.assign (.tmp 30)) 4] false)
 (.cond (.tmp 29)
 (.seq (.region 13 #[o 31 (.build 27 #[(2, .const (.int .u32 4))]) 27, ⟨none, .store 27 (.tmp 2) (.tmp 31), 0, "", #[], none⟩] false)
 .ret)
 .skip))))))))))))))
 (.seq (.region 14 #[o 32 (.build 27 #[(2, .const (.int .u32 2))]) 27, ⟨none, .store 27 (.tmp 2) (.tmp 32), 0, "", #[], none⟩] false)
 .ret)))
def fn44 : AFn := { ntmps := 33, results := [.cell 2 27], body := c44, keep := fun | 0 => some [0, 2] | 1 => some [0, 2, 4] | 2 => some [0, 2, 4, 5] | 3 => some [2] | 4 => some [0, 2, 4, 8] | 5 => some [2] | 6 => some [0, 2, 4, 11] | 7 => some [2] | 8 => some [0, 2, 4, 19] | 9 => some [2] | 10 => some [2, 4, 26] | 11 => some [2] | 12 => some [2, 29] | 13 => some [2] | 14 => some [2] | _ => none, head := fun  | _ => none, opn := fun _ => none, dyn := fun _ => [] }
def c45 : Code :=
  (.seq (.region 0 #[o 3 (.box 30 (.tmp 0)) 0, o 4 (.box 27 (.tmp 1)) 0, o 6 (.assign (.const (.slice none 0 0))) 47, o 7 (.alloc 71) 0] false)
 (.seq (.block 0 (.seq (.region 1 #[m 14 2 67, o 15 (.call { callee := .builtin .len, args := #[.tmp 14], argTypes := #[67] }) 3, o 16 (.binOp .gtr 3 (.tmp 15) (.const (.int .i64 256)) 3) 4, o 13 (.assign (.tmp 16)) 4] false)
 (.cond (.tmp 13)
 (.seq (.region 2 #[o 17 (.call { callee := .value (.func 82), args := #[.const (.int .i64 3), .const (.slice none 0 0)], argTypes := #[34, 47] }) 71, o 6 (.assign (.const (.slice none 0 0))) 47, ⟨none, .store 71 (.tmp 7) (.tmp 17), 0, "", #[], none⟩] false)
 .ret)
 (.seq (.region 3 #[o 19 (.fieldAddr 30 (.tmp 3) 0) 0, o 20 (.load 27 (.tmp 19)) 27, o 21 (.load 27 (.tmp 4)) 27, o 22 (.binOp .neq 27 (.tmp 20) (.tmp 21) 27) 4, o 18 (.assign (.tmp 22)) 4] false)
 (.cond (.tmp 18)
 (.seq (.region 4 #[o 23 (.call { callee := .value (.func 82), args := #[.const (.int .i64 9), .const (.slice none 0 0)], argTypes := #[34, 47] }) 71, o 6 (.assign (.const (.slice none 0 0))) 47, ⟨none, .store 71 (.tmp 7) (.tmp 23), 0, "", #[], none⟩] false)
 .ret)
 .skip)))))
 (.seq (.region 5 #[o 8 (.assign (.const (.int .i64 0))) 3] false)
 (.seq (.region 6 #[m 24 2 67, o 25 (.call { callee := .builtin .len, args := #[.tmp 24], argTypes := #[67] }) 3, o 26 (.makeSlice 47 (.const (.int .i64 0)) (.tmp 25)) 47, o 9 (.assign (.tmp 26)) 47] false)
 (.seq (.seq (.region 7 #[m 27 2 67, o 28 (.call { callee := .builtin .len, args := #[.tmp 27], argTypes := #[67] }) 3, o 29 (.move (.const (.int .i64 0))) 3] false)
 (.block 1 (.loop (.seq (.region 8 #[o 30 (.binOp .lss 3 (.tmp 29) (.tmp 28) 3) 0] false)
 (.seq (.cond (.tmp 30)
 .skip
 (.exit 1))
 (.seq (.block 2 (.seq (.region 9 #[o 31 (.indexAddr 67 (.tmp 27) (.tmp 29)) 0, o 32 (.load 78 (.tmp 31)) 78, o 11 (.alloc 78) 0, ⟨none, .store 78 (.tmp 11) (.tmp 32), 0, "", #[], none⟩] false)
 (.seq (.region 10 #[o 33 (.load 78 (.tmp 11)) 78, o 34 (.makeFunc (.func 83) #[.tmp 33] #[]) 51, o 12 (.assign (.tmp 34)) 51] false)
 (.block 3 (.seq (.region 12 #[m 39 8 3, o 40 (.fieldAddr 30 (.tmp 3) 2) 0, o 41 (.load 28 (.tmp 40)) 28, o 42 (.call { callee := .builtin .len, args := #[.tmp 41], argTypes := #[28] }) 3, o 43 (.binOp .lss 3 (.tmp 39) (.tmp 42) 3) 4, m 44 43 4, ⟨some 45, .move (.tmp 12), 51, "", #[], some (44, true)⟩, ⟨some 46, .fieldAddr 30 (.tmp 3) 2, 0, "", #[], some (44, true)⟩, ⟨some 47, .load 28 (.tmp 46), 28, "", #[], some (44, true)⟩, ⟨some 48, .move (.tmp 8), 3, "", #[], some (44, true)⟩, ⟨some 49, .indexAddr 28 (.tmp 47) (.tmp 48), 0, "", #[], some (44, true)⟩, ⟨some 50, .load 30 (.tmp 49), 30, "", #[], some (44, true)⟩, ⟨some 51, .call { callee := .value (.tmp 45), args := #[.tmp 50], argTypes := #[30] }, 4, "", #[], some (44, true)⟩, o 52 (.pick (.tmp 44) (.tmp 51) (.const (.bool false))) 4, o 38 (.assign (.tmp 52)) 4] false)
 (.cond (.tmp 38)
 (.seq (.region 13 #[m 53 9 47, m 54 8 3, o 55 (.buildSlice 47 1 #[(0, .tmp 54)]) 47, o 56 (.call { callee := .builtin .append, args := #[.tmp 53, .tmp 55], argTypes := #[47, 47] }) 47, o 9 (.assign (.tmp 56)) 47] false)
 (.region 14 #[m 57 8 3, o 58 (.binOp .add 3 (.tmp 57) (.const (.int .i64 1)) 3) 3, o 8 (.assign (.tmp 58)) 3] false))
 (.seq (.region 15 #[o 60 (.fieldAddr 78 (.tmp 11) 2) 0, o 61 (.load 4 (.tmp 60)) 4, o 59 (.assign (.tmp 61)) 4] false)
 (.cond (.tmp 59)
 (.region 16 #[m 62 9 47, o 63 (.buildSlice 47 1 #[(0, .const (.int .i64 (-1)))]) 47, o 64 (.call { callee := .builtin .append, args := #[.tmp 62, .tmp 63], argTypes := #[47, 47] }) 47, o 9 (.assign (.tmp 64)) 47] false)
 (.seq (.region 17 #[m 66 8 3, o 67 (.fieldAddr 30 (.tmp 3) 2) 0, o 68 (.load 28 (.tmp 67)) 28, o 69 (.call { callee := .builtin .len, args := #[.tmp 68], argTypes := #[28] }) 3, o 70 (.binOp .eql 3 (.tmp 66) (.tmp 69) 3) 4, o 65 (.assign (.tmp 70)) 4] false)
 (.cond (.tmp 65)
 (.seq (.region 18 #[o 71 (.call { callee := .value (.func 82), args := #[.const (.int .i64 7), .const (.slice none 0 0)], argTypes := #[34, 47] }) 71, o 6 (.assign (.const (.slice none 0 0))) 47, ⟨none, .store 71 (.tmp 7) (.tmp 71), 0, "", #[], none⟩] false)
 .ret)
 (.seq (.region 11 #[m 35 8 3, ⟨some 36, .buildSlice 47 1 #[(0, .tmp 35)], 47, "", fz, none⟩, o 37 (.call { callee := .value (.func 82), args := #[.const (.int .i64 9), .tmp 36], argTypes := #[34, 47] }) 71, o 6 (.assign (.const (.slice none 0 0))) 47, ⟨none, .store 71 (.tmp 7) (.tmp 37), 0, "", #[], none⟩] false)
 .ret)))))))))))
 (.region 19 #[o 72 (.binOp .add 3 (.tmp 29) (.const (.int .i64 1)) 3) 3, m 29 72 3] false)))))))
 (.seq (.seq (.region 20 #[m 73 8 3, o 74 (.fieldAddr 30 (.tmp 3) 2) 0, o 75 (.load 28 (.tmp 74)) 28, o 76 (.call { callee := .builtin .len, args := #[.tmp 75], argTypes := #[28] }) 3, o 77 (.binOp .lss 3 (.tmp 73) (.tmp 76) 3) 4] false)
 (.cond (.tmp 77)
 (.seq (.region 21 #[m 78 8 3, ⟨some 79, .buildSlice 47 1 #[(0, .tmp 78)], 47, "", fz, none⟩, o 80 (.call { callee := .value (.func 82), args := #[.const (.int .i64 8), .tmp 79], argTypes := #[34, 47] }) 71, o 6 (.assign (.const (.slice none 0 0))) 47, ⟨none, .store 71 (.tmp 7) (.tmp 80), 0, "", #[], none⟩] false)
 .ret)
 .skip))
 (.seq (.region 22 #[m 81 9 47, o 82 (.build 71 #[]) 71, o 6 (.assign (.tmp 81)) 47, ⟨none, .store 71 (.tmp 7) (.tmp 82), 0, "", #[], none⟩] false)
 .ret)))))))
def fn45 : AFn := { ntmps := 83, results := [.tmp 6, .cell 7 71], body := c45, keep := fun | 0 => some [2, 3, 4, 7] | 1 => some [2, 3, 4, 7, 13] | 2 => some [6, 7] | 3 => some [2, 3, 7, 18] | 4 => some [6, 7] | 5 => some [2, 3, 7, 8] | 6 => some [2, 3, 7, 8, 9] | 7 => some [3, 7, 8, 9, 27, 28, 29] | 8 => some [3, 7, 8, 9, 27, 28, 29, 30] | 9 => some [3, 7, 8, 9, 11, 27, 28, 29] | 10 => some [3, 7, 8, 9, 11, 12, 27, 28, 29] | 11 => some [6, 7] | 12 => some [3, 7, 8, 9, 11, 27, 28, 29, 38] | 13 => some [3, 7, 8, 9, 27, 28, 29] | 14 => some [3, 7, 8, 9, 27, 28, 29] | 15 => some [3, 7, 8, 9, 27, 28, 29, 59] | 16 => some [3, 7, 8, 9, 27, 28, 29] | 17 => some [7, 8, 65] | 18 => some [6, 7] | 19 => some [3, 7, 8, 9, 27, 28, 29] | 20 => some [7, 8, 9, 77] | 21 => some [6, 7] | 22 => some [6, 7] | _ => none, head := fun | 8 => some [3, 7, 8, 9, 27, 28, 29] | _ => none, opn := opnT, dyn := fun _ => [] }
def c47 : Code :=
  (.seq (.region 0 #[o 4 (.assign (.const (.int .i64 0))) 3] false)
 (.seq (.seq (.region 1 #[m 6 0 47, o 7 (.call { callee := .builtin .len, args := #[.tmp 6], argTypes := #[47] }) 3, m 8 1 47, o 9 (.call { callee := .builtin .len, args := #[.tmp 8], argTypes := #[47] }) 3, o 10 (.binOp .neq 3 (.tmp 7) (.tmp 9) 3) 4] false)
 (.cond (.tmp 10)
 (.seq (.region 2 #[o 4 (.assign (.const (.int .i64 0))) 3] false)
 .ret)
 .skip))
 (.seq (.seq (.region 3 #[o 5 (.assign (.const (.int .i64 0))) 3] false)
 (.block 0 (.loop (.seq (.seq (.region 4 #[m 11 5 3, m 12 0 47, o 13 (.call { callee := .builtin .len, args := #[.tmp 12], argTypes := #[47] }) 3, o 14 (.binOp .lss 3 (.tmp 11) (.tmp 13) 3) 4] false)
 (.cond (.tmp 14)
 .skip
 (.exit 0)))
 (.seq (.block 1 (.seq (.region 6 #[m 17 0 47, m 18 5 3, o 19 (.indexAddr 47 (.tmp 17) (.tmp 18)) 0, o 20 (.load 3 (.tmp 19)) 3, m 21 1 47, m 22 5 3, o 23 (.indexAddr 47 (.tmp 21) (.tmp 22)) 0, o 24 (.load 3 (.tmp 23)) 3, o 25 (.binOp .neq 3 (.tmp 20) (.tmp 24) 3) 4] true)
 (.cond (.tmp 25)
 (.seq (.region 7 #[o 4 (.assign (.const (.int .i64 0))) 3] false)
 .ret)
 .skip)))
 (.region 5 #[m 15 5 3, o 16 (.binOp .add 3 (.tmp 15) (.const (.int .i64 1)) 3) 3, o 5 (.assign (.tmp 16)) 3] false))))))
 (.seq (.region 8 #[o 4 (.assign (.const (.int .i64 1))) 3] false)
 .ret))))
def fn47 : AFn := { ntmps := 26, results := [.tmp 4], body := c47, keep := fun | 0 => some [0, 1] | 1 => some [0, 1, 10] | 2 => some [4] | 3 => some [0, 1, 5] | 4 => some [0, 1, 5, 14] | 5 => some [0, 1, 5] | 6 => some [0, 1, 5, 25] | 7 => some [4] | 8 => some [4] | _ => none, head := fun | 4 => some [0, 1, 5] | _ => none, opn := fun _ => none, dyn := fun _ => [] }
def c48 : Code :=
  (.seq (.region 0 #[o 2 (.box 71 (.tmp 0)) 0, o 3 (.box 71 (.tmp 1)) 0, o 4 (.assign (.const (.int .i64 0))) 3] false)
 (.seq (.seq (.region 1 #[o 6 (.fieldAddr 71 (.tmp 2) 1) 0, o 7 (.load 34 (.tmp 6)) 34, o 8 (.fieldAddr 71 (.tmp 3) 1) 0, o 9 (.load 34 (.tmp 8)) 34, o 10 (.binOp .neq 34 (.tmp 7) (.tmp 9) 34) 4, m 11 10 4, ⟨some 12, .fieldAddr 71 (.tmp 2) 0, 0, "", #[], some (11, false)⟩, ⟨some 13, .load 47 (.tmp 12), 47, "", #[], some (11, false)⟩, ⟨some 14, .call { callee := .builtin .len, args := #[.tmp 13], argTypes := #[47] }, 3, "", #[], some (11, false)⟩, ⟨some 15, .fieldAddr 71 (.tmp 3) 0, 0, "", #[], some (11, false)⟩, ⟨some 16, .load 47 (.tmp 15), 47, "", #[], some (11, false)⟩, ⟨some 17, .call { callee := .builtin .len, args := #[.tmp 16], argTypes := #[47] }, 3, "", #[], some (11, false)⟩, ⟨some 18, .binOp .neq 3 (.tmp 14) (.tmp 17) 3, 4, "", #[], some (11, false)⟩, o 19 (.pick (.tmp 11) (.const (.bool true)) (.tmp 18)) 4, m 20 19 4, ⟨some 21, .fieldAddr 71 (.tmp 2) 0, 0, "", #[], some (20, false)⟩, ⟨some 22, .load 47 (.tmp 21), 47, "", #[], some (20, false)⟩, ⟨some 23, .call { callee := .builtin .cap, args := #[.tmp 22], argTypes := #[47] }, 3, "", #[], some (20, false)⟩, ⟨some 24, .fieldAddr 71 (.tmp 2) 0, 0, "", #[], some (20, false)⟩, ⟨some 25, .load 47 (.tmp 24), 47, "", #[], some (20, false)⟩, ⟨some 26, .call { callee := .builtin .len, args := #[.tmp 25], argTypes := #[47] }, 3, "", #[], some (20, false)⟩, ⟨some 27, .binOp .neq 3 (.tmp 23) (.tmp 26) 3, 4, "", #[], some (20, false)⟩, o 28 (.pick (.tmp 20) (.const (.bool true)) (.tmp 27)) 4] false)
 (.cond (.tmp 28)
 (.seq (.region 2 #[o 4 (.assign (.const (.int .i64 0))) 3] false)
 .ret)
 .skip))
 (.seq (.seq (.region 3 #[o 5 (.assign (.const (.int .i64 0))) 3] false)
 (.block 0 (.loop (.seq (.seq (.region 4 #[m 29 5 3, o 30 (.fieldAddr 71 (.tmp 2) 0) 0, o 31 (.load 47 (.tmp 30)) 47, o 32 (.call { callee := .builtin .len, args := #[.tmp 31], argTypes := #[47] }) 3, o 33 (.binOp .lss 3 (.tmp 29) (.tmp 32) 3) 4] false)
 (.cond (.tmp 33)
 .skip
 (.exit 0)))
 (.seq (.block 1 (.seq (.region 6 #[o 36 (.fieldAddr 71 (.tmp 2) 0) 0, o 37 (.load 47 (.tmp 36)) 47, m 38 5 3, o 39 (.indexAddr 47 (.tmp 37) (.tmp 38)) 0, o 40 (.load 3 (.tmp 39)) 3, o 41 (.fieldAddr 71 (.tmp 3) 0) 0, o 42 (.load 47 (.tmp 41)) 47, m 43 5 3, o 44 (.indexAddr 47 (.tmp 42) (.tmp 43)) 0, o 45 (.load 3 (.tmp 44)) 3, o 46 (.binOp .neq 3 (.tmp 40) (.tmp 45) 3) 4] true)
 (.cond (.tmp 46)
 (.seq (.region 7 #[o 4 (.assign (.const (.int .i64 0))) 3] false)
 .ret)
 .skip)))
 (.region 5 #[m 34 5 3, o 35 (.binOp .add 3 (.tmp 34) (.const (.int .i64 1)) 3) 3, o 5 (.assign (.tmp 35)) 3] false))))))
 (.seq (.region 8 #[o 4 (.assign (.const (.int .i64 1))) 3] false)
 .ret))))
def fn48 : AFn := { ntmps := 47, results := [.tmp 4], body := c48, keep := fun | 0 => some [2, 3] | 1 => some [2, 3, 28] | 2 => some [4] | 3 => some [2, 3, 5] | 4 => some [2, 3, 5, 33] | 5 => some [2, 3, 5] | 6 => some [2, 3, 5, 46] | 7 => some [4] | 8 => some [4] | _ => none, head := fun | 4 => some [2, 3, 5] | _ => none, opn := fun _ => none, dyn := fun _ => [] }
def c49 : Code :=
  (.seq (.region 0 #[o 2 (.box 30 (.tmp 0)) 0, o 3 (.box 30 (.tmp 1)) 0, o 4 (.assign (.const (.int .i64 0))) 3] false)
 (.seq (.seq (.region 1 #[o 6 (.fieldAddr 30 (.tmp 2) 0) 0, o 7 (.load 27 (.tmp 6)) 27, o 8 (.fieldAddr 30 (.tmp 3) 0) 0, o 9 (.load 27 (.tmp 8)) 27, o 10 (.binOp .neq 27 (.tmp 7) (.tmp 9) 27) 4, m 11 10 4, ⟨some 12, .fieldAddr 30 (.tmp 2) 1, 0, "", #[], some (11, false)⟩, ⟨some 13, .load 22 (.tmp 12), 22, "", #[], some (11, false)⟩, ⟨some 14, .convert 22 9 (.tmp 13), 9, "", #[], some (11, false)⟩, ⟨some 15, .fieldAddr 30 (.tmp 3) 1, 0, "", #[], some (11, false)⟩, ⟨some 16, .load 22 (.tmp 15), 22, "", #[], some (11, false)⟩, ⟨some 17, .convert 22 9 (.tmp 16), 9, "", #[], some (11, false)⟩, ⟨some 18, .binOp .neq 9 (.tmp 14) (.tmp 17) 9, 4, "", #[], some (11, false)⟩, o 19 (.pick (.tmp 11) (.const (.bool true)) (.tmp 18)) 4, m 20 19 4, ⟨some 21, .fieldAddr 30 (.tmp 2) 2, 0, "", #[], some (20, false)⟩, ⟨some 22, .load 28 (.tmp 21), 28, "", #[], some (20, false)⟩, ⟨some 23, .call { callee := .builtin .len, args := #[.tmp 22], argTypes := #[28] }, 3, "", #[], some (20, false)⟩, ⟨some 24, .fieldAddr 30 (.tmp 3) 2, 0, "", #[], some (20, false)⟩, ⟨some 25, .load 28 (.tmp 24), 28, "", #[], some (20, false)⟩, ⟨some 26, .call { callee := .builtin .len, args := #[.tmp 25], argTypes := #[28] }, 3, "", #[], some (20, false)⟩, ⟨some 27, .binOp .neq 3 (.tmp 23) (.tmp 26) 3, 4, "", #[], some (20, false)⟩, o 28 (.pick (.tmp 20) (.const (.bool true)) (.tmp 27)) 4] false)
 (.cond (.tmp 28)
 (.seq (.region 2 #[o 4 (.assign (.const (.int .i64 0))) 3] false)
 .ret)
 .skip))
 (.seq (.seq (.region 3 #[o 5 (.assign (.const (.int .i64 0))) 3] false)
 (.block 0 (.loop (.seq (.seq (.region 4 #[m 29 5 3, o 30 (.fieldAddr 30 (.tmp 2) 2) 0, o 31 (.load 28 (.tmp 30)) 28, o 32 (.call { callee := .builtin .len, args := #[.tmp 31], argTypes := #[28] }) 3, o 33 (.binOp .lss 3 (.tmp 29) (.tmp 32) 3) 4] false)
 (.cond (.tmp 33)
 .skip
 (.exit 0)))
 (.seq (.block 1 (.seq (.region 6 #[o 36 (.fieldAddr 30 (.tmp 2) 2) 0, o 37 (.load 28 (.tmp 36)) 28, m 38 5 3, o 39 (.indexAddr 28 (.tmp 37) (.tmp 38)) 0, o 40 (.load 30 (.tmp 39)) 30, o 41 (.fieldAddr 30 (.tmp 3) 2) 0, o 42 (.load 28 (.tmp 41)) 28, m 43 5 3, o 44 (.indexAddr 28 (.tmp 42) (.tmp 43)) 0, o 45 (.load 30 (.tmp 44)) 30, o 46 (.call { callee := .value (.func 49), args := #[.tmp 40, .tmp 45], argTypes := #[30, 30] }) 3, o 47 (.binOp .eql 3 (.tmp 46) (.const (.int .i64 0)) 3) 4] true)
 (.cond (.tmp 47)
 (.seq (.region 7 #[o 4 (.assign (.const (.int .i64 0))) 3] false)
 .ret)
 .skip)))
 (.region 5 #[m 34 5 3, o 35 (.binOp .add 3 (.tmp 34) (.const (.int .i64 1)) 3) 3, o 5 (.assign (.tmp 35)) 3] false))))))
 (.seq (.region 8 #[o 4 (.assign (.const (.int .i64 1))) 3] false)
 .ret))))
def fn49 : AFn := { ntmps := 48, results := [.tmp 4], body := c49, keep := fun | 0 => some [2, 3] | 1 => some [2, 3, 28] | 2 => some [4] | 3 => some [2, 3, 5] | 4 => some [2, 3, 5, 33] | 5 => some [2, 3, 5] | 6 => some [2, 3, 5, 47] | 7 => some [4] | 8 => some [4] | _ => none, head := fun | 4 => some [2, 3, 5] | _ => none, opn := fun _ => none, dyn := fun _ => [] }
def c50 : Code :=
  (.seq (.region 0 #[o 0 (.assign (.const (.bool false))) 4] false)
 (.seq (.region 1 #[o 26 (.call { callee := .value (.func 55), args := #[], argTypes := #[] }) 30, o 1 (.alloc 30) 0, ⟨none, .store 30 (.tmp 1) (.tmp 26), 0, "", #[], none⟩] false)
 (.seq (.region 2 #[o 27 (.call { callee := .value (.func 44), args := #[.const (.int .u8 0)], argTypes := #[5] }) 27, o 28 (.call { callee := .value (.func 44), args := #[.const (.int .u8 4)], argTypes := #[5] }) 27, o 29 (.call { callee := .value (.func 44), args := #[.const (.int .u8 6)], argTypes := #[5] }) 27, o 2 (.alloc 27) 0, o 3 (.alloc 27) 0, o 4 (.alloc 27) 0, ⟨none, .store 27 (.tmp 2) (.tmp 27), 0, "", #[], none⟩, ⟨none, .store 27 (.tmp 3) (.tmp 28), 0, "", #[], none⟩, ⟨none, .store 27 (.tmp 4) (.tmp 29), 0, "", #[], none⟩] false)
 (.seq (.region 3 #[o 31 (.load 30 (.tmp 1)) 30, o 32 (.load 27 (.tmp 2)) 27, o 33 (.load 27 (.tmp 4)) 27, o 34 (.build 78 #[(0, .tmp 33)]) 78, o 35 (.load 27 (.tmp 3)) 27, o 36 (.build 78 #[(0, .tmp 35)]) 78, ⟨some 37, .buildSlice 67 2 #[(0, .tmp 34), (1, .tmp 36)], 67, "", fz, none⟩, o 38 (.call { callee := .value (.func 45), args := #[.tmp 31, .tmp 32, .tmp 37], argTypes := #[30, 27, 67] }) 72, m 30 38 72, o 39 (.extract (.tmp 30) 0) 47, o 40 (.extract (.tmp 30) 1) 71, o 6 (.alloc 71) 0, o 5 (.assign (.tmp 39)) 47, ⟨none, .store 71 (.tmp 6) (.tmp 40), 0, "", #[], none⟩] false)
 (.seq (.region 4 #[o 42 (.load 30 (.tmp 1)) 30, o 43 (.load 27 (.tmp 2)) 27, o 44 (.load 27 (.tmp 4)) 27, o 45 (.build 78 #[(0, .tmp 44)]) 78, o 46 (.load 27 (.tmp 4)) 27, o 47 (.build 78 #[(0, .tmp 46), (2, .const (.bool true))]) 78, o 48 (.load 27 (.tmp 3)) 27, o 49 (.build 78 #[(0, .tmp 48)]) 78, o 50 (.build 78 #[(1, .const (.bool true)), (2, .const (.bool true))]) 78, ⟨some 51, .buildSlice 67 4 #[(0, .tmp 45), (1, .tmp 47), (2, .tmp 49), (3, .tmp 50)], 67, "", fz, none⟩, o 52 (.call { callee := .value (.func 45), args := #[.tmp 42, .tmp 43, .tmp 51], argTypes := #[30, 27, 67] }) 72, m 41 52 72, o 53 (.extract (.tmp 41) 0) 47, o 54 (.extract (.tmp 41) 1) 71, o 8 (.alloc 71) 0, o 7 (.assign (.tmp 53)) 47, ⟨none, .store 71 (.tmp 8) (.tmp 54), 0, "", #[], none⟩] false)
 (.seq (.seq (.region 5 #[m 55 5 47, ⟨some 56, .buildSlice 47 2 #[(0, .const (.int .i64 0)), (1, .const (.int .i64 1))], 47, "", fz, none⟩, o 57 (.call { callee := .value (.func 47), args := #[.tmp 55, .tmp 56], argTypes := #[47, 47] }) 3, m 58 7 47, ⟨some 59, .buildSlice 47 4 #[(0, .const (.int .i64 0)), (1, .const (.int .i64 (-1))), (2, .const (.int .i64 1)), (3, .const (.int .i64 (-1)))], 47, "", fz, none⟩, o 60 (.call { callee := .value (.func 47), args := #[.tmp 58, .tmp 59], argTypes := #[47, 47] }) 3, o 61 (.binOp .mul 3 (.tmp 57) (.tmp 60) 3) 3, o 62 (.load 71 (.tmp 6)) 71, o 63 (.build 71 #[]) 71, o 64 (.call { callee := .value (.func 48), args := #[.tmp 62, .tmp 63], argTypes := #[71, 71] }) 3, o 65 (.binOp .mul 3 (.tmp 61) (.tmp 64) 3) 3, o 66 (.load 71 (.tmp 8)) 71, o 67 (.build 71 #[]) 71, o 68 (.call { callee := .value (.func 48), args := #[.tmp 66, .tmp 67], argTypes := #[71, 71] }) 3, o 69 (.binOp .mul 3 (.tmp 65) (.tmp 68) 3) 3, o 70 (.binOp .eql 3 (.tmp 69) (.const (.int .i64 0)) 3) 4] true)
 (.cond (.tmp 70)
 (.seq (.region 6 #[o 0 (.assign (.const (.bool false))) 4] false)
 .ret)
 .skip))
 (.seq (.region 7 #[o 72 (.load 30 (.tmp 1)) 30, o 73 (.load 27 (.tmp 2)) 27, o 74 (.load 27 (.tmp 3)) 27, o 75 (.build 78 #[(0, .tmp 74)]) 78, o 76 (.load 27 (.tmp 4)) 27, o 77 (.build 78 #[(0, .tmp 76)]) 78, ⟨some 78, .buildSlice 67 2 #[(0, .tmp 75), (1, .tmp 77)], 67, "", fz, none⟩, o 79 (.call { callee := .value (.func 45), args := #[.tmp 72, .tmp 73, .tmp 78], argTypes := #[30, 27, 67] }) 72, m 71 79 72, o 80 (.extract (.tmp 71) 0) 47, o 81 (.extract (.tmp 71) 1) 71, o 10 (.alloc 71) 0, o 9 (.assign (.tmp 80)) 47, ⟨none, .store 71 (.tmp 10) (.tmp 81), 0, "", #[], none⟩] false)
 (.seq (.region 8 #[o 83 (.load 30 (.tmp 1)) 30, o 84 (.load 27 (.tmp 2)) 27, o 85 (.load 27 (.tmp 4)) 27, o 86 (.build 78 #[(0, .tmp 85)]) 78, ⟨some 87, .buildSlice 67 1 #[(0, .tmp 86)], 67, "", fz, none⟩, o 88 (.call { callee := .value (.func 45), args := #[.tmp 83, .tmp 84, .tmp 87], argTypes := #[30, 27, 67] }) 72, m 82 88 72, o 89 (.extract (.tmp 82) 0) 47, o 90 (.extract (.tmp 82) 1) 71, o 12 (.alloc 71) 0, o 11 (.assign (.tmp 89)) 47, ⟨none, .store 71 (.tmp 12) (.tmp 90), 0, "", #[], none⟩] false)
 (.seq (.region 9 #[o 92 (.load 30 (.tmp 1)) 30, o 93 (.load 27 (.tmp 2)) 27, o 94 (.load 27 (.tmp 4)) 27, o 95 (.build 78 #[(0, .tmp 94)]) 78, o 96 (.load 27 (.tmp 3)) 27, o 97 (.build 78 #[(0, .tmp 96)]) 78, o 98 (.load 27 (.tmp 4)) 27, o 99 (.build 78 #[(0, .tmp 98)]) 78, ⟨some 100, .buildSlice 67 3 #[(0, .tmp 95), (1, .tmp 97), (2, .tmp 99)], 67, "", fz, none⟩, o 101 (.call { callee := .value (.func 45), args := #[.tmp 92, .tmp 93, .tmp 100], argTypes := #[30, 27, 67] }) 72, m 91 101 72, o 102 (.extract (.tmp 91) 0) 47, o 103 (.extract (.tmp 91) 1) 71, o 14 (.alloc 71) 0, o 13 (.assign (.tmp 102)) 47, ⟨none, .store 71 (.tmp 14) (.tmp 103), 0, "", #[], none⟩] false)
 (.seq (.region 10 #[o 105 (.load 30 (.tmp 1)) 30, o 106 (.load 27 (.tmp 4)) 27, o 107 (.call { callee := .value (.func 45), args := #[.tmp 105, .tmp 106, .const (.slice none 0 0)], argTypes := #[30, 27, 67] }) 72, m 104 107 72, o 108 (.extract (.tmp 104) 0) 47, o 109 (.extract (.tmp 104) 1) 71, o 16 (.alloc 71) 0, o 15 (.assign (.tmp 108)) 47, ⟨none, .store 71 (.tmp 16) (.tmp 109), 0, "", #[], none⟩] false)
 (.seq (.seq (.region 11 #[o 110 (.load 71 (.tmp 10)) 71, o 111 (.call { callee := .value (.func 67), args := #[.const (.int .i64 9), .const (.int .i64 0)], argTypes := #[34, 3] }) 71, o 112 (.call { callee := .value (.func 48), args := #[.tmp 110, .tmp 111], argTypes := #[71, 71] }) 3, o 113 (.load 71 (.tmp 12)) 71, o 114 (.call { callee := .value (.func 67), args := #[.const (.int .i64 8), .const (.int .i64 1)], argTypes := #[34, 3] }) 71, o 115 (.call { callee := .value (.func 48), args := #[.tmp 113, .tmp 114], argTypes := #[71, 71] }) 3, o 116 (.binOp .mul 3 (.tmp 112) (.tmp 115) 3) 3, o 117 (.load 71 (.tmp 14)) 71, o 118 (.call { callee := .value (.func 67), args := #[.const (.int .i64 7), .const (.int .i64 (-1))], argTypes := #[34, 3] }) 71, o 119 (.call { callee := .value (.func 48), args := #[.tmp 117, .tmp 118], argTypes := #[71, 71] }) 3, o 120 (.binOp .mul 3 (.tmp 116) (.tmp 119) 3) 3, o 121 (.load 71 (.tmp 16)) 71, o 122 (.call { callee := .value (.func 67), args := #[.const (.int .i64 9), .const (.int .i64 (-1))], argTypes := #[34, 3] }) 71, o 123 (.call { callee := .value (.func 48), args := #[.tmp 121, .tmp 122], argTypes := #[71, 71] }) 3, o 124 (.binOp .mul 3 (.tmp 120) (.tmp 123) 3) 3, o 125 (.binOp .eql 3 (.tmp 124) (.const (.int .i64 0)) 3) 4] true)
 (.cond (.tmp 125)
 (.seq (.region 12 #[o 0 (.assign (.const (.bool false))) 4] false)
 .ret)
 .skip))
 (.seq (.seq (.region 13 #[o 126 (.load 30 (.tmp 1)) 30, o 127 (.load 27 (.tmp 2)) 27, o 128 (.call { callee := .value (.func 56), args := #[.tmp 126, .tmp 127, .const (.int .i64 1), .const (.int .i64 1)], argTypes := #[30, 27, 3, 3] }) 71, o 129 (.call { callee := .value (.func 67), args := #[.const (.int .i64 3), .const (.int .i64 1)], argTypes := #[34, 3] }) 71, o 130 (.call { callee := .value (.func 48), args := #[.tmp 128, .tmp 129], argTypes := #[71, 71] }) 3, o 131 (.load 30 (.tmp 1)) 30, o 132 (.load 27 (.tmp 2)) 27, o 133 (.call { callee := .value (.func 56), args := #[.tmp 131, .tmp 132, .const (.int .i64 3), .const (.int .i64 4)], argTypes := #[30, 27, 3, 3] }) 71, o 134 (.call { callee := .value (.func 67), args := #[.const (.int .i64 7), .const (.int .i64 (-1))], argTypes := #[34, 3] }) 71, o 135 (.call { callee := .value (.func 48), args := #[.tmp 133, .tmp 134], argTypes := #[71, 71] }) 3, o 136 (.binOp .mul 3 (.tmp 130) (.tmp 135) 3) 3, o 137 (.load 30 (.tmp 1)) 30, o 138 (.call { callee := .value (.func 51), args := #[.tmp 137], argTypes := #[30] }) 71, o 139 (.call { callee := .value (.func 67), args := #[.const (.int .i64 13), .const (.int .i64 1)], argTypes := #[34, 3] }) 71, o 140 (.call { callee := .value (.func 48), args := #[.tmp 138, .tmp 139], argTypes := #[71, 71] }) 3, o 141 (.binOp .mul 3 (.tmp 136) (.tmp 140) 3) 3, o 142 (.binOp .eql 3 (.tmp 141) (.const (.int .i64 0)) 3) 4] true)
 (.cond (.tmp 142)
 (.seq (.region 14 #[o 0 (.assign (.const (.bool false))) 4] false)
 .ret)
 .skip))
 (.seq (.region 15 #[o 144 (.load 30 (.tmp 1)) 30, ⟨some 145, .buildSlice 47 1 #[(0, .const (.int .i64 1))], 47, "", fz, none⟩, o 146 (.call { callee := .value (.func 63), args := #[.tmp 144, .tmp 145], argTypes := #[30, 47] }) 84, m 143 146 84, o 147 (.extract (.tmp 143) 0) 3, o 148 (.extract (.tmp 143) 1) 34, o 17 (.assign (.tmp 147)) 3, o 18 (.assign (.tmp 148)) 34] false)
 (.seq (.region 16 #[o 150 (.load 30 (.tmp 1)) 30, ⟨some 151, .buildSlice 47 1 #[(0, .const (.int .i64 2))], 47, "", fz, none⟩, o 152 (.call { callee := .value (.func 63), args := #[.tmp 150, .tmp 151], argTypes := #[30, 47] }) 84, m 149 152 84, o 153 (.extract (.tmp 149) 0) 3, o 154 (.extract (.tmp 149) 1) 34, o 19 (.assign (.tmp 153)) 3, o 20 (.assign (.tmp 154)) 34] false)
 (.seq (.region 17 #[o 156 (.load 30 (.tmp 1)) 30, o 157 (.call { callee := .value (.func 63), args := #[.tmp 156, .const (.slice none 0 0)], argTypes := #[30, 47] }) 84, m 155 157 84, o 158 (.extract (.tmp 155) 0) 3, o 159 (.extract (.tmp 155) 1) 34, o 21 (.assign (.tmp 158)) 3, o 22 (.assign (.tmp 159)) 34] false)
 (.seq (.region 18 #[o 161 (.load 30 (.tmp 1)) 30, o 162 (.call { callee := .value (.func 67), args := #[.const (.int .i64 8), .const (.int .i64 1)], argTypes := #[34, 3] }) 71, o 163 (.call { callee := .value (.func 54), args := #[.tmp 161, .tmp 162], argTypes := #[30, 71] }) 84, m 160 163 84, o 164 (.extract (.tmp 160) 0) 3, o 165 (.extract (.tmp 160) 1) 34, o 23 (.assign (.tmp 164)) 3, o 24 (.assign (.tmp 165)) 34] true)
 (.seq (.region 19 #[o 166 (.call { callee := .value (.func 67), args := #[.const (.int .i64 9), .const (.int .i64 1)], argTypes := #[34, 3] }) 71, o 167 (.call { callee := .value (.func 53), args := #[.const (.int .i64 3), .tmp 166], argTypes := #[3, 71] }) 71, o 25 (.alloc 71) 0, ⟨none, .store 71 (.tmp 25) (.tmp 167), 0, "", #[], none⟩] false)
 (.seq (.region 20 #[m 168 17 3, o 169 (.binOp .eql 3 (.tmp 168) (.const (.int .i64 5)) 3) 4, m 170 169 4, ⟨some 171, .move (.tmp 18), 34, "", #[], some (170, true)⟩, ⟨some 172, .binOp .eql 34 (.tmp 171) (.const (.int .i64 0)) 34, 4, "", #[], some (170, true)⟩, o 173 (.pick (.tmp 170) (.tmp 172) (.const (.bool false))) 4, m 174 173 4, ⟨some 175, .move (.tmp 20), 34, "", #[], some (174, true)⟩, ⟨some 176, .binOp .eql 34 (.tmp 175) (.const (.int .i64 19)) 34, 4, "", #[], some (174, true)⟩, o 177 (.pick (.tmp 174) (.tmp 176) (.const (.bool false))) 4, m 178 177 4, ⟨some 179, .move (.tmp 21), 3, "", #[], some (178, true)⟩, ⟨some 180, .binOp .eql 3 (.tmp 179) (.const (.int .i64 0)) 3, 4, "", #[], some (178, true)⟩, o 181 (.pick (.tmp 178) (.tmp 180) (.const (.bool false))) 4, m 182 181 4, ⟨some 183, .move (.tmp 22), 34, "", #[], some (182, true)⟩, ⟨some 184, .binOp .eql 34 (.tmp 183) (.const (.int .i64 0)) 34, 4, "", #[], some (182, true)⟩, o 185 (.pick (.tmp 182) (.tmp 184) (.const (.bool false))) 4, m 186 185 4, ⟨some 187, .move (.tmp 23), 3, "", #[], some (186, true)⟩, ⟨some 188, .binOp .eql 3 (.tmp 187) (.const (.int .i64 5)) 3, 4, "", #[], some (186, true)⟩, o 189 (.pick (.tmp 186) (.tmp 188) (.const (.bool false))) 4, m 190 189 4, ⟨some 191, .move (.tmp 24), 34, "", #[], some (190, true)⟩, ⟨some 192, .binOp .eql 34 (.tmp 191) (.const (.int .i64 8)) 34, 4, "", #[], some (190, true)⟩, o 193 (.pick (.tmp 190) (.tmp 192) (.const (.bool false))) 4, m 194 193 4, ⟨some 195, .load 71 (.tmp 25), 71, "", #[], some (194, true)⟩, ⟨some 196, .buildSlice 47 2 #[(0, .const (.int .i64 3)), (1, .const (.int .i64 1))], 47, "", #[], some (194, true)⟩, ⟨some 197, .build 71 #[(0, .tmp 196), (1, .const (.int .i64 9))], 71, "", #[], some (194, true)⟩, ⟨some 198, .call { callee := .value (.func 48), args := #[.tmp 195, .tmp 197], argTypes := #[71, 71] }, 3, "", #[], some (194, true)⟩, ⟨some 199, .binOp .eql 3 (.tmp 198) (.const (.int .i64 1)) 3, 4, "", #[], some (194, true)⟩, o 200 (.pick (.tmp 194) (.tmp 199) (.const (.bool false))) 4, o 0 (.assign (.tmp 200)) 4] false)
 .ret))))))))))))))))))
def fn50 : AFn := { ntmps := 201, results := [.tmp 0], body := c50, keep := fun | 0 => some [] | 1 => some [1] | 2 => some [1, 2, 3, 4] | 3 => some [1, 2, 3, 4, 5, 6] | 4 => some [1, 2, 3, 4, 5, 6, 7, 8] | 5 => some [1, 2, 3, 4, 70] | 6 => some [0] | 7 => some [1, 2, 3, 4, 10] | 8 => some [1, 2, 3, 4, 10, 12] | 9 => some [1, 2, 4, 10, 12, 14] | 10 => some [1, 2, 10, 12, 14, 16] | 11 => some [1, 2, 125] | 12 => some [0] | 13 => some [1, 142] | 14 => some [0] | 15 => some [1, 17, 18] | 16 => some [1, 17, 18, 20] | 17 => some [1, 17, 18, 20, 21, 22] | 18 => some [17, 18, 20, 21, 22, 23, 24] | 19 => some [17, 18, 20, 21, 22, 23, 24, 25] | 20 => some [0] | _ => none, head := fun  | _ => none, opn := fun _ => none, dyn := fun _ => [] }
def c51 : Code :=
  (.seq (.region 0 #[o 1 (.box 30 (.tmp 0)) 0, o 2 (.alloc 71) 0] false)
 (.seq (.seq (.region 1 #[o 7 (.fieldAddr 30 (.tmp 1) 2) 0, o 8 (.load 28 (.tmp 7)) 28, o 9 (.call { callee := .builtin .len, args := #[.tmp 8], argTypes := #[28] }) 3, o 10 (.move (.const (.int .i64 0))) 3] false)
 (.block 0 (.loop (.seq (.region 2 #[o 11 (.binOp .lss 3 (.tmp 10) (.tmp 9) 3) 0] false)
 (.seq (.cond (.tmp 11)
 .skip
 (.exit 0))
 (.seq (.block 1 (.seq (.region 3 #[m 12 10 3, o 13 (.indexAddr 28 (.tmp 8) (.tmp 10)) 0, o 14 (.load 30 (.tmp 13)) 30, o 4 (.alloc 30) 0, o 3 (.assign (.tmp 12)) 3, ⟨none, .store 30 (.tmp 4) (.tmp 14), 0, "", #[], none⟩] false)
 (.seq (.seq (.region 4 #[o 15 (.load 30 (.tmp 4)) 30, o 16 (.call { callee := .value (.func 32), args := #[.tmp 15], argTypes := #[30] }) 34, o 5 (.assign (.tmp 16)) 34] false)
 (.seq (.region 5 #[m 17 5 34, o 18 (.binOp .neq 34 (.tmp 17) (.const (.int .i64 0)) 34) 4] false)
 (.cond (.tmp 18)
 (.seq (.region 6 #[m 19 5 34, m 20 3 3, ⟨some 21, .buildSlice 47 1 #[(0, .tmp 20)], 47, "", fz, none⟩, o 22 (.call { callee := .value (.func 82), args := #[.tmp 19, .tmp 21], argTypes := #[34, 47] }) 71, ⟨none, .store 71 (.tmp 2) (.tmp 22), 0, "", #[], none⟩] false)
 .ret)
 .skip)))
 (.seq (.seq (.region 7 #[m 23 3 3, o 24 (.binOp .eql 3 (.tmp 23) (.const (.int .i64 0)) 3) 4] false)
 (.cond (.tmp 24)
 (.exit 1)
 .skip))
 (.seq (.region 8 #[o 25 (.fieldAddr 30 (.tmp 1) 2) 0, o 26 (.load 28 (.tmp 25)) 28, m 27 3 3, o 28 (.binOp .sub 3 (.tmp 27) (.const (.int .i64 1)) 3) 3, o 29 (.indexAddr 28 (.tmp 26) (.tmp 28)) 0, o 30 (.load 30 (.tmp 29)) 30, o 31 (.load 30 (.tmp 4)) 30, o 32 (.call { callee := .value (.func 37), args := #[.tmp 30, .tmp 31], argTypes := #[30, 30] }) 3, o 6 (.assign (.tmp 32)) 3] true)
 (.block 2 (.seq (.region 9 #[m 34 6 3, o 35 (.binOp .gtr 3 (.tmp 34) (.const (.int .i64 0)) 3) 4, o 33 (.assign (.tmp 35)) 4] false)
 (.cond (.tmp 33)
 (.seq (.region 10 #[m 36 3 3, ⟨some 37, .buildSlice 47 1 #[(0, .tmp 36)], 47, "", fz, none⟩, o 38 (.call { callee := .value (.func 82), args := #[.const (.int .i64 13), .tmp 37], argTypes := #[34, 47] }) 71, ⟨none, .store 71 (.tmp 2) (.tmp 38), 0, "", #[], none⟩] false)
 .ret)
 (.seq (.region 11 #[m 40 6 3, o 41 (.binOp .eql 3 (.tmp 40) (.const (.int .i64 0)) 3) 4, o 39 (.assign (.tmp 41)) 4] false)
 (.cond (.tmp 39)
 (.seq (.region 12 #[m 42 3 3, ⟨some 43, .buildSlice 47 1 #[(0, .tmp 42)], 47, "", fz, none⟩, o 44 (.call { callee := .value (.func 82), args := #[.const (.int .i64 14), .tmp 43], argTypes := #[34, 47] }) 71, ⟨none, .store 71 (.tmp 2) (.tmp 44), 0, "", #[], none⟩] false)
 .ret)
 .skip))))))))))
 (.region 13 #[o 45 (.binOp .add 3 (.tmp 10) (.const (.int .i64 1)) 3) 3, m 10 45 3] false)))))))
 (.seq (.region 14 #[o 46 (.build 71 #[]) 71, ⟨none, .store 71 (.tmp 2) (.tmp 46), 0, "", #[], none⟩] false)
 .ret)))
def fn51 : AFn := { ntmps := 47, results := [.cell 2 71], body := c51, keep := fun | 0 => some [1, 2] | 1 => some [1, 2, 8, 9, 10] | 2 => some [1, 2, 8, 9, 10, 11] | 3 => some [1, 2, 3, 4, 8, 9, 10] | 4 => some [1, 2, 3, 4, 5, 8, 9, 10] | 5 => some [1, 2, 3, 4, 5, 8, 9, 10, 18] | 6 => some [2] | 7 => some [1, 2, 3, 4, 8, 9, 10, 24] | 8 => some [1, 2, 3, 6, 8, 9, 10] | 9 => some [1, 2, 3, 6, 8, 9, 10, 33] | 10 => some [2] | 11 => some [1, 2, 3, 8, 9, 10, 39] | 12 => some [2] | 13 => some [1, 2, 8, 9, 10] | 14 => some [2] | _ => none, head := fun | 2 => some [1, 2, 8, 9, 10] | _ => none, opn := fun _ => none, dyn := fun _ => [] }
def c52 : Code :=
  (.seq (.region 0 #[o 1 (.box 30 (.tmp 0)) 0, o 2 (.alloc 71) 0] false)
 (.seq (.seq (.region 1 #[o 3 (.assign (.const (.int .i64 1))) 3] false)
 (.block 0 (.loop (.seq (.seq (.region 2 #[m 6 3 3, o 7 (.fieldAddr 30 (.tmp 1) 2) 0, o 8 (.load 28 (.tmp 7)) 28, o 9 (.call { callee := .builtin .len, args := #[.tmp 8], argTypes := #[28] }) 3, o 10 (.binOp .lss 3 (.tmp 6) (.tmp 9) 3) 4] false)
 (.cond (.tmp 10)
 .skip
 (.exit 0)))
 (.seq (.block 1 (.seq (.region 4 #[o 13 (.fieldAddr 30 (.tmp 1) 2) 0, o 14 (.load 28 (.tmp 13)) 28, m 15 3 3, o 16 (.binOp .sub 3 (.tmp 15) (.const (.int .i64 1)) 3) 3, o 17 (.indexAddr 28 (.tmp 14) (.tmp 16)) 0, o 18 (.load 30 (.tmp 17)) 30, o 19 (.call { callee := .value (.func 84), args := #[.tmp 18], argTypes := #[30] }) 22, o 20 (.convert 22 9 (.tmp 19)) 9, o 4 (.assign (.tmp 20)) 9] false)
 (.seq (.region 5 #[o 21 (.fieldAddr 30 (.tmp 1) 2) 0, o 22 (.load 28 (.tmp 21)) 28, m 23 3 3, o 24 (.indexAddr 28 (.tmp 22) (.tmp 23)) 0, o 25 (.load 30 (.tmp 24)) 30, o 26 (.call { callee := .value (.func 84), args := #[.tmp 25], argTypes := #[30] }) 22, o 27 (.convert 22 9 (.tmp 26)) 9, o 5 (.assign (.tmp 27)) 9] false)
 (.seq (.seq (.region 6 #[m 28 4 9, m 29 5 9, o 30 (.binOp .gtr 9 (.tmp 28) (.tmp 29) 9) 4] false)
 (.cond (.tmp 30)
 (.seq (.region 7 #[m 31 3 3, o 32 (.call { callee := .value (.func 67), args := #[.const (.int .i64 13), .tmp 31], argTypes := #[34, 3] }) 71, ⟨none, .store 71 (.tmp 2) (.tmp 32), 0, "", #[], none⟩] false)
 .ret)
 .skip))
 (.seq (.region 8 #[m 33 4 9, m 34 5 9, o 35 (.binOp .eql 9 (.tmp 33) (.tmp 34) 9) 4] false)
 (.cond (.tmp 35)
 (.seq (.region 9 #[m 36 3 3, o 37 (.call { callee := .value (.func 67), args := #[.const (.int .i64 14), .tmp 36], argTypes := #[34, 3] }) 71, ⟨none, .store 71 (.tmp 2) (.tmp 37), 0, "", #[], none⟩] false)
 .ret)
 .skip))))))
 (.region 3 #[m 11 3 3, o 12 (.binOp .add 3 (.tmp 11) (.const (.int .i64 1)) 3) 3, o 3 (.assign (.tmp 12)) 3] false))))))
 (.seq (.region 10 #[o 38 (.build 71 #[]) 71, ⟨none, .store 71 (.tmp 2) (.tmp 38), 0, "", #[], none⟩] false)
 .ret)))
def fn52 : AFn := { ntmps := 39, results := [.cell 2 71], body := c52, keep := fun | 0 => some [1, 2] | 1 => some [1, 2, 3] | 2 => some [1, 2, 3, 10] | 3 => some [1, 2, 3] | 4 => some [1, 2, 3, 4] | 5 => some [1, 2, 3, 4, 5] | 6 => some [1, 2, 3, 4, 5, 30] | 7 => some [2] | 8 => some [1, 2, 3, 35] | 9 => some [2] | 10 => some [2] | _ => none, head := fun | 2 => some [1, 2, 3] | _ => none, opn := fun _ => none, dyn := fun _ => [] }
def c53 : Code :=
  (.seq (.region 0 #[o 3 (.box 71 (.tmp 1)) 0, o 4 (.alloc 71) 0] false)
 (.seq (.seq (.region 1 #[o 6 (.fieldAddr 71 (.tmp 3) 1) 0, o 7 (.load 34 (.tmp 6)) 34, o 8 (.binOp .eql 34 (.tmp 7) (.const (.int .i64 0)) 34) 4] false)
 (.cond (.tmp 8)
 (.seq (.region 2 #[o 9 (.build 71 #[]) 71, ⟨none, .store 71 (.tmp 4) (.tmp 9), 0, "", #[], none⟩] false)
 .ret)
 .skip))
 (.seq (.region 3 #[o 10 (.fieldAddr 71 (.tmp 3) 0) 0, o 11 (.load 47 (.tmp 10)) 47, o 12 (.call { callee := .builtin .len, args := #[.tmp 11], argTypes := #[47] }) 3, o 13 (.binOp .add 3 (.const (.int .i64 1)) (.tmp 12) 3) 3, o 14 (.makeSlice 47 (.tmp 13) (.tmp 13)) 47, o 5 (.assign (.tmp 14)) 47] false)
 (.seq (.region 4 #[m 15 5 47, m 16 0 3, o 17 (.indexAddr 47 (.tmp 15) (.const (.int .i64 0))) 0, ⟨none, .store 3 (.tmp 17) (.tmp 16), 0, "", #[], none⟩] false)
 (.seq (.region 5 #[m 18 5 47, o 19 (.slice 47 (.tmp 18) (some (.const (.int .i64 1))) none none) 47, o 20 (.fieldAddr 71 (.tmp 3) 0) 0, o 21 (.load 47 (.tmp 20)) 47, o 22 (.call { callee := .builtin .copy, args := #[.tmp 19, .tmp 21], argTypes := #[47, 47] }) 3] true)
 (.seq (.region 6 #[m 23 5 47, o 24 (.fieldAddr 71 (.tmp 3) 1) 0, o 25 (.load 34 (.tmp 24)) 34, o 26 (.build 71 #[(0, .tmp 23), (1, .tmp 25)]) 71, ⟨none, .store 71 (.tmp 4) (.tmp 26), 0, "", #[], none⟩] false)
 .ret))))))
def fn53 : AFn := { ntmps := 27, results := [.cell 4 71], body := c53, keep := fun | 0 => some [0, 3, 4] | 1 => some [0, 3, 4, 8] | 2 => some [4] | 3 => some [0, 3, 4, 5] | 4 => some [3, 4, 5] | 5 => some [3, 4, 5] | 6 => some [4] | _ => none, head := fun  | _ => none, opn := fun _ => none, dyn := fun _ => [] }
def c54 : Code :=
  (.seq (.region 0 #[o 2 (.box 30 (.tmp 0)) 0, o 3 (.box 71 (.tmp 1)) 0, o 4 (.assign (.const (.int .i64 0))) 3, o 5 (.assign (.const (.int .i64 0))) 34] false)
 (.seq (.seq (.region 1 #[o 8 (.fieldAddr 71 (.tmp 3) 1) 0, o 9 (.load 34 (.tmp 8)) 34, o 10 (.binOp .eql 34 (.tmp 9) (.const (.int .i64 0)) 34) 4] false)
 (.cond (.tmp 10)
 (.seq (.region 2 #[o 4 (.assign (.const (.int .i64 0))) 3, o 5 (.assign (.const (.int .i64 0))) 34] false)
 .ret)
 .skip))
 (.seq (.region 3 #[o 12 (.load 30 (.tmp 2)) 30, o 13 (.fieldAddr 71 (.tmp 3) 0) 0, o 14 (.load 47 (.tmp 13)) 47, o 15 (.call { callee := .value (.func 63), args := #[.tmp 12, .tmp 14], argTypes := #[30, 47] }) 84, m 11 15 84, o 16 (.extract (.tmp 11) 0) 3, o 17 (.extract (.tmp 11) 1) 34, o 6 (.assign (.tmp 16)) 3, o 7 (.assign (.tmp 17)) 34] false)
 (.seq (.region 4 #[m 18 6 3, o 19 (.fieldAddr 71 (.tmp 3) 1) 0, o 20 (.load 34 (.tmp 19)) 34, o 4 (.assign (.tmp 18)) 3, o 5 (.assign (.tmp 20)) 34] true)
 .ret))))
def fn54 : AFn := { ntmps := 21, results := [.tmp 4, .tmp 5], body := c54, keep := fun | 0 => some [2, 3] | 1 => some [2, 3, 10] | 2 => some [4, 5] | 3 => some [3, 6] | 4 => some [4, 5] | _ => none, head := fun  | _ => none, opn := fun _ => none, dyn := fun _ => [] }
def c55 : Code :=
  (.seq (.region 0 #[o 0 (.alloc 30) 0] false)
 (.seq (.region 1 #[o 1 (.call { callee := .value (.func 44), args := #[.const (.int .u8 0)], argTypes := #[5] }) 27, o 2 (.call { callee := .value (.func 44), args := #[.const (.int .u8 6)], argTypes := #[5] }) 27, o 3 (.buildSlice 22 1 #[(0, .const (.int .u8 5))]) 22, o 4 (.build 30 #[(0, .tmp 2), (1, .tmp 3)]) 30, o 5 (.call { callee := .value (.func 44), args := #[.const (.int .u8 4)], argTypes := #[5] }) 27, o 6 (.buildSlice 22 1 #[(0, .const (.int .u8 255))]) 22, o 7 (.build 30 #[(0, .tmp 5), (1, .tmp 6)]) 30, o 8 (.buildSlice 28 2 #[(0, .tmp 4), (1, .tmp 7)]) 28, o 9 (.build 30 #[(0, .tmp 1), (2, .tmp 8)]) 30, ⟨none, .store 30 (.tmp 0) (.tmp 9), 0, "", #[], none⟩] false)
 .ret))
def fn55 : AFn := { ntmps := 10, results := [.cell 0 30], body := c55, keep := fun | 0 => some [0] | 1 => some [0] | _ => none, head := fun  | _ => none, opn := fun _ => none, dyn := fun _ => [] }
def c56 : Code :=
  (.seq (.region 0 #[o 4 (.box 30 (.tmp 0)) 0, o 5 (.box 27 (.tmp 1)) 0, o 8 (.alloc 71) 0] false)
 (.seq (.seq (.region 1 #[o 10 (.fieldAddr 30 (.tmp 4) 2) 0, o 11 (.load 28 (.tmp 10)) 28, o 12 (.call { callee := .builtin .len, args := #[.tmp 11], argTypes := #[28] }) 3, o 9 (.assign (.tmp 12)) 3] false)
 (.block 0 (.seq (.region 2 #[m 14 2 3, o 15 (.binOp .lss 3 (.tmp 14) (.const (.int .i64 0)) 3) 4, m 16 15 4, ⟨some 17, .move (.tmp 3), 3, "", #[], some (16, false)⟩, ⟨some 18, .move (.tmp 2), 3, "", #[], some (16, false)⟩, ⟨some 19, .binOp .lss 3 (.tmp 17) (.tmp 18) 3, 4, "", #[], some (16, false)⟩, o 20 (.pick (.tmp 16) (.const (.bool true)) (.tmp 19)) 4, o 13 (.assign (.tmp 20)) 4] false)
 (.cond (.tmp 13)
 (.seq (.region 3 #[o 21 (.call { callee := .value (.func 82), args := #[.const (.int .i64 1), .const (.slice none 0 0)], argTypes := #[34, 47] }) 71, ⟨none, .store 71 (.tmp 8) (.tmp 21), 0, "", #[], none⟩] false)
 .ret)
 (.seq (.region 4 #[o 23 (.fieldAddr 30 (.tmp 4) 0) 0, o 24 (.load 27 (.tmp 23)) 27, o 25 (.load 27 (.tmp 5)) 27, o 26 (.binOp .neq 27 (.tmp 24) (.tmp 25) 27) 4, o 22 (.assign (.tmp 26)) 4] false)
 (.cond (.tmp 22)
 (.seq (.region 5 #[o 27 (.call { callee := .value (.func 82), args := #[.const (.int .i64 9), .const (.slice none 0 0)], argTypes := #[34, 47] }) 71, ⟨none, .store 71 (.tmp 8) (.tmp 27), 0, "", #[], none⟩] false)
 .ret)
 (.seq (.region 6 #[m 29 9 3, m 30 2 3, o 31 (.binOp .lss 3 (.tmp 29) (.tmp 30) 3) 4, m 32 31 4, ⟨some 33, .move (.tmp 9), 3, "", #[], some (32, true)⟩, ⟨some 34, .binOp .eql 3 (.tmp 33) (.const (.int .i64 0)) 3, 4, "", #[], some (32, true)⟩, o 35 (.pick (.tmp 32) (.tmp 34) (.const (.bool false))) 4, o 28 (.assign (.tmp 35)) 4] false)
 (.cond (.tmp 28)
 (.seq (.region 7 #[o 36 (.call { callee := .value (.func 82), args := #[.const (.int .i64 17), .const (.slice none 0 0)], argTypes := #[34, 47] }) 71, ⟨none, .store 71 (.tmp 8) (.tmp 36), 0, "", #[], none⟩] false)
 .ret)
 (.seq (.region 8 #[m 38 9 3, m 39 2 3, o 40 (.binOp .lss 3 (.tmp 38) (.tmp 39) 3) 4, o 37 (.assign (.tmp 40)) 4] false)
 (.cond (.tmp 37)
 (.seq (.region 9 #[o 41 (.call { callee := .value (.func 82), args := #[.const (.int .i64 7), .const (.slice none 0 0)], argTypes := #[34, 47] }) 71, ⟨none, .store 71 (.tmp 8) (.tmp 41), 0, "", #[], none⟩] false)
 .ret)
 (.seq (.region 10 #[m 43 9 3, m 44 3 3, o 45 (.binOp .gtr 3 (.tmp 43) (.tmp 44) 3) 4, o 42 (.assign (.tmp 45)) 4] false)
 (.cond (.tmp 42)
 (.seq (.region 11 #[m 46 3 3, ⟨some 47, .buildSlice 47 1 #[(0, .tmp 46)], 47, "", fz, none⟩, o 48 (.call { callee := .value (.func 82), args := #[.const (.int .i64 3), .tmp 47], argTypes := #[34, 47] }) 71, ⟨none, .store 71 (.tmp 8) (.tmp 48), 0, "", #[], none⟩] false)
 .ret)
 .skip))))))))))))
 (.seq (.region 12 #[o 49 (.build 71 #[]) 71, ⟨none, .store 71 (.tmp 8) (.tmp 49), 0, "", #[], none⟩] false)
 .ret)))
def fn56 : AFn := { ntmps := 50, results := [.cell 8 71], body := c56, keep := fun | 0 => some [2, 3, 4, 5, 8] | 1 => some [2, 3, 4, 5, 8, 9] | 2 => some [2, 3, 4, 5, 8, 9, 13] | 3 => some [8] | 4 => some [2, 3, 8, 9, 22] | 5 => some [8] | 6 => some [2, 3, 8, 9, 28] | 7 => some [8] | 8 => some [3, 8, 9, 37] | 9 => some [8] | 10 => some [3, 8, 42] | 11 => some [8] | 12 => some [8] | _ => none, head := fun  | _ => none, opn := fun _ => none, dyn := fun _ => [] }
def c63 : Code :=
  (.seq (.region 0 #[o 2 (.box 30 (.tmp 0)) 0, o 4 (.assign (.const (.int .i64 0))) 3, o 5 (.assign (.const (.int .i64 0))) 34] false)
 (.seq (.seq (.region 1 #[o 14 (.load 30 (.tmp 2)) 30, o 15 (.call { callee := .value (.func 21), args := #[.tmp 14], argTypes := #[30] }) 35, m 13 15 35, o 16 (.extract (.tmp 13) 0) 22, o 17 (.extract (.tmp 13) 1) 34, o 6 (.assign (.tmp 16)) 22, o 7 (.assign (.tmp 17)) 34] false)
 (.seq (.region 2 #[m 18 7 34, o 19 (.binOp .neq 34 (.tmp 18) (.const (.int .i64 0)) 34) 4] false)
 (.cond (.tmp 19)
 (.seq (.region 3 #[m 20 7 34, o 4 (.assign (.const (.int .i64 0))) 3, o 5 (.assign (.tmp 20)) 34] false)
 .ret)
 .skip)))
 (.seq (.region 4 #[o 8 (.assign (.const (.int .i64 0))) 3] false)
 (.seq (.seq (.region 5 #[m 21 1 47, o 22 (.call { callee := .builtin .len, args := #[.tmp 21], argTypes := #[47] }) 3, o 23 (.move (.const (.int .i64 0))) 3] false)
 (.block 0 (.loop (.seq (.region 6 #[o 24 (.binOp .lss 3 (.tmp 23) (.tmp 22) 3) 0] false)
 (.seq (.cond (.tmp 24)
 .skip
 (.exit 0))
 (.seq (.block 1 (.seq (.region 7 #[o 25 (.indexAddr 47 (.tmp 21) (.tmp 23)) 0, o 26 (.load 3 (.tmp 25)) 3, o 10 (.assign (.tmp 26)) 3] false)
 (.seq (.region 8 #[o 28 (.load 30 (.tmp 2)) 30, m 29 10 3, o 30 (.call { callee := .value (.func 85), args := #[.tmp 28, .tmp 29], argTypes := #[30, 3] }) 91, m 27 30 91, o 31 (.extract (.tmp 27) 0) 30, o 32 (.extract (.tmp 27) 1) 4, o 11 (.alloc 30) 0, ⟨none, .store 30 (.tmp 11) (.tmp 31), 0, "", #[], none⟩, o 12 (.assign (.tmp 32)) 4] false)
 (.seq (.seq (.region 9 #[m 33 12 4, o 34 (.unOp .not 4 (.tmp 33)) 4] false)
 (.cond (.tmp 34)
 (.seq (.region 10 #[o 4 (.assign (.const (.int .i64 0))) 3, o 5 (.assign (.const (.int .i64 19))) 34] false)
 .ret)
 .skip))
 (.seq (.region 11 #[m 35 8 3, o 36 (.load 30 (.tmp 2)) 30, ⟨some 37, .buildSlice 28 1 #[(0, .tmp 36)], 28, "", fz, none⟩, o 38 (.call { callee := .value (.func 87), args := #[.tmp 37], argTypes := #[28] }) 3, o 39 (.fieldAddr 30 (.tmp 2) 2) 0, o 40 (.load 28 (.tmp 39)) 28, m 41 10 3, o 42 (.slice 28 (.tmp 40) (some (.tmp 41)) none none) 28, o 43 (.call { callee := .value (.func 87), args := #[.tmp 42], argTypes := #[28] }) 3, o 44 (.binOp .sub 3 (.tmp 38) (.tmp 43) 3) 3, o 45 (.binOp .add 3 (.tmp 35) (.tmp 44) 3) 3, o 8 (.assign (.tmp 45)) 3] true)
 (.region 12 #[o 46 (.load 30 (.tmp 11)) 30, ⟨none, .store 30 (.tmp 2) (.tmp 46), 0, "", #[], none⟩] false))))))
 (.region 13 #[o 47 (.binOp .add 3 (.tmp 23) (.const (.int .i64 1)) 3) 3, m 23 47 3] false)))))))
 (.seq (.region 14 #[m 48 8 3, o 4 (.assign (.tmp 48)) 3, o 5 (.assign (.const (.int .i64 0))) 34] false)
 .ret)))))
def fn63 : AFn := { ntmps := 49, results := [.tmp 4, .tmp 5], body := c63, keep := fun | 0 => some [1, 2] | 1 => some [1, 2, 7] | 2 => some [1, 2, 7, 19] | 3 => some [4, 5] | 4 => some [1, 2, 8] | 5 => some [2, 8, 21, 22, 23] | 6 => some [2, 8, 21, 22, 23, 24] | 7 => some [2, 8, 10, 21, 22, 23] | 8 => some [2, 8, 10, 11, 12, 21, 22, 23] | 9 => some [2, 8, 10, 11, 21, 22, 23, 34] | 10 => some [4, 5] | 11 => some [2, 8, 11, 21, 22, 23] | 12 => some [2, 8, 21, 22, 23] | 13 => some [2, 8, 21, 22, 23] | 14 => some [4, 5] | _ => none, head := fun | 6 => some [2, 8, 21, 22, 23] | _ => none, opn := fun _ => none, dyn := fun _ => [] }
def c67 : Code :=
  (.seq (.region 0 #[o 4 (.alloc 71) 0] false)
 (.seq (.region 1 #[m 6 0 34, o 7 (.build 71 #[(1, .tmp 6)]) 71, o 5 (.alloc 71) 0, ⟨none, .store 71 (.tmp 5) (.tmp 7), 0, "", #[], none⟩] false)
 (.seq (.seq (.region 2 #[m 8 1 3, o 9 (.binOp .geq 3 (.tmp 8) (.const (.int .i64 0)) 3) 4] false)
 (.cond (.tmp 9)
 (.region 3 #[o 10 (.fieldAddr 71 (.tmp 5) 0) 0, o 11 (.load 47 (.tmp 10)) 47, m 12 1 3, o 13 (.buildSlice 47 1 #[(0, .tmp 12)]) 47, o 14 (.call { callee := .builtin .append, args := #[.tmp 11, .tmp 13], argTypes := #[47, 47] }) 47, o 15 (.fieldAddr 71 (.tmp 5) 0) 0, ⟨none, .store 47 (.tmp 15) (.tmp 14), 0, "", #[], none⟩] false)
 .skip))
 (.seq (.region 4 #[o 16 (.load 71 (.tmp 5)) 71, ⟨none, .store 71 (.tmp 4) (.tmp 16), 0, "", #[], none⟩] false)
 .ret))))
def fn67 : AFn := { ntmps := 17, results := [.cell 4 71], body := c67, keep := fun | 0 => some [0, 1, 4] | 1 => some [1, 4, 5] | 2 => some [1, 4, 5, 9] | 3 => some [4, 5] | 4 => some [4] | _ => none, head := fun  | _ => none, opn := fun _ => none, dyn := fun _ => [] }
def c69 : Code :=
  (.seq (.region 0 #[o 1 (.box 30 (.tmp 0)) 0, o 2 (.assign (.const (.int .i64 0))) 3] false)
 (.seq (.region 1 #[o 4 (.load 30 (.tmp 1)) 30, o 5 (.call { callee := .value (.func 90), args := #[.tmp 4], argTypes := #[30] }) 3, o 3 (.assign (.tmp 5)) 3] false)
 (.seq (.seq (.region 2 #[m 6 3 3, o 7 (.binOp .gtr 3 (.tmp 6) (.const (.int .i64 1048576)) 3) 4] false)
 (.cond (.tmp 7)
 (.seq (.region 3 #[m 8 3 3, o 2 (.assign (.tmp 8)) 3] false)
 .ret)
 .skip))
 (.seq (.region 4 #[o 9 (.fieldAddr 30 (.tmp 1) 0) 0, o 10 (.load 27 (.tmp 9)) 27, o 11 (.call { callee := .value (.func 92), args := #[.tmp 10], argTypes := #[27] }) 3, m 12 3 3, o 13 (.call { callee := .value (.func 91), args := #[.tmp 11, .tmp 12], argTypes := #[3, 3] }) 3, o 2 (.assign (.tmp 13)) 3] false)
 .ret))))
def fn69 : AFn := { ntmps := 14, results := [.tmp 2], body := c69, keep := fun | 0 => some [1] | 1 => some [1, 3] | 2 => some [1, 3, 7] | 3 => some [2] | 4 => some [2] | _ => none, head := fun  | _ => none, opn := fun _ => none, dyn := fun _ => [] }
def c70 : Code :=
  (.seq (.region 0 #[o 3 (.box 30 (.tmp 1)) 0, o 4 (.assign (.const (.slice none 0 0))) 22] false)
 (.seq (.region 1 #[o 12 (.fieldAddr 30 (.tmp 3) 0) 0, o 13 (.load 27 (.tmp 12)) 27, o 14 (.call { callee := .value (.func 93), args := #[.tmp 13], argTypes := #[27] }) 35, m 11 14 35, o 15 (.extract (.tmp 11) 0) 22, o 16 (.extract (.tmp 11) 1) 34, o 5 (.assign (.tmp 15)) 22, o 6 (.assign (.tmp 16)) 34] false)
 (.seq (.region 2 #[o 18 (.load 30 (.tmp 3)) 30, o 19 (.call { callee := .value (.func 90), args := #[.tmp 18], argTypes := #[30] }) 3, o 20 (.call { callee := .value (.func 94), args := #[.tmp 19], argTypes := #[3] }) 35, m 17 20 35, o 21 (.extract (.tmp 17) 0) 22, o 22 (.extract (.tmp 17) 1) 34, o 7 (.assign (.tmp 21)) 22, o 8 (.assign (.tmp 22)) 34] false)
 (.seq (.region 3 #[m 23 0 22, m 24 5 22, o 25 (.call { callee := .builtin .append, args := #[.tmp 23, .tmp 24], argTypes := #[22, 22] }) 22, m 26 7 22, o 27 (.call { callee := .builtin .append, args := #[.tmp 25, .tmp 26], argTypes := #[22, 22] }) 22, o 0 (.assign (.tmp 27)) 22] false)
 (.seq (.region 4 #[m 28 0 22, o 29 (.fieldAddr 30 (.tmp 3) 1) 0, o 30 (.load 22 (.tmp 29)) 22, o 31 (.call { callee := .builtin .append, args := #[.tmp 28, .tmp 30], argTypes := #[22, 22] }) 22, o 0 (.assign (.tmp 31)) 22] false)
 (.seq (.seq (.region 5 #[o 32 (.fieldAddr 30 (.tmp 3) 2) 0, o 33 (.load 28 (.tmp 32)) 28, o 34 (.call { callee := .builtin .len, args := #[.tmp 33], argTypes := #[28] }) 3, o 35 (.move (.const (.int .i64 0))) 3] false)
 (.block 0 (.loop (.seq (.region 6 #[o 36 (.binOp .lss 3 (.tmp 35) (.tmp 34) 3) 0] false)
 (.seq (.cond (.tmp 36)
 .skip
 (.exit 0))
 (.seq (.block 1 (.seq (.region 7 #[o 37 (.indexAddr 28 (.tmp 33) (.tmp 35)) 0, o 38 (.load 30 (.tmp 37)) 30, o 10 (.alloc 30) 0, ⟨none, .store 30 (.tmp 10) (.tmp 38), 0, "", #[], none⟩] false)
 (.region 8 #[m 39 0 22, o 40 (.load 30 (.tmp 10)) 30, o 41 (.call { callee := .value (.func 70), args := #[.tmp 39, .tmp 40], argTypes := #[22, 30] }) 22, o 0 (.assign (.tmp 41)) 22] false)))
 (.region 9 #[o 42 (.binOp .add 3 (.tmp 35) (.const (.int .i64 1)) 3) 3, m 35 42 3] false)))))))
 (.seq (.region 10 #[m 43 0 22, o 4 (.assign (.tmp 43)) 22] false)
 .ret)))))))
def fn70 : AFn := { ntmps := 44, results := [.tmp 4], body := c70, keep := fun | 0 => some [0, 3] | 1 => some [0, 3, 5] | 2 => some [0, 3, 5, 7] | 3 => some [0, 3] | 4 => some [0, 3] | 5 => some [0, 33, 34, 35] | 6 => some [0, 33, 34, 35, 36] | 7 => some [0, 10, 33, 34, 35] | 8 => some [0, 33, 34, 35] | 9 => some [0, 33, 34, 35] | 10 => some [4] | _ => none, head := fun | 6 => some [0, 33, 34, 35] | _ => none, opn := opnT, dyn := fun _ => [] }
def c71 : Code :=
  (.seq (.region 0 #[o 1 (.box 105 (.tmp 0)) 0, o 2 (.alloc 27) 0] false)
 (.seq (.region 1 #[o 4 (.fieldAddr 105 (.tmp 1) 0) 0, o 5 (.load 5 (.tmp 4)) 5, o 6 (.binOp .rem 5 (.tmp 5) (.const (.int .u8 4)) 5) 5, o 7 (.fieldAddr 105 (.tmp 1) 1) 0, o 8 (.load 5 (.tmp 7)) 5, o 9 (.binOp .rem 5 (.tmp 8) (.const (.int .u8 2)) 5) 5, o 10 (.binOp .eql 5 (.tmp 9) (.const (.int .u8 1)) 5) 4, o 11 (.fieldAddr 105 (.tmp 1) 2) 0, o 12 (.load 25 (.tmp 11)) 25, o 13 (.binOp .rem 25 (.tmp 12) (.const (.int .u32 268435456)) 25) 25, o 14 (.build 27 #[(0, .tmp 6), (1, .tmp 10), (2, .tmp 13)]) 27, o 3 (.alloc 27) 0, ⟨none, .store 27 (.tmp 3) (.tmp 14), 0, "", #[], none⟩] false)
 (.seq (.seq (.region 2 #[o 15 (.load 27 (.tmp 3)) 27, o 16 (.call { callee := .value (.func 80), args := #[.tmp 15], argTypes := #[27] }) 3, o 17 (.binOp .neq 3 (.tmp 16) (.const (.int .i64 0)) 3) 4] false)
 (.cond (.tmp 17)
 (.region 3 #[o 18 (.fieldAddr 27 (.tmp 3) 2) 0, ⟨none, .store 25 (.tmp 18) (.const (.int .u32 4)), 0, "", #[], none⟩] false)
 .skip))
 (.seq (.region 4 #[o 19 (.load 27 (.tmp 3)) 27, ⟨none, .store 27 (.tmp 2) (.tmp 19), 0, "", #[], none⟩] false)
 .ret))))
def fn71 : AFn := { ntmps := 20, results := [.cell 2 27], body := c71, keep := fun | 0 => some [1, 2] | 1 => some [2, 3] | 2 => some [2, 3, 17] | 3 => some [2, 3] | 4 => some [2] | _ => none, head := fun  | _ => none, opn := fun _ => none, dyn := fun _ => [] }
def c72 : Code :=
  (.seq (.region 0 #[o 7 (.call { callee := .builtin .recover, args := #[], argTypes := #[] }) 20, o 4 (.assign (.tmp 7)) 20] false)
 (.seq (.region 1 #[m 8 4 20, o 9 (.binOp .neq 20 (.tmp 8) (.const .nilIface) 20) 4] false)
 (.cond (.tmp 9)
 (.seq (.region 2 #[m 11 4 20, o 12 (.typeAssert (.tmp 11) 20 110 true) 111, m 10 12 111, o 13 (.extract (.tmp 10) 0) 110, o 14 (.extract (.tmp 10) 1) 4, o 5 (.alloc 110) 0, ⟨none, .store 110 (.tmp 5) (.tmp 13), 0, "", #[], none⟩, o 6 (.assign (.tmp 14)) 4] false)
 (.seq (.seq (.region 3 #[m 15 6 4, o 16 (.unOp .not 4 (.tmp 15)) 4] false)
 (.cond (.tmp 16)
 (.region 4 #[m 17 4 20, ⟨none, .panic (.tmp 17), 0, "", #[], none⟩] false)
 .skip))
 (.region 5 #[o 18 (.build 30 #[]) 30, o 19 (.fieldAddr 110 (.tmp 5) 0) 0, o 20 (.load 3 (.tmp 19)) 3, o 21 (.fieldAddr 110 (.tmp 5) 1) 0, o 22 (.load 34 (.tmp 21)) 34, ⟨none, .store 30 (.tmp 0) (.tmp 18), 0, "", #[], none⟩, ⟨none, .store 3 (.tmp 1) (.const (.int .i64 0)), 0, "", #[], none⟩, ⟨none, .store 3 (.tmp 2) (.tmp 20), 0, "", #[], none⟩, ⟨none, .store 34 (.tmp 3) (.tmp 22), 0, "", #[], none⟩] true)))
 .skip)))
def fn72 : AFn := { ntmps := 23, results := [], body := c72, keep := fun | 0 => some [0, 1, 2, 3, 4] | 1 => some [0, 1, 2, 3, 4, 9] | 2 => some [0, 1, 2, 3, 4, 5, 6] | 3 => some [0, 1, 2, 3, 4, 5, 16] | 4 => some [0, 1, 2, 3, 5] | 5 => some [] | _ => none, head := fun  | _ => none, opn := fun _ => none, dyn := fun | 5 => [(2, 5), (4, 5), (2, 6), (4, 6), (4, 7)] | _ => [] }
def c73 : Code :=
  (.seq (.region 0 #[o 8 (.alloc 30) 0, o 9 (.assign (.const (.int .i64 0))) 3] false)
 (.seq (.region 1 #[m 17 0 136, o 18 (.nilCheck (.tmp 17)) 0, o 19 (.fieldAddr 113 (.tmp 18) 0) 0, o 20 (.load 22 (.tmp 19)) 22, m 21 1 3, m 22 2 3, o 23 (.slice 22 (.tmp 20) (some (.tmp 21)) (some (.tmp 22)) none) 22, o 24 (.call { callee := .value (.func 95), args := #[.tmp 23], argTypes := #[22] }) 137, m 16 24 137, o 25 (.extract (.tmp 16) 0) 27, o 26 (.extract (.tmp 16) 1) 3, o 27 (.extract (.tmp 16) 2) 34, o 10 (.alloc 27) 0, ⟨none, .store 27 (.tmp 10) (.tmp 25), 0, "", #[], none⟩, o 11 (.assign (.tmp 26)) 3, o 12 (.assign (.tmp 27)) 34] false)
 (.seq (.block 0 (.seq (.region 2 #[m 29 12 34, o 30 (.binOp .eql 34 (.tmp 29) (.const (.int .i64 7)) 34) 4, o 28 (.assign (.tmp 30)) 4] false)
 (.cond (.tmp 28)
 (.region 3 #[m 31 2 3, m 32 12 34, o 33 (.build 110 #[(0, .tmp 31), (1, .tmp 32)]) 110, o 34 (.makeInterface 110 (.tmp 33)) 20, ⟨none, .panic (.tmp 34), 0, "", #[], none⟩] false)
 (.seq (.region 4 #[m 36 12 34, o 37 (.binOp .neq 34 (.tmp 36) (.const (.int .i64 0)) 34) 4, o 35 (.assign (.tmp 37)) 4] false)
 (.cond (.tmp 35)
 (.region 5 #[m 38 1 3, m 39 12 34, o 40 (.build 110 #[(0, .tmp 38), (1, .tmp 39)]) 110, o 41 (.makeInterface 110 (.tmp 40)) 20, ⟨none, .panic (.tmp 41), 0, "", #[], none⟩] false)
 (.seq (.region 6 #[m 43 3 3, o 44 (.binOp .gtr 3 (.tmp 43) (.const (.int .i64 16)) 3) 4, o 42 (.assign (.tmp 44)) 4] false)
 (.cond (.tmp 42)
 (.region 7 #[m 45 1 3, o 46 (.build 110 #[(0, .tmp 45), (1, .const (.int .i64 12))]) 110, o 47 (.makeInterface 110 (.tmp 46)) 20, ⟨none, .panic (.tmp 47), 0, "", #[], none⟩] false)
 (.seq (.region 8 #[m 49 0 136, o 50 (.nilCheck (.tmp 49)) 0, o 51 (.fieldAddr 113 (.tmp 50) 1) 0, o 52 (.load 3 (.tmp 51)) 3, o 53 (.binOp .eql 3 (.tmp 52) (.const (.int .i64 8192)) 3) 4, o 48 (.assign (.tmp 53)) 4] false)
 (.cond (.tmp 48)
 (.region 9 #[m 54 1 3, o 55 (.build 110 #[(0, .tmp 54), (1, .const (.int .i64 3))]) 110, o 56 (.makeInterface 110 (.tmp 55)) 20, ⟨none, .panic (.tmp 56), 0, "", #[], none⟩] false)
 .skip)))))))))
 (.seq (.region 10 #[m 57 0 136, o 58 (.nilCheck (.tmp 57)) 0, o 59 (.fieldAddr 113 (.tmp 58) 1) 0, o 60 (.load 3 (.tmp 59)) 3, o 61 (.binOp .add 3 (.tmp 60) (.const (.int .i64 1)) 3) 3, o 62 (.nilCheck (.tmp 57)) 0, o 63 (.fieldAddr 113 (.tmp 62) 1) 0, ⟨none, .store 3 (.tmp 63) (.tmp 61), 0, "", #[], none⟩] false)
 (.seq (.region 11 #[m 64 1 3, m 65 11 3, o 66 (.binOp .add 3 (.tmp 64) (.tmp 65) 3) 3, o 1 (.assign (.tmp 66)) 3] false)
 (.seq (.region 12 #[m 68 0 136, o 69 (.nilCheck (.tmp 68)) 0, o 70 (.fieldAddr 113 (.tmp 69) 0) 0, o 71 (.load 22 (.tmp 70)) 22, m 72 1 3, m 73 2 3, o 74 (.slice 22 (.tmp 71) (some (.tmp 72)) (some (.tmp 73)) none) 22, o 75 (.call { callee := .value (.func 96), args := #[.tmp 74], argTypes := #[22] }) 139, m 67 75 139, o 76 (.extract (.tmp 67) 0) 3, o 77 (.extract (.tmp 67) 1) 3, o 78 (.extract (.tmp 67) 2) 34, o 13 (.assign (.tmp 76)) 3, o 11 (.assign (.tmp 77)) 3, o 12 (.assign (.tmp 78)) 34] false)
 (.seq (.block 1 (.seq (.region 13 #[m 80 12 34, o 81 (.binOp .eql 34 (.tmp 80) (.const (.int .i64 7)) 34) 4, o 79 (.assign (.tmp 81)) 4] false)
 (.cond (.tmp 79)
 (.region 14 #[m 82 2 3, m 83 12 34, o 84 (.build 110 #[(0, .tmp 82), (1, .tmp 83)]) 110, o 85 (.makeInterface 110 (.tmp 84)) 20, ⟨none, .panic (.tmp 85), 0, "", #[], none⟩] false)
 (.seq (.region 15 #[m 87 12 34, o 88 (.binOp .neq 34 (.tmp 87) (.const (.int .i64 0)) 34) 4, o 86 (.assign (.tmp 88)) 4] false)
 (.cond (.tmp 86)
 (.region 16 #[m 89 1 3, m 90 12 34, o 91 (.build 110 #[(0, .tmp 89), (1, .tmp 90)]) 110, o 92 (.makeInterface 110 (.tmp 91)) 20, ⟨none, .panic (.tmp 92), 0, "", #[], none⟩] false)
 (.seq (.region 17 #[m 94 13 3, m 95 2 3, m 96 1 3, o 97 (.binOp .sub 3 (.tmp 95) (.tmp 96) 3) 3, m 98 11 3, o 99 (.binOp .sub 3 (.tmp 97) (.tmp 98) 3) 3, o 100 (.binOp .gtr 3 (.tmp 94) (.tmp 99) 3) 4, o 93 (.assign (.tmp 100)) 4] false)
 (.cond (.tmp 93)
 (.region 18 #[m 101 2 3, o 102 (.build 110 #[(0, .tmp 101), (1, .const (.int .i64 7))]) 110, o 103 (.makeInterface 110 (.tmp 102)) 20, ⟨none, .panic (.tmp 103), 0, "", #[], none⟩] false)
 .skip)))))))
 (.seq (.region 19 #[m 104 1 3, m 105 11 3, o 106 (.binOp .add 3 (.tmp 104) (.tmp 105) 3) 3, o 1 (.assign (.tmp 106)) 3] false)
 (.seq (.region 20 #[m 107 1 3, m 108 13 3, o 109 (.binOp .add 3 (.tmp 107) (.tmp 108) 3) 3, o 2 (.assign (.tmp 109)) 3] false)
 (.seq (.region 21 #[o 110 (.load 27 (.tmp 10)) 27, o 111 (.build 30 #[(0, .tmp 110)]) 30, o 14 (.alloc 30) 0, ⟨none, .store 30 (.tmp 14) (.tmp 111), 0, "", #[], none⟩] false)
 (.seq (.seq (.region 22 #[o 112 (.fieldAddr 27 (.tmp 10) 1) 0, o 113 (.load 4 (.tmp 112)) 4, o 114 (.unOp .not 4 (.tmp 113)) 4] false)
 (.cond (.tmp 114)
 (.seq (.region 23 #[m 115 0 136, o 116 (.nilCheck (.tmp 115)) 0, o 117 (.fieldAddr 113 (.tmp 116) 0) 0, o 118 (.load 22 (.tmp 117)) 22, m 119 1 3, m 120 2 3, o 121 (.slice 22 (.tmp 118) (some (.tmp 119)) (some (.tmp 120)) none) 22, o 122 (.call { callee := .value (.func 98), args := #[.tmp 121], argTypes := #[22] }) 22, o 123 (.call { callee := .value (.func 97), args := #[.tmp 122], argTypes := #[22] }) 22, o 124 (.fieldAddr 30 (.tmp 14) 1) 0, ⟨none, .store 22 (.tmp 124) (.tmp 123), 0, "", #[], none⟩] false)
 (.seq (.region 24 #[o 125 (.load 30 (.tmp 14)) 30, m 126 2 3, ⟨none, .store 30 (.tmp 8) (.tmp 125), 0, "", #[], none⟩, o 9 (.assign (.tmp 126)) 3] false)
 .ret))
 .skip))
 (.seq (.block 2 (.loop (.seq (.seq (.region 25 #[m 127 1 3, m 128 2 3, o 129 (.binOp .lss 3 (.tmp 127) (.tmp 128) 3) 4] false)
 (.cond (.tmp 129)
 .skip
 (.exit 2)))
 (.block 3 (.seq (.region 26 #[o 15 (.alloc 30) 0] false)
 (.seq (.region 27 #[m 131 0 136, m 132 1 3, m 133 2 3, m 134 3 3, o 135 (.binOp .add 3 (.tmp 134) (.const (.int .i64 1)) 3) 3, o 136 (.call { callee := .value (.func 73), args := #[.tmp 131, .tmp 132, .tmp 133, .tmp 135], argTypes := #[136, 3, 3, 3] }) 114, m 130 136 114, o 137 (.extract (.tmp 130) 0) 30, o 138 (.extract (.tmp 130) 1) 3, ⟨none, .store 30 (.tmp 15) (.tmp 137), 0, "", #[], none⟩, o 1 (.assign (.tmp 138)) 3] false)
 (.region 28 #[o 139 (.fieldAddr 30 (.tmp 14) 2) 0, o 140 (.load 28 (.tmp 139)) 28, o 141 (.load 30 (.tmp 15)) 30, o 142 (.buildSlice 28 1 #[(0, .tmp 141)]) 28, o 143 (.call { callee := .builtin .append, args := #[.tmp 140, .tmp 142], argTypes := #[28, 28] }) 28, o 144 (.fieldAddr 30 (.tmp 14) 2) 0, ⟨none, .store 28 (.tmp 144) (.tmp 143), 0, "", #[], none⟩] false)))))))
 (.seq (.region 29 #[o 145 (.fieldAddr 30 (.tmp 14) 2) 0, o 146 (.load 28 (.tmp 145)) 28, o 147 (.call { callee := .value (.func 99), args := #[.tmp 146], argTypes := #[28] }) 28, o 148 (.fieldAddr 30 (.tmp 14) 2) 0, ⟨none, .store 28 (.tmp 148) (.tmp 147), 0, "", #[], none⟩] false)
 (.seq (.region 30 #[o 149 (.load 30 (.tmp 14)) 30, m 150 2 3, ⟨none, .store 30 (.tmp 8) (.tmp 149), 0, "", #[], none⟩, o 9 (.assign (.tmp 150)) 3] false)
 .ret))))))))))))))
def fn73 : AFn := { ntmps := 151, results := [.cell 8 30, .tmp 9], body := c73, keep := fun | 0 => some [0, 1, 2, 3, 8] | 1 => some [0, 1, 2, 3, 8, 10, 11, 12] | 2 => some [0, 1, 2, 3, 8, 10, 11, 12, 28] | 3 => some [0, 1, 2, 3, 8, 10, 11] | 4 => some [0, 1, 2, 3, 8, 10, 11, 12, 35] | 5 => some [0, 1, 2, 3, 8, 10, 11] | 6 => some [0, 1, 2, 3, 8, 10, 11, 42] | 7 => some [0, 1, 2, 3, 8, 10, 11] | 8 => some [0, 1, 2, 3, 8, 10, 11, 48] | 9 => some [0, 1, 2, 3, 8, 10, 11] | 10 => some [0, 1, 2, 3, 8, 10, 11] | 11 => some [0, 1, 2, 3, 8, 10] | 12 => some [0, 1, 2, 3, 8, 10, 11, 12, 13] | 13 => some [0, 1, 2, 3, 8, 10, 11, 12, 13, 79] | 14 => some [0, 1, 3, 8, 10, 11, 13] | 15 => some [0, 1, 2, 3, 8, 10, 11, 12, 13, 86] | 16 => some [0, 1, 3, 8, 10, 11, 13] | 17 => some [0, 1, 2, 3, 8, 10, 11, 13, 93] | 18 => some [0, 1, 3, 8, 10, 11, 13] | 19 => some [0, 1, 3, 8, 10, 13] | 20 => some [0, 1, 2, 3, 8, 10] | 21 => some [0, 1, 2, 3, 8, 10, 14] | 22 => some [0, 1, 2, 3, 8, 14, 114] | 23 => some [2, 8, 14] | 24 => some [8, 9] | 25 => some [0, 1, 2, 3, 8, 14, 129] | 26 => some [0, 1, 2, 3, 8, 14, 15] | 27 => some [0, 1, 2, 3, 8, 14, 15] | 28 => some [0, 1, 2, 3, 8, 14] | 29 => some [2, 8, 14] | 30 => some [8, 9] | _ => none, head := fun | 25 => some [0, 1, 2, 3, 8, 14] | _ => none, opn := opnT, dyn := fun _ => [] }
def c74 : Code :=
  (.seq (.region 0 #[o 1 (.box 30 (.tmp 0)) 0, o 2 (.alloc 30) 0] false)
 (.seq (.region 1 #[o 6 (.fieldAddr 30 (.tmp 1) 0) 0, o 7 (.load 27 (.tmp 6)) 27, o 8 (.fieldAddr 30 (.tmp 1) 1) 0, o 9 (.load 22 (.tmp 8)) 22, o 10 (.call { callee := .value (.func 98), args := #[.tmp 9], argTypes := #[22] }) 22, o 11 (.call { callee := .value (.func 97), args := #[.tmp 10], argTypes := #[22] }) 22, o 12 (.build 30 #[(0, .tmp 7), (1, .tmp 11)]) 30, o 3 (.alloc 30) 0, ⟨none, .store 30 (.tmp 3) (.tmp 12), 0, "", #[], none⟩] true)
 (.seq (.seq (.region 2 #[o 13 (.fieldAddr 30 (.tmp 1) 2) 0, o 14 (.load 28 (.tmp 13)) 28, o 15 (.call { callee := .builtin .len, args := #[.tmp 14], argTypes := #[28] }) 3, o 16 (.binOp .gtr 3 (.tmp 15) (.const (.int .i64 0)) 3) 4] false)
 (.cond (.tmp 16)
 (.region 3 #[o 17 (.fieldAddr 30 (.tmp 1) 2) 0, o 18 (.load 28 (.tmp 17)) 28, o 19 (.call { callee := .builtin .len, args := #[.tmp 18], argTypes := #[28] }) 3, o 20 (.makeSlice 28 (.tmp 19) (.tmp 19)) 28, o 21 (.fieldAddr 30 (.tmp 3) 2) 0, ⟨none, .store 28 (.tmp 21) (.tmp 20), 0, "", #[], none⟩] false)
 .skip))
 (.seq (.seq (.region 4 #[o 22 (.fieldAddr 30 (.tmp 1) 2) 0, o 23 (.load 28 (.tmp 22)) 28, o 24 (.call { callee := .builtin .len, args := #[.tmp 23], argTypes := #[28] }) 3, o 25 (.move (.const (.int .i64 0))) 3] false)
 (.block 0 (.loop (.seq (.region 5 #[o 26 (.binOp .lss 3 (.tmp 25) (.tmp 24) 3) 0] false)
 (.seq (.cond (.tmp 26)
 .skip
 (.exit 0))
 (.seq (.block 1 (.seq (.region 6 #[m 27 25 3, o 28 (.indexAddr 28 (.tmp 23) (.tmp 25)) 0, o 29 (.load 30 (.tmp 28)) 30, o 5 (.alloc 30) 0, o 4 (.assign (.tmp 27)) 3, ⟨none, .store 30 (.tmp 5) (.tmp 29), 0, "", #[], none⟩] false)
 (.region 7 #[o 30 (.fieldAddr 30 (.tmp 3) 2) 0, o 31 (.load 28 (.tmp 30)) 28, m 32 4 3, o 33 (.load 30 (.tmp 5)) 30, o 34 (.call { callee := .value (.func 74), args := #[.tmp 33], argTypes := #[30] }) 30, o 35 (.indexAddr 28 (.tmp 31) (.tmp 32)) 0, ⟨none, .store 30 (.tmp 35) (.tmp 34), 0, "", #[], none⟩] true)))
 (.region 8 #[o 36 (.binOp .add 3 (.tmp 25) (.const (.int .i64 1)) 3) 3, m 25 36 3] false)))))))
 (.seq (.region 9 #[o 37 (.load 30 (.tmp 3)) 30, ⟨none, .store 30 (.tmp 2) (.tmp 37), 0, "", #[], none⟩] false)
 .ret)))))
def fn74 : AFn := { ntmps := 38, results := [.cell 2 30], body := c74, keep := fun | 0 => some [1, 2] | 1 => some [1, 2, 3] | 2 => some [1, 2, 3, 16] | 3 => some [1, 2, 3] | 4 => some [2, 3, 23, 24, 25] | 5 => some [2, 3, 23, 24, 25, 26] | 6 => some [2, 3, 4, 5, 23, 24, 25] | 7 => some [2, 3, 23, 24, 25] | 8 => some [2, 3, 23, 24, 25] | 9 => some [2] | _ => none, head := fun | 5 => some [2, 3, 23, 24, 25] | _ => none, opn := fun _ => none, dyn := fun _ => [] }
def c75 : Code :=
  (.seq (.region 0 #[o 1 (.box 30 (.tmp 0)) 0, o 2 (.assign (.const (.int .i64 0))) 34, o 3 (.alloc 3) 0, o 4 (.alloc 3) 0] false)
 (.seq (.region 1 #[o 5 (.load 30 (.tmp 1)) 30, o 6 (.makeFunc (.func 101) #[] #[.tmp 3, .tmp 4]) 145, o 7 (.call { callee := .value (.func 100), args := #[.tmp 5, .tmp 6], argTypes := #[30, 145] }) 34, o 2 (.assign (.tmp 7)) 34] false)
 (.seq (.seq (.region 2 #[m 8 2 34, o 9 (.binOp .neq 34 (.tmp 8) (.const (.int .i64 0)) 34) 4] false)
 (.cond (.tmp 9)
 (.seq (.region 3 #[m 10 2 34, o 2 (.assign (.tmp 10)) 34, ⟨none, .store 3 (.tmp 3) (.const (.int .i64 0)), 0, "", #[], none⟩, ⟨none, .store 3 (.tmp 4) (.const (.int .i64 0)), 0, "", #[], none⟩] false)
 .ret)
 .skip))
 (.seq (.region 4 #[o 11 (.load 3 (.tmp 3)) 3, o 12 (.load 3 (.tmp 4)) 3, o 2 (.assign (.const (.int .i64 0))) 34, ⟨none, .store 3 (.tmp 3) (.tmp 11), 0, "", #[], none⟩, ⟨none, .store 3 (.tmp 4) (.tmp 12), 0, "", #[], none⟩] true)
 .ret))))
def fn75 : AFn := { ntmps := 13, results := [.tmp 2, .cell 3 3, .cell 4 3], body := c75, keep := fun | 0 => some [1, 3, 4] | 1 => some [2, 3, 4] | 2 => some [2, 3, 4, 9] | 3 => some [2, 3, 4] | 4 => some [2, 3, 4] | _ => none, head := fun  | _ => none, opn := opnT, dyn := fun | 4 => [(1, 3)] | _ => [] }
def c76 : Code :=
  (.seq (.region 0 #[o 1 (.box 27 (.tmp 0)) 0, o 2 (.assign (.const (.slice none 0 0))) 22] false)
 (.seq (.region 1 #[o 4 (.fieldAddr 27 (.tmp 1) 0) 0, o 5 (.load 24 (.tmp 4)) 24, o 6 (.convert 24 3 (.tmp 5)) 3, o 7 (.binOp .mul 3 (.const (.int .i64 64)) (.tmp 6) 3) 3, o 3 (.assign (.tmp 7)) 3] false)
 (.seq (.seq (.region 2 #[o 8 (.fieldAddr 27 (.tmp 1) 1) 0, o 9 (.load 4 (.tmp 8)) 4] false)
 (.cond (.tmp 9)
 (.region 3 #[m 10 3 3, o 11 (.binOp .add 3 (.tmp 10) (.const (.int .i64 32)) 3) 3, o 3 (.assign (.tmp 11)) 3] false)
 .skip))
 (.seq (.seq (.region 4 #[o 12 (.fieldAddr 27 (.tmp 1) 2) 0, o 13 (.load 25 (.tmp 12)) 25, o 14 (.binOp .lss 25 (.tmp 13) (.const (.int .u32 31)) 25) 4] false)
 (.cond (.tmp 14)
 (.seq (.region 5 #[m 15 3 3, o 16 (.fieldAddr 27 (.tmp 1) 2) 0, o 17 (.load 25 (.tmp 16)) 25, o 18 (.convert 25 3 (.tmp 17)) 3, o 19 (.binOp .add 3 (.tmp 15) (.tmp 18) 3) 3, o 20 (.convert 3 5 (.tmp 19)) 5, o 21 (.buildSlice 22 1 #[(0, .tmp 20)]) 22, o 2 (.assign (.tmp 21)) 22] false)
 .ret)
 .skip))
 (.seq (.region 6 #[m 22 3 3, o 23 (.binOp .add 3 (.tmp 22) (.const (.int .i64 31)) 3) 3, o 24 (.convert 3 5 (.tmp 23)) 5, o 25 (.buildSlice 22 1 #[(0, .tmp 24)]) 22, o 26 (.fieldAddr 27 (.tmp 1) 2) 0, o 27 (.load 25 (.tmp 26)) 25, o 28 (.convert 25 3 (.tmp 27)) 3, o 29 (.call { callee := .value (.func 103), args := #[.tmp 28], argTypes := #[3] }) 22, o 30 (.call { callee := .builtin .append, args := #[.tmp 25, .tmp 29], argTypes := #[22, 22] }) 22, o 2 (.assign (.tmp 30)) 22] false)
 .ret)))))
def fn76 : AFn := { ntmps := 31, results := [.tmp 2], body := c76, keep := fun | 0 => some [1] | 1 => some [1, 3] | 2 => some [1, 3, 9] | 3 => some [1, 3] | 4 => some [1, 3, 14] | 5 => some [2] | 6 => some [2] | _ => none, head := fun  | _ => none, opn := fun _ => none, dyn := fun _ => [] }
def c77 : Code :=
  (.seq (.region 0 #[o 2 (.assign (.const (.slice none 0 0))) 22] false)
 (.seq (.seq (.region 1 #[m 4 0 3, o 5 (.binOp .lss 3 (.tmp 4) (.const (.int .i64 128)) 3) 4] false)
 (.cond (.tmp 5)
 (.seq (.region 2 #[m 6 0 3, o 7 (.convert 3 5 (.tmp 6)) 5, o 8 (.buildSlice 22 1 #[(0, .tmp 7)]) 22, o 2 (.assign (.tmp 8)) 22] false)
 .ret)
 .skip))
 (.seq (.region 3 #[o 3 (.assign (.const (.slice none 0 0))) 22] false)
 (.seq (.block 0 (.loop (.seq (.seq (.region 4 #[m 9 0 3, o 10 (.binOp .gtr 3 (.tmp 9) (.const (.int .i64 0)) 3) 4] false)
 (.cond (.tmp 10)
 .skip
 (.exit 0)))
 (.block 1 (.seq (.region 5 #[m 11 0 3, o 12 (.binOp .rem 3 (.tmp 11) (.const (.int .i64 256)) 3) 3, o 13 (.convert 3 5 (.tmp 12)) 5, o 14 (.buildSlice 22 1 #[(0, .tmp 13)]) 22, m 15 3 22, o 16 (.call { callee := .builtin .append, args := #[.tmp 14, .tmp 15], argTypes := #[22, 22] }) 22, o 3 (.assign (.tmp 16)) 22] false)
 (.region 6 #[m 17 0 3, o 18 (.binOp .quo 3 (.tmp 17) (.const (.int .i64 256)) 3) 3, o 0 (.assign (.tmp 18)) 3] false))))))
 (.seq (.region 7 #[m 19 3 22, o 20 (.call { callee := .builtin .len, args := #[.tmp 19], argTypes := #[22] }) 3, o 21 (.binOp .add 3 (.const (.int .i64 128)) (.tmp 20) 3) 3, o 22 (.convert 3 5 (.tmp 21)) 5, o 23 (.buildSlice 22 1 #[(0, .tmp 22)]) 22, m 24 3 22, o 25 (.call { callee := .builtin .append, args := #[.tmp 23, .tmp 24], argTypes := #[22, 22] }) 22, o 2 (.assign (.tmp 25)) 22] false)
 .ret)))))
def fn77 : AFn := { ntmps := 26, results := [.tmp 2], body := c77, keep := fun | 0 => some [0] | 1 => some [0, 5] | 2 => some [2] | 3 => some [0, 3] | 4 => some [0, 3, 10] | 5 => some [0, 3] | 6 => some [0, 3] | 7 => some [2] | _ => none, head := fun | 4 => some [0, 3] | _ => none, opn := fun _ => none, dyn := fun _ => [] }
def c78 : Code :=
  (.seq (.region 0 #[o 2 (.box 30 (.tmp 0)) 0, o 3 (.box 30 (.tmp 1)) 0, o 4 (.assign (.const (.bool false))) 4] false)
 (.seq (.region 1 #[o 5 (.fieldAddr 30 (.tmp 2) 0) 0, o 6 (.load 27 (.tmp 5)) 27, o 7 (.fieldAddr 30 (.tmp 3) 0) 0, o 8 (.load 27 (.tmp 7)) 27, o 9 (.binOp .eql 27 (.tmp 6) (.tmp 8) 27) 4, m 10 9 4, ⟨some 11, .fieldAddr 30 (.tmp 2) 1, 0, "", #[], some (10, true)⟩, ⟨some 12, .load 22 (.tmp 11), 22, "", #[], some (10, true)⟩, ⟨some 13, .fieldAddr 30 (.tmp 3) 1, 0, "", #[], some (10, true)⟩, ⟨some 14, .load 22 (.tmp 13), 22, "", #[], some (10, true)⟩, ⟨some 15, .call { callee := .value (.func 104), args := #[.tmp 12, .tmp 14], argTypes := #[22, 22] }, 4, "", #[], some (10, true)⟩, o 16 (.pick (.tmp 10) (.tmp 15) (.const (.bool false))) 4, m 17 16 4, ⟨some 18, .fieldAddr 30 (.tmp 2) 2, 0, "", #[], some (17, true)⟩, ⟨some 19, .load 28 (.tmp 18), 28, "", #[], some (17, true)⟩, ⟨some 20, .fieldAddr 30 (.tmp 3) 2, 0, "", #[], some (17, true)⟩, ⟨some 21, .load 28 (.tmp 20), 28, "", #[], some (17, true)⟩, ⟨some 22, .call { callee := .value (.func 105), args := #[.tmp 19, .tmp 21, .func 78], argTypes := #[28, 28, 45] }, 4, "", #[], some (17, true)⟩, o 23 (.pick (.tmp 17) (.tmp 22) (.const (.bool false))) 4, o 4 (.assign (.tmp 23)) 4] false)
 .ret))
def fn78 : AFn := { ntmps := 24, results := [.tmp 4], body := c78, keep := fun | 0 => some [2, 3] | 1 => some [4] | _ => none, head := fun  | _ => none, opn := opnT, dyn := fun _ => [] }
def c79 : Code :=
  (.seq (.region 0 #[o 4 (.assign (.const (.int .i64 0))) 3] false)
 (.seq (.region 1 #[m 5 0 22, m 6 1 22, o 7 (.call { callee := .value (.func 106), args := #[.tmp 5, .tmp 6], argTypes := #[22, 22] }) 3, o 4 (.assign (.tmp 7)) 3] false)
 .ret))
def fn79 : AFn := { ntmps := 8, results := [.tmp 4], body := c79, keep := fun | 0 => some [0, 1] | 1 => some [4] | _ => none, head := fun  | _ => none, opn := fun _ => none, dyn := fun _ => [] }
def c80 : Code :=
  (.seq (.region 0 #[o 1 (.box 27 (.tmp 0)) 0, o 2 (.assign (.const (.int .i64 0))) 3] false)
 (.seq (.seq (.region 1 #[o 3 (.fieldAddr 27 (.tmp 1) 0) 0, o 4 (.load 24 (.tmp 3)) 24, o 5 (.binOp .gtr 24 (.tmp 4) (.const (.int .u8 3)) 24) 4, m 6 5 4, ⟨some 7, .fieldAddr 27 (.tmp 1) 2, 0, "", #[], some (6, false)⟩, ⟨some 8, .load 25 (.tmp 7), 25, "", #[], some (6, false)⟩, ⟨some 9, .binOp .gtr 25 (.tmp 8) (.const (.int .u32 268435455)) 25, 4, "", #[], some (6, false)⟩, o 10 (.pick (.tmp 6) (.const (.bool true)) (.tmp 9)) 4] false)
 (.cond (.tmp 10)
 (.seq (.region 2 #[o 2 (.assign (.const (.int .i64 1))) 3] false)
 .ret)
 .skip))
 (.seq (.seq (.region 3 #[o 11 (.fieldAddr 27 (.tmp 1) 0) 0, o 12 (.load 24 (.tmp 11)) 24, o 13 (.binOp .eql 24 (.tmp 12) (.const (.int .u8 0)) 24) 4, m 14 13 4, ⟨some 15, .fieldAddr 27 (.tmp 1) 2, 0, "", #[], some (14, true)⟩, ⟨some 16, .load 25 (.tmp 15), 25, "", #[], some (14, true)⟩, ⟨some 17, .binOp .eql 25 (.tmp 16) (.const (.int .u32 0)) 25, 4, "", #[], some (14, true)⟩, ⟨some 18, .move (.tmp 17), 4, "", #[], some (14, true)⟩, ⟨some 19, .fieldAddr 27 (.tmp 1) 1, 0, "", #[], some (18, false)⟩, ⟨some 20, .load 4 (.tmp 19), 4, "", #[], some (18, false)⟩, ⟨some 21, .unOp .not 4 (.tmp 20), 4, "", #[], some (18, false)⟩, ⟨some 22, .move (.tmp 21), 4, "", #[], some (18, false)⟩, ⟨some 23, .fieldAddr 27 (.tmp 1) 2, 0, "", #[], some (22, true)⟩, ⟨some 24, .load 25 (.tmp 23), 25, "", #[], some (22, true)⟩, ⟨some 25, .binOp .eql 25 (.tmp 24) (.const (.int .u32 16)) 25, 4, "", #[], some (22, true)⟩, ⟨some 26, .move (.tmp 25), 4, "", #[], some (22, true)⟩, ⟨some 27, .fieldAddr 27 (.tmp 1) 2, 0, "", #[], some (26, false)⟩, ⟨some 28, .load 25 (.tmp 27), 25, "", #[], some (26, false)⟩, ⟨some 29, .binOp .eql 25 (.tmp 28) (.const (.int .u32 17)) 25, 4, "", #[], some (26, false)⟩, ⟨some 30, .pick (.tmp 26) (.const (.bool true)) (.tmp 29), 4, "", #[], some (22, true)⟩, ⟨some 31, .pick (.tmp 22) (.tmp 30) (.const (.bool false)), 4, "", #[], some (18, false)⟩, ⟨some 32, .pick (.tmp 18) (.const (.bool true)) (.tmp 31), 4, "", #[], some (14, true)⟩, o 33 (.pick (.tmp 14) (.tmp 32) (.const (.bool false))) 4] false)
 (.cond (.tmp 33)
 (.seq (.region 4 #[o 2 (.assign (.const (.int .i64 9))) 3] false)
 .ret)
 .skip))
 (.seq (.region 5 #[o 2 (.assign (.const (.int .i64 0))) 3] false)
 .ret))))
def fn80 : AFn := { ntmps := 34, results := [.tmp 2], body := c80, keep := fun | 0 => some [1] | 1 => some [1, 10] | 2 => some [2] | 3 => some [33] | 4 => some [2] | 5 => some [2] | _ => none, head := fun  | _ => none, opn := fun _ => none, dyn := fun _ => [] }
def c81 : Code :=
  (.seq (.region 0 #[o 6 (.assign (.const (.slice none 0 0))) 28, o 7 (.assign (.const (.int .i64 0))) 3] false)
 (.seq (.region 1 #[o 8 (.assign (.const (.slice none 0 0))) 28] false)
 (.seq (.block 0 (.loop (.seq (.seq (.region 2 #[m 11 1 3, m 12 0 22, o 13 (.call { callee := .builtin .len, args := #[.tmp 12], argTypes := #[22] }) 3, o 14 (.binOp .lss 3 (.tmp 11) (.tmp 13) 3) 4, m 15 14 4, ⟨some 16, .move (.tmp 1), 3, "", #[], some (15, true)⟩, ⟨some 17, .binOp .lss 3 (.tmp 16) (.const (.int .i64 40)) 3, 4, "", #[], some (15, true)⟩, o 18 (.pick (.tmp 15) (.tmp 17) (.const (.bool false))) 4] false)
 (.cond (.tmp 18)
 .skip
 (.exit 0)))
 (.block 1 (.seq (.region 3 #[m 19 0 22, m 20 1 3, o 21 (.indexAddr 22 (.tmp 19) (.tmp 20)) 0, o 22 (.load 5 (.tmp 21)) 5, o 9 (.assign (.tmp 22)) 5] false)
 (.seq (.region 4 #[m 23 1 3, o 24 (.binOp .add 3 (.tmp 23) (.const (.int .i64 1)) 3) 3, o 1 (.assign (.tmp 24)) 3] false)
 (.seq (.seq (.region 5 #[m 25 9 5, o 26 (.binOp .rem 5 (.tmp 25) (.const (.int .u8 16)) 5) 5, o 27 (.binOp .eql 5 (.tmp 26) (.const (.int .u8 15)) 5) 4] false)
 (.cond (.tmp 27)
 (.seq (.region 6 #[m 28 8 28, m 29 1 3, o 6 (.assign (.tmp 28)) 28, o 7 (.assign (.tmp 29)) 3] false)
 .ret)
 .skip))
 (.seq (.region 7 #[m 30 9 5, o 31 (.call { callee := .value (.func 44), args := #[.tmp 30], argTypes := #[5] }) 27, o 32 (.build 30 #[(0, .tmp 31)]) 30, o 10 (.alloc 30) 0, ⟨none, .store 30 (.tmp 10) (.tmp 32), 0, "", #[], none⟩] false)
 (.seq (.seq (.region 8 #[o 33 (.fieldAddr 30 (.tmp 10) 0) 0, o 34 (.fieldAddr 27 (.tmp 33) 1) 0, o 35 (.load 4 (.tmp 34)) 4] false)
 (.cond (.tmp 35)
 (.seq (.seq (.region 9 #[m 36 2 3, o 37 (.binOp .eql 3 (.tmp 36) (.const (.int .i64 5)) 3) 4] false)
 (.cond (.tmp 37)
 (.exit 1)
 .skip))
 (.region 10 #[m 39 0 22, m 40 1 3, m 41 2 3, o 42 (.binOp .add 3 (.tmp 41) (.const (.int .i64 1)) 3) 3, o 43 (.call { callee := .value (.func 81), args := #[.tmp 39, .tmp 40, .tmp 42], argTypes := #[22, 3, 3] }) 122, m 38 43 122, o 44 (.extract (.tmp 38) 0) 28, o 45 (.extract (.tmp 38) 1) 3, o 46 (.fieldAddr 30 (.tmp 10) 2) 0, ⟨none, .store 28 (.tmp 46) (.tmp 44), 0, "", #[], none⟩, o 1 (.assign (.tmp 45)) 3] false))
 (.seq (.region 11 #[o 47 (.fieldAddr 30 (.tmp 10) 0) 0, o 48 (.fieldAddr 27 (.tmp 47) 0) 0, o 49 (.load 24 (.tmp 48)) 24, o 50 (.binOp .eql 24 (.tmp 49) (.const (.int .u8 0)) 24) 4, m 51 50 4, ⟨some 52, .fieldAddr 30 (.tmp 10) 0, 0, "", #[], some (51, true)⟩, ⟨some 53, .fieldAddr 27 (.tmp 52) 2, 0, "", #[], some (51, true)⟩, ⟨some 54, .load 25 (.tmp 53), 25, "", #[], some (51, true)⟩, ⟨some 55, .binOp .eql 25 (.tmp 54) (.const (.int .u32 1)) 25, 4, "", #[], some (51, true)⟩, o 56 (.pick (.tmp 51) (.tmp 55) (.const (.bool false))) 4] false)
 (.cond (.tmp 56)
 (.region 12 #[⟨some 57, .buildSlice 22 1 #[(0, .const (.int .u8 255))], 22, "", fz, none⟩, o 58 (.fieldAddr 30 (.tmp 10) 1) 0, ⟨none, .store 22 (.tmp 58) (.tmp 57), 0, "", #[], none⟩] false)
 (.seq (.region 13 #[o 59 (.fieldAddr 30 (.tmp 10) 0) 0, o 60 (.fieldAddr 27 (.tmp 59) 0) 0, o 61 (.load 24 (.tmp 60)) 24, o 62 (.binOp .eql 24 (.tmp 61) (.const (.int .u8 0)) 24) 4, m 63 62 4, ⟨some 64, .fieldAddr 30 (.tmp 10) 0, 0, "", #[], some (63, true)⟩, ⟨some 65, .fieldAddr 27 (.tmp 64) 2, 0, "", #[], some (63, true)⟩, ⟨some 66, .load 25 (.tmp 65), 25, "", #[], some (63, true)⟩, ⟨some 67, .binOp .eql 25 (.tmp 66) (.const (.int .u32 2)) 25, 4, "", #[], some (63, true)⟩, o 68 (.pick (.tmp 63) (.tmp 67) (.const (.bool false))) 4] false)
 (.cond (.tmp 68)
 (.region 14 #[m 69 9 5, o 70 (.binOp .quo 5 (.tmp 69) (.const (.int .u8 8)) 5) 5, ⟨some 71, .buildSlice 22 1 #[(0, .tmp 70)], 22, "", fz, none⟩, o 72 (.fieldAddr 30 (.tmp 10) 1) 0, ⟨none, .store 22 (.tmp 72) (.tmp 71), 0, "", #[], none⟩] false)
 (.region 15 #[m 73 9 5, o 74 (.convert 5 3 (.tmp 73)) 3, m 75 9 5, o 76 (.binOp .quo 5 (.tmp 75) (.const (.int .u8 64)) 5) 5, o 77 (.convert 5 3 (.tmp 76)) 3, o 78 (.binOp .mul 3 (.tmp 74) (.tmp 77) 3) 3, ⟨some 79, .makeSlice 22 (.tmp 78) (.tmp 78), 22, "", fz, none⟩, o 80 (.fieldAddr 30 (.tmp 10) 1) 0, ⟨none, .store 22 (.tmp 80) (.tmp 79), 0, "", #[], none⟩] false)))))))
 (.region 16 #[m 81 8 28, o 82 (.load 30 (.tmp 10)) 30, o 83 (.buildSlice 28 1 #[(0, .tmp 82)]) 28, o 84 (.call { callee := .builtin .append, args := #[.tmp 81, .tmp 83], argTypes := #[28, 28] }) 28, o 8 (.assign (.tmp 84)) 28] false))))))))))
 (.seq (.region 17 #[m 85 8 28, m 86 1 3, o 6 (.assign (.tmp 85)) 28, o 7 (.assign (.tmp 86)) 3] false)
 .ret))))
def fn81 : AFn := { ntmps := 87, results := [.tmp 6, .tmp 7], body := c81, keep := fun | 0 => some [0, 1, 2] | 1 => some [0, 1, 2, 8] | 2 => some [0, 1, 2, 8, 18] | 3 => some [0, 1, 2, 8, 9] | 4 => some [0, 1, 2, 8, 9] | 5 => some [0, 1, 2, 8, 9, 27] | 6 => some [6, 7] | 7 => some [0, 1, 2, 8, 9, 10] | 8 => some [0, 1, 2, 8, 9, 10, 35] | 9 => some [0, 1, 2, 8, 10, 37] | 10 => some [0, 1, 2, 8, 10] | 11 => some [0, 1, 2, 8, 9, 10, 56] | 12 => some [0, 1, 2, 8, 10] | 13 => some [0, 1, 2, 8, 9, 10, 68] | 14 => some [0, 1, 2, 8, 10] | 15 => some [0, 1, 2, 8, 10] | 16 => some [0, 1, 2, 8] | 17 => some [6, 7] | _ => none, head := fun | 2 => some [0, 1, 2, 8] | _ => none, opn := fun _ => none, dyn := fun | 1000000 => [(57, 0), (71, 0), (79, 0)] | _ => [] }
def c82 : Code :=
  (.seq (.region 0 #[o 4 (.alloc 71) 0] false)
 (.seq (.region 1 #[m 5 1 47, o 6 (.call { callee := .value (.func 107), args := #[.tmp 5], argTypes := #[47] }) 47, m 7 0 34, o 8 (.build 71 #[(0, .tmp 6), (1, .tmp 7)]) 71, ⟨none, .store 71 (.tmp 4) (.tmp 8), 0, "", #[], none⟩] false)
 .ret))
def fn82 : AFn := { ntmps := 9, results := [.cell 4 71], body := c82, keep := fun | 0 => some [0, 1, 4] | 1 => some [4] | _ => none, head := fun  | _ => none, opn := fun _ => none, dyn := fun _ => [] }
def c83 : Code :=
  (.seq (.region 0 #[o 2 (.box 78 (.tmp 0)) 0, o 3 (.box 30 (.tmp 1)) 0, o 4 (.assign (.const (.bool false))) 4] false)
 (.seq (.region 1 #[o 5 (.fieldAddr 78 (.tmp 2) 1) 0, o 6 (.load 4 (.tmp 5)) 4, m 7 6 4, ⟨some 8, .fieldAddr 78 (.tmp 2) 0, 0, "", #[], some (7, false)⟩, ⟨some 9, .load 27 (.tmp 8), 27, "", #[], some (7, false)⟩, ⟨some 10, .fieldAddr 30 (.tmp 3) 0, 0, "", #[], some (7, false)⟩, ⟨some 11, .load 27 (.tmp 10), 27, "", #[], some (7, false)⟩, ⟨some 12, .binOp .eql 27 (.tmp 9) (.tmp 11) 27, 4, "", #[], some (7, false)⟩, o 13 (.pick (.tmp 7) (.const (.bool true)) (.tmp 12)) 4, o 4 (.assign (.tmp 13)) 4] false)
 .ret))
def fn83 : AFn := { ntmps := 14, results := [.tmp 4], body := c83, keep := fun | 0 => some [2, 3] | 1 => some [4] | _ => none, head := fun  | _ => none, opn := fun _ => none, dyn := fun _ => [] }
def c84 : Code :=
  (.seq (.region 0 #[o 1 (.box 30 (.tmp 0)) 0, o 2 (.assign (.const (.slice none 0 0))) 22] false)
 (.seq (.region 1 #[o 10 (.fieldAddr 30 (.tmp 1) 1) 0, o 11 (.load 22 (.tmp 10)) 22, o 12 (.call { callee := .builtin .append, args := #[.const (.slice none 0 0), .tmp 11], argTypes := #[22, 22] }) 22, o 3 (.assign (.tmp 12)) 22] false)
 (.seq (.seq (.region 2 #[o 4 (.assign (.const (.int .i64 0))) 3] false)
 (.block 0 (.loop (.seq (.seq (.region 3 #[m 13 4 3, o 14 (.fieldAddr 30 (.tmp 1) 2) 0, o 15 (.load 28 (.tmp 14)) 28, o 16 (.call { callee := .builtin .len, args := #[.tmp 15], argTypes := #[28] }) 3, o 17 (.binOp .lss 3 (.tmp 13) (.tmp 16) 3) 4] false)
 (.cond (.tmp 17)
 .skip
 (.exit 0)))
 (.seq (.block 1 (.region 5 #[m 20 3 22, o 21 (.fieldAddr 30 (.tmp 1) 2) 0, o 22 (.load 28 (.tmp 21)) 28, m 23 4 3, o 24 (.indexAddr 28 (.tmp 22) (.tmp 23)) 0, o 25 (.load 30 (.tmp 24)) 30, o 26 (.call { callee := .value (.func 84), args := #[.tmp 25], argTypes := #[30] }) 22, o 27 (.call { callee := .builtin .append, args := #[.tmp 20, .tmp 26], argTypes := #[22, 22] }) 22, o 3 (.assign (.tmp 27)) 22] false))
 (.region 4 #[m 18 4 3, o 19 (.binOp .add 3 (.tmp 18) (.const (.int .i64 1)) 3) 3, o 4 (.assign (.tmp 19)) 3] false))))))
 (.seq (.region 6 #[o 28 (.fieldAddr 30 (.tmp 1) 0) 0, o 29 (.fieldAddr 27 (.tmp 28) 0) 0, o 30 (.load 24 (.tmp 29)) 24, o 31 (.binOp .mul 5 (.tmp 30) (.const (.int .u8 64)) 5) 5, o 5 (.assign (.tmp 31)) 5] false)
 (.seq (.seq (.region 7 #[o 32 (.fieldAddr 30 (.tmp 1) 0) 0, o 33 (.fieldAddr 27 (.tmp 32) 1) 0, o 34 (.load 4 (.tmp 33)) 4] false)
 (.cond (.tmp 34)
 (.region 8 #[m 35 5 5, o 36 (.binOp .add 5 (.tmp 35) (.const (.int .u8 32)) 5) 5, o 5 (.assign (.tmp 36)) 5] false)
 .skip))
 (.seq (.region 9 #[m 37 5 5, o 38 (.fieldAddr 30 (.tmp 1) 0) 0, o 39 (.fieldAddr 27 (.tmp 38) 2) 0, o 40 (.load 25 (.tmp 39)) 25, o 41 (.call { callee := .builtin .min, args := #[.tmp 40, .const (.int .u32 31)], argTypes := #[25, 25] }) 25, o 42 (.convert 25 5 (.tmp 41)) 5, o 43 (.binOp .add 5 (.tmp 37) (.tmp 42) 5) 5, o 44 (.buildSlice 22 1 #[(0, .tmp 43)]) 22, o 6 (.assign (.tmp 44)) 22] false)
 (.seq (.seq (.region 10 #[o 45 (.fieldAddr 30 (.tmp 1) 0) 0, o 46 (.fieldAddr 27 (.tmp 45) 2) 0, o 47 (.load 25 (.tmp 46)) 25, o 48 (.binOp .gtr 25 (.tmp 47) (.const (.int .u32 30)) 25) 4] false)
 (.cond (.tmp 48)
 (.region 11 #[m 49 6 22, o 50 (.fieldAddr 30 (.tmp 1) 0) 0, o 51 (.fieldAddr 27 (.tmp 50) 2) 0, o 52 (.load 25 (.tmp 51)) 25, o 53 (.call { callee := .value (.func 108), args := #[.tmp 52], argTypes := #[25] }) 22, o 54 (.call { callee := .builtin .append, args := #[.tmp 49, .tmp 53], argTypes := #[22, 22] }) 22, o 6 (.assign (.tmp 54)) 22] false)
 .skip))
 (.seq (.region 12 #[m 55 3 22, o 56 (.call { callee := .builtin .len, args := #[.tmp 55], argTypes := #[22] }) 3, o 7 (.assign (.tmp 56)) 3] false)
 (.seq (.seq (.region 13 #[m 57 7 3, o 58 (.binOp .lss 3 (.tmp 57) (.const (.int .i64 128)) 3) 4] false)
 (.cond (.tmp 58)
 (.region 14 #[m 59 6 22, m 60 7 3, o 61 (.convert 3 5 (.tmp 60)) 5, o 62 (.buildSlice 22 1 #[(0, .tmp 61)]) 22, o 63 (.call { callee := .builtin .append, args := #[.tmp 59, .tmp 62], argTypes := #[22, 22] }) 22, o 6 (.assign (.tmp 63)) 22] false)
 (.seq (.region 15 #[o 8 (.assign (.const (.slice none 0 0))) 22] false)
 (.seq (.seq (.region 16 #[m 64 7 3, o 9 (.assign (.tmp 64)) 3] false)
 (.block 2 (.loop (.seq (.seq (.region 17 #[m 65 9 3, o 66 (.binOp .gtr 3 (.tmp 65) (.const (.int .i64 0)) 3) 4] false)
 (.cond (.tmp 66)
 .skip
 (.exit 2)))
 (.seq (.block 3 (.region 19 #[m 69 9 3, o 70 (.binOp .rem 3 (.tmp 69) (.const (.int .i64 256)) 3) 3, o 71 (.convert 3 5 (.tmp 70)) 5, o 72 (.buildSlice 22 1 #[(0, .tmp 71)]) 22, m 73 8 22, o 74 (.call { callee := .builtin .append, args := #[.tmp 72, .tmp 73], argTypes := #[22, 22] }) 22, o 8 (.assign (.tmp 74)) 22] false))
 (.region 18 #[m 67 9 3, o 68 (.binOp .quo 3 (.tmp 67) (.const (.int .i64 256)) 3) 3, o 9 (.assign (.tmp 68)) 3] false))))))
 (.seq (.region 20 #[m 75 6 22, m 76 8 22, o 77 (.call { callee := .builtin .len, args := #[.tmp 76], argTypes := #[22] }) 3, o 78 (.binOp .add 3 (.const (.int .i64 128)) (.tmp 77) 3) 3, o 79 (.convert 3 5 (.tmp 78)) 5, o 80 (.buildSlice 22 1 #[(0, .tmp 79)]) 22, o 81 (.call { callee := .builtin .append, args := #[.tmp 75, .tmp 80], argTypes := #[22, 22] }) 22, o 6 (.assign (.tmp 81)) 22] false)
 (.region 21 #[m 82 6 22, m 83 8 22, o 84 (.call { callee := .builtin .append, args := #[.tmp 82, .tmp 83], argTypes := #[22, 22] }) 22, o 6 (.assign (.tmp 84)) 22] false))))))
 (.seq (.region 22 #[m 85 6 22, m 86 3 22, o 87 (.call { callee := .builtin .append, args := #[.tmp 85, .tmp 86], argTypes := #[22, 22] }) 22, o 2 (.assign (.tmp 87)) 22] false)
 .ret))))))))))
def fn84 : AFn := { ntmps := 88, results := [.tmp 2], body := c84, keep := fun | 0 => some [1] | 1 => some [1, 3] | 2 => some [1, 3, 4] | 3 => some [1, 3, 4, 17] | 4 => some [1, 3, 4] | 5 => some [1, 3, 4] | 6 => some [1, 3, 5] | 7 => some [1, 3, 5, 34] | 8 => some [1, 3, 5] | 9 => some [1, 3, 6] | 10 => some [1, 3, 6, 48] | 11 => some [3, 6] | 12 => some [3, 6, 7] | 13 => some [3, 6, 7, 58] | 14 => some [3, 6] | 15 => some [3, 6, 7, 8] | 16 => some [3, 6, 8, 9] | 17 => some [3, 6, 8, 9, 66] | 18 => some [3, 6, 8, 9] | 19 => some [3, 6, 8, 9] | 20 => some [3, 6, 8] | 21 => some [3, 6] | 22 => some [2] | _ => none, head := fun | 3 => some [1, 3, 4] | 17 => some [3, 6, 8, 9] | _ => none, opn := fun _ => none, dyn := fun _ => [] }
def c85 : Code :=
  (.seq (.region 0 #[o 2 (.box 30 (.tmp 0)) 0, o 4 (.alloc 30) 0, o 5 (.assign (.const (.bool false))) 4] false)
 (.seq (.seq (.region 1 #[m 6 1 3, o 7 (.binOp .lss 3 (.tmp 6) (.const (.int .i64 0)) 3) 4, m 8 7 4, ⟨some 9, .move (.tmp 1), 3, "", #[], some (8, false)⟩, ⟨some 10, .fieldAddr 30 (.tmp 2) 2, 0, "", #[], some (8, false)⟩, ⟨some 11, .load 28 (.tmp 10), 28, "", #[], some (8, false)⟩, ⟨some 12, .call { callee := .builtin .len, args := #[.tmp 11], argTypes := #[28] }, 3, "", #[], some (8, false)⟩, ⟨some 13, .binOp .geq 3 (.tmp 9) (.tmp 12) 3, 4, "", #[], some (8, false)⟩, o 14 (.pick (.tmp 8) (.const (.bool true)) (.tmp 13)) 4] false)
 (.cond (.tmp 14)
 (.seq (.region 2 #[o 15 (.build 30 #[]) 30, ⟨none, .store 30 (.tmp 4) (.tmp 15), 0, "", #[], none⟩, o 5 (.assign (.const (.bool false))) 4] false)
 .ret)
 .skip))
 (.seq (.region 3 #[o 16 (.fieldAddr 30 (.tmp 2) 2) 0, o 17 (.load 28 (.tmp 16)) 28, m 18 1 3, o 19 (.indexAddr 28 (.tmp 17) (.tmp 18)) 0, o 20 (.load 30 (.tmp 19)) 30, ⟨none, .store 30 (.tmp 4) (.tmp 20), 0, "", #[], none⟩, o 5 (.assign (.const (.bool true))) 4] false)
 .ret)))
def fn85 : AFn := { ntmps := 21, results := [.cell 4 30, .tmp 5], body := c85, keep := fun | 0 => some [1, 2, 4] | 1 => some [1, 2, 4, 14] | 2 => some [4, 5] | 3 => some [4, 5] | _ => none, head := fun  | _ => none, opn := fun _ => none, dyn := fun _ => [] }
def c87 : Code :=
  (.seq (.region 0 #[o 2 (.assign (.const (.int .i64 0))) 3] false)
 (.seq (.seq (.region 1 #[m 7 0 28, o 8 (.call { callee := .builtin .len, args := #[.tmp 7], argTypes := #[28] }) 3, o 9 (.move (.const (.int .i64 0))) 3] false)
 (.block 0 (.loop (.seq (.region 2 #[o 10 (.binOp .lss 3 (.tmp 9) (.tmp 8) 3) 0] false)
 (.seq (.cond (.tmp 10)
 .skip
 (.exit 0))
 (.seq (.block 1 (.seq (.region 3 #[o 11 (.indexAddr 28 (.tmp 7) (.tmp 9)) 0, o 12 (.load 30 (.tmp 11)) 30, o 4 (.alloc 30) 0, ⟨none, .store 30 (.tmp 4) (.tmp 12), 0, "", #[], none⟩] false)
 (.seq (.region 4 #[o 14 (.load 30 (.tmp 4)) 30, o 15 (.call { callee := .value (.func 21), args := #[.tmp 14], argTypes := #[30] }) 35, m 13 15 35, o 16 (.extract (.tmp 13) 0) 22, o 17 (.extract (.tmp 13) 1) 34, o 5 (.assign (.tmp 16)) 22, o 6 (.assign (.tmp 17)) 34] false)
 (.region 5 #[m 18 2 3, m 19 5 22, o 20 (.call { callee := .builtin .len, args := #[.tmp 19], argTypes := #[22] }) 3, o 21 (.binOp .add 3 (.tmp 18) (.tmp 20) 3) 3, o 2 (.assign (.tmp 21)) 3] false))))
 (.region 6 #[o 22 (.binOp .add 3 (.tmp 9) (.const (.int .i64 1)) 3) 3, m 9 22 3] false)))))))
 (.seq (.region 7 #[m 23 2 3, o 2 (.assign (.tmp 23)) 3] false)
 .ret)))
def fn87 : AFn := { ntmps := 24, results := [.tmp 2], body := c87, keep := fun | 0 => some [0, 2] | 1 => some [2, 7, 8, 9] | 2 => some [2, 7, 8, 9, 10] | 3 => some [2, 4, 7, 8, 9] | 4 => some [2, 5, 7, 8, 9] | 5 => some [2, 7, 8, 9] | 6 => some [2, 7, 8, 9] | 7 => some [2] | _ => none, head := fun | 2 => some [2, 7, 8, 9] | _ => none, opn := fun _ => none, dyn := fun _ => [] }
def c89 : Code :=
  (.seq (.region 0 #[o 2 (.assign (.const (.int .i64 0))) 3, o 3 (.assign (.const (.int .i64 0))) 3, o 4 (.assign (.const (.int .i64 0))) 3] false)
 (.seq (.seq (.region 1 #[m 8 0 22, o 9 (.call { callee := .builtin .len, args := #[.tmp 8], argTypes := #[22] }) 3, o 10 (.binOp .eql 3 (.tmp 9) (.const (.int .i64 0)) 3) 4] false)
 (.cond (.tmp 10)
 (.seq (.region 2 #[o 2 (.assign (.const (.int .i64 0))) 3, o 3 (.assign (.const (.int .i64 0))) 3, o 4 (.assign (.const (.int .i64 7))) 3] false)
 .ret)
 .skip))
 (.seq (.seq (.region 3 #[m 11 0 22, o 12 (.indexAddr 22 (.tmp 11) (.const (.int .i64 0))) 0, o 13 (.load 5 (.tmp 12)) 5, o 14 (.binOp .lss 5 (.tmp 13) (.const (.int .u8 128)) 5) 4] false)
 (.cond (.tmp 14)
 (.seq (.region 4 #[m 15 0 22, o 16 (.indexAddr 22 (.tmp 15) (.const (.int .i64 0))) 0, o 17 (.load 5 (.tmp 16)) 5, o 18 (.convert 5 3 (.tmp 17)) 3, o 2 (.assign (.tmp 18)) 3, o 3 (.assign (.const (.int .i64 1))) 3, o 4 (.assign (.const (.int .i64 0))) 3] false)
 .ret)
 .skip))
 (.seq (.region 5 #[m 19 0 22, o 20 (.indexAddr 22 (.tmp 19) (.const (.int .i64 0))) 0, o 21 (.load 5 (.tmp 20)) 5, o 22 (.convert 5 3 (.tmp 21)) 3, o 23 (.binOp .sub 3 (.tmp 22) (.const (.int .i64 128)) 3) 3, o 5 (.assign (.tmp 23)) 3] false)
 (.seq (.seq (.region 6 #[m 24 5 3, o 25 (.binOp .lss 3 (.tmp 24) (.const (.int .i64 1)) 3) 4, m 26 25 4, ⟨some 27, .move (.tmp 5), 3, "", #[], some (26, false)⟩, ⟨some 28, .binOp .gtr 3 (.tmp 27) (.const (.int .i64 3)) 3, 4, "", #[], some (26, false)⟩, o 29 (.pick (.tmp 26) (.const (.bool true)) (.tmp 28)) 4] false)
 (.cond (.tmp 29)
 (.seq (.region 7 #[o 2 (.assign (.const (.int .i64 0))) 3, o 3 (.assign (.const (.int .i64 0))) 3, o 4 (.assign (.const (.int .i64 10))) 3] false)
 .ret)
 .skip))
 (.seq (.seq (.region 8 #[m 30 0 22, o 31 (.call { callee := .builtin .len, args := #[.tmp 30], argTypes := #[22] }) 3, m 32 5 3, o 33 (.binOp .add 3 (.tmp 32) (.const (.int .i64 1)) 3) 3, o 34 (.binOp .lss 3 (.tmp 31) (.tmp 33) 3) 4] false)
 (.cond (.tmp 34)
 (.seq (.region 9 #[o 2 (.assign (.const (.int .i64 0))) 3, o 3 (.assign (.const (.int .i64 0))) 3, o 4 (.assign (.const (.int .i64 7))) 3] false)
 .ret)
 .skip))
 (.seq (.region 10 #[o 6 (.assign (.const (.int .i64 0))) 3] false)
 (.seq (.seq (.region 11 #[o 7 (.assign (.const (.int .i64 1))) 3] false)
 (.block 0 (.loop (.seq (.seq (.region 12 #[m 35 7 3, m 36 5 3, o 37 (.binOp .leq 3 (.tmp 35) (.tmp 36) 3) 4] false)
 (.cond (.tmp 37)
 .skip
 (.exit 0)))
 (.seq (.block 1 (.region 14 #[m 40 6 3, o 41 (.binOp .mul 3 (.const (.int .i64 256)) (.tmp 40) 3) 3, m 42 0 22, m 43 7 3, o 44 (.indexAddr 22 (.tmp 42) (.tmp 43)) 0, o 45 (.load 5 (.tmp 44)) 5, o 46 (.convert 5 3 (.tmp 45)) 3, o 47 (.binOp .add 3 (.tmp 41) (.tmp 46) 3) 3, o 6 (.assign (.tmp 47)) 3] false))
 (.region 13 #[m 38 7 3, o 39 (.binOp .add 3 (.tmp 38) (.const (.int .i64 1)) 3) 3, o 7 (.assign (.tmp 39)) 3] false))))))
 (.seq (.seq (.region 15 #[m 48 0 22, o 49 (.indexAddr 22 (.tmp 48) (.const (.int .i64 1))) 0, o 50 (.load 5 (.tmp 49)) 5, o 51 (.binOp .eql 5 (.tmp 50) (.const (.int .u8 0)) 5) 4, m 52 51 4, ⟨some 53, .move (.tmp 6), 3, "", #[], some (52, false)⟩, ⟨some 54, .binOp .lss 3 (.tmp 53) (.const (.int .i64 128)) 3, 4, "", #[], some (52, false)⟩, o 55 (.pick (.tmp 52) (.const (.bool true)) (.tmp 54)) 4] false)
 (.cond (.tmp 55)
 (.seq (.region 16 #[o 2 (.assign (.const (.int .i64 0))) 3, o 3 (.assign (.const (.int .i64 0))) 3, o 4 (.assign (.const (.int .i64 10))) 3] false)
 .ret)
 .skip))
 (.seq (.region 17 #[m 56 6 3, m 57 5 3, o 58 (.binOp .add 3 (.tmp 57) (.const (.int .i64 1)) 3) 3, o 2 (.assign (.tmp 56)) 3, o 3 (.assign (.tmp 58)) 3, o 4 (.assign (.const (.int .i64 0))) 3] false)
 .ret))))))))))
def fn89 : AFn := { ntmps := 59, results := [.tmp 2, .tmp 3, .tmp 4], body := c89, keep := fun | 0 => some [0] | 1 => some [0, 10] | 2 => some [2, 3, 4] | 3 => some [0, 14] | 4 => some [2, 3, 4] | 5 => some [0, 5] | 6 => some [0, 5, 29] | 7 => some [2, 3, 4] | 8 => some [0, 5, 34] | 9 => some [2, 3, 4] | 10 => some [0, 5, 6] | 11 => some [0, 5, 6, 7] | 12 => some [0, 5, 6, 7, 37] | 13 => some [0, 5, 6, 7] | 14 => some [0, 5, 6, 7] | 15 => some [5, 6, 55] | 16 => some [2, 3, 4] | 17 => some [2, 3, 4] | _ => none, head := fun | 12 => some [0, 5, 6, 7] | _ => none, opn := fun _ => none, dyn := fun _ => [] }
def c90 : Code :=
  (.seq (.region 0 #[o 1 (.box 30 (.tmp 0)) 0, o 2 (.assign (.const (.int .i64 0))) 3] false)
 (.seq (.seq (.region 1 #[o 6 (.fieldAddr 30 (.tmp 1) 0) 0, o 7 (.fieldAddr 27 (.tmp 6) 1) 0, o 8 (.load 4 (.tmp 7)) 4, o 9 (.unOp .not 4 (.tmp 8)) 4] false)
 (.cond (.tmp 9)
 (.seq (.region 2 #[o 10 (.fieldAddr 30 (.tmp 1) 1) 0, o 11 (.load 22 (.tmp 10)) 22, o 12 (.call { callee := .builtin .len, args := #[.tmp 11], argTypes := #[22] }) 3, o 2 (.assign (.tmp 12)) 3] false)
 .ret)
 .skip))
 (.seq (.region 3 #[o 3 (.assign (.const (.int .i64 0))) 3] false)
 (.seq (.seq (.region 4 #[o 13 (.fieldAddr 30 (.tmp 1) 2) 0, o 14 (.load 28 (.tmp 13)) 28, o 15 (.call { callee := .builtin .len, args := #[.tmp 14], argTypes := #[28] }) 3, o 16 (.move (.const (.int .i64 0))) 3] false)
 (.block 0 (.loop (.seq (.region 5 #[o 17 (.binOp .lss 3 (.tmp 16) (.tmp 15) 3) 0] false)
 (.seq (.cond (.tmp 17)
 .skip
 (.exit 0))
 (.seq (.block 1 (.seq (.region 6 #[o 18 (.indexAddr 28 (.tmp 14) (.tmp 16)) 0, o 19 (.load 30 (.tmp 18)) 30, o 5 (.alloc 30) 0, ⟨none, .store 30 (.tmp 5) (.tmp 19), 0, "", #[], none⟩] false)
 (.region 7 #[m 20 3 3, o 21 (.load 30 (.tmp 5)) 30, o 22 (.call { callee := .value (.func 69), args := #[.tmp 21], argTypes := #[30] }) 3, o 23 (.binOp .add 3 (.tmp 20) (.tmp 22) 3) 3, o 24 (.call { callee := .builtin .min, args := #[.tmp 23, .const (.int .i64 1048577)], argTypes := #[3, 3] }) 3, o 3 (.assign (.tmp 24)) 3] false)))
 (.region 8 #[o 25 (.binOp .add 3 (.tmp 16) (.const (.int .i64 1)) 3) 3, m 16 25 3] false)))))))
 (.seq (.region 9 #[m 26 3 3, o 2 (.assign (.tmp 26)) 3] false)
 .ret)))))
def fn90 : AFn := { ntmps := 27, results := [.tmp 2], body := c90, keep := fun | 0 => some [1] | 1 => some [1, 9] | 2 => some [2] | 3 => some [1, 3] | 4 => some [3, 14, 15, 16] | 5 => some [3, 14, 15, 16, 17] | 6 => some [3, 5, 14, 15, 16] | 7 => some [3, 14, 15, 16] | 8 => some [3, 14, 15, 16] | 9 => some [2] | _ => none, head := fun | 5 => some [3, 14, 15, 16] | _ => none, opn := fun _ => none, dyn := fun _ => [] }
def c91 : Code :=
  (.seq (.region 0 #[o 4 (.assign (.const (.int .i64 0))) 3] false)
 (.seq (.seq (.region 1 #[m 5 0 3, o 6 (.binOp .lss 3 (.tmp 5) (.const (.int .i64 1)) 3) 4, m 7 6 4, ⟨some 8, .move (.tmp 0), 3, "", #[], some (7, false)⟩, ⟨some 9, .binOp .gtr 3 (.tmp 8) (.const (.int .i64 5)) 3, 4, "", #[], some (7, false)⟩, o 10 (.pick (.tmp 7) (.const (.bool true)) (.tmp 9)) 4, m 11 10 4, ⟨some 12, .move (.tmp 1), 3, "", #[], some (11, false)⟩, ⟨some 13, .call { callee := .value (.func 110), args := #[.tmp 12], argTypes := #[3] }, 3, "", #[], some (11, false)⟩, ⟨some 14, .binOp .eql 3 (.tmp 13) (.const (.int .i64 0)) 3, 4, "", #[], some (11, false)⟩, o 15 (.pick (.tmp 11) (.const (.bool true)) (.tmp 14)) 4] false)
 (.cond (.tmp 15)
 (.seq (.region 2 #[o 4 (.assign (.const (.int .i64 0))) 3] false)
 .ret)
 .skip))
 (.seq (.region 3 #[m 16 0 3, m 17 1 3, o 18 (.call { callee := .value (.func 110), args := #[.tmp 17], argTypes := #[3] }) 3, o 19 (.binOp .add 3 (.tmp 16) (.tmp 18) 3) 3, m 20 1 3, o 21 (.binOp .add 3 (.tmp 19) (.tmp 20) 3) 3, o 4 (.assign (.tmp 21)) 3] false)
 .ret)))
def fn91 : AFn := { ntmps := 22, results := [.tmp 4], body := c91, keep := fun | 0 => some [0, 1] | 1 => some [0, 1, 15] | 2 => some [4] | 3 => some [4] | _ => none, head := fun  | _ => none, opn := fun _ => none, dyn := fun _ => [] }
def c92 : Code :=
  (.seq (.region 0 #[o 1 (.box 27 (.tmp 0)) 0, o 2 (.assign (.const (.int .i64 0))) 3] false)
 (.seq (.region 1 #[o 6 (.load 27 (.tmp 1)) 27, o 7 (.call { callee := .value (.func 93), args := #[.tmp 6], argTypes := #[27] }) 35, m 5 7 35, o 8 (.extract (.tmp 5) 0) 22, o 9 (.extract (.tmp 5) 1) 34, o 3 (.assign (.tmp 8)) 22, o 4 (.assign (.tmp 9)) 34] false)
 (.seq (.region 2 #[m 10 3 22, o 11 (.call { callee := .builtin .len, args := #[.tmp 10], argTypes := #[22] }) 3, o 2 (.assign (.tmp 11)) 3] false)
 .ret)))
def fn92 : AFn := { ntmps := 12, results := [.tmp 2], body := c92, keep := fun | 0 => some [1] | 1 => some [3] | 2 => some [2] | _ => none, head := fun  | _ => none, opn := fun _ => none, dyn := fun _ => [] }
def c93 : Code :=
  (.seq (.region 0 #[o 1 (.box 27 (.tmp 0)) 0, o 2 (.assign (.const (.slice none 0 0))) 22, o 3 (.assign (.const (.int .i64 0))) 34] false)
 (.seq (.seq (.region 1 #[o 8 (.load 27 (.tmp 1)) 27, o 9 (.call { callee := .value (.func 102), args := #[.tmp 8], argTypes := #[27] }) 34, o 4 (.assign (.tmp 9)) 34] false)
 (.seq (.region 2 #[m 10 4 34, o 11 (.binOp .neq 34 (.tmp 10) (.const (.int .i64 0)) 34) 4] false)
 (.cond (.tmp 11)
 (.seq (.region 3 #[m 12 4 34, o 2 (.assign (.const (.slice none 0 0))) 22, o 3 (.assign (.tmp 12)) 34] false)
 .ret)
 .skip)))
 (.seq (.region 4 #[o 13 (.fieldAddr 27 (.tmp 1) 0) 0, o 14 (.load 24 (.tmp 13)) 24, o 15 (.binOp .shl 5 (.tmp 14) (.const (.int .u64 6)) 151) 5, o 5 (.assign (.tmp 15)) 5] false)
 (.seq (.seq (.region 5 #[o 16 (.fieldAddr 27 (.tmp 1) 1) 0, o 17 (.load 4 (.tmp 16)) 4] false)
 (.cond (.tmp 17)
 (.region 6 #[m 18 5 5, o 19 (.binOp .or 5 (.tmp 18) (.const (.int .u8 32)) 5) 5, o 5 (.assign (.tmp 19)) 5] false)
 .skip))
 (.seq (.seq (.region 7 #[o 20 (.fieldAddr 27 (.tmp 1) 2) 0, o 21 (.load 25 (.tmp 20)) 25, o 22 (.binOp .lss 25 (.tmp 21) (.const (.int .u32 31)) 25) 4] false)
 (.cond (.tmp 22)
 (.seq (.region 8 #[m 23 5 5, o 24 (.fieldAddr 27 (.tmp 1) 2) 0, o 25 (.load 25 (.tmp 24)) 25, o 26 (.convert 25 5 (.tmp 25)) 5, o 27 (.binOp .or 5 (.tmp 23) (.tmp 26) 5) 5, o 28 (.buildSlice 22 1 #[(0, .tmp 27)]) 22, o 2 (.assign (.tmp 28)) 22, o 3 (.assign (.const (.int .i64 0))) 34] false)
 .ret)
 .skip))
 (.seq (.region 9 #[m 29 5 5, o 30 (.binOp .or 5 (.tmp 29) (.const (.int .u8 31)) 5) 5, o 31 (.buildSlice 22 1 #[(0, .tmp 30)]) 22, o 6 (.alloc 22) 0, ⟨none, .store 22 (.tmp 6) (.tmp 31), 0, "", #[], none⟩] false)
 (.seq (.seq (.region 10 #[o 32 (.fieldAddr 27 (.tmp 1) 2) 0, o 33 (.load 25 (.tmp 32)) 25, o 34 (.call { callee := .value (.func 111), args := #[.tmp 33], argTypes := #[25] }) 153] false)
 (.block 0 (.refuse "")))
 (.seq (.region 13 #[o 40 (.load 22 (.tmp 6)) 22, o 41 (.call { callee := .value (.func 97), args := #[.tmp 40], argTypes := #[22] }) 22, o 2 (.assign (.tmp 41)) 22, o 3 (.assign (.const (.int .i64 0))) 34] false)
 .ret))))))))
def fn93 : AFn := { ntmps := 42, results := [.tmp 2, .tmp 3], body := c93, keep := fun | 0 => some [1, 35] | 1 => some [1, 4, 35] | 2 => some [1, 4, 11, 35] | 3 => some [2, 3] | 4 => some [1, 5, 35] | 5 => some [1, 5, 17, 35] | 6 => some [1, 5, 35] | 7 => some [1, 5, 22, 35] | 8 => some [2, 3] | 9 => some [1, 6, 35] | 10 => some [6, 34, 35] | 11 => some [6, 7, 35] | 12 => some [6, 35] | 13 => some [2, 3] | _ => none, head := fun  | _ => none, opn := fun _ => none, dyn := fun _ => [] }
def c94 : Code :=
  (.seq (.region 0 #[o 2 (.assign (.const (.slice none 0 0))) 22, o 3 (.assign (.const (.int .i64 0))) 34] false)
 (.seq (.block 0 (.seq (.region 1 #[m 6 0 3, o 7 (.binOp .lss 3 (.tmp 6) (.const (.int .i64 0)) 3) 4, o 5 (.assign (.tmp 7)) 4] false)
 (.cond (.tmp 5)
 (.seq (.region 2 #[o 2 (.assign (.const (.slice none 0 0))) 22, o 3 (.assign (.const (.int .i64 1))) 34] false)
 .ret)
 (.seq (.region 3 #[m 9 0 3, o 10 (.binOp .gtr 3 (.tmp 9) (.const (.int .i64 16777215)) 3) 4, o 8 (.assign (.tmp 10)) 4] false)
 (.cond (.tmp 8)
 (.seq (.region 4 #[o 2 (.assign (.const (.slice none 0 0))) 22, o 3 (.assign (.const (.int .i64 3))) 34] false)
 .ret)
 (.seq (.region 5 #[m 12 0 3, o 13 (.binOp .leq 3 (.tmp 12) (.const (.int .i64 127)) 3) 4, o 11 (.assign (.tmp 13)) 4] false)
 (.cond (.tmp 11)
 (.seq (.region 6 #[m 14 0 3, o 15 (.convert 3 5 (.tmp 14)) 5, o 16 (.buildSlice 22 1 #[(0, .tmp 15)]) 22, o 2 (.assign (.tmp 16)) 22, o 3 (.assign (.const (.int .i64 0))) 34] false)
 .ret)
 .skip)))))))
 (.seq (.region 7 #[o 17 (.buildSlice 22 1 #[(0, .const (.int .u8 0))]) 22, o 4 (.assign (.tmp 17)) 22] false)
 (.seq (.block 1 (.seq (.block 4 (.seq (.block 3 (.seq (.block 2 (.seq (.seq (.seq (.region 8 #[m 19 0 3, o 20 (.binOp .gtr 3 (.tmp 19) (.const (.int .i64 65535)) 3) 4, o 18 (.assign (.tmp 20)) 4] false)
 (.cond (.tmp 18)
 (.exit 2)
 .skip))
 (.seq (.region 9 #[m 22 0 3, o 23 (.binOp .gtr 3 (.tmp 22) (.const (.int .i64 255)) 3) 4, o 21 (.assign (.tmp 23)) 4] false)
 (.cond (.tmp 21)
 (.exit 3)
 .skip)))
 (.exit 4)))
 (.region 10 #[m 24 4 22, m 25 0 3, o 26 (.binOp .shr 3 (.tmp 25) (.const (.int .u64 16)) 151) 3, o 27 (.convert 3 5 (.tmp 26)) 5, o 28 (.buildSlice 22 1 #[(0, .tmp 27)]) 22, o 29 (.call { callee := .builtin .append, args := #[.tmp 24, .tmp 28], argTypes := #[22, 22] }) 22, o 4 (.assign (.tmp 29)) 22] false)))
 (.region 11 #[m 30 4 22, m 31 0 3, o 32 (.binOp .shr 3 (.tmp 31) (.const (.int .u64 8)) 151) 3, o 33 (.convert 3 5 (.tmp 32)) 5, o 34 (.buildSlice 22 1 #[(0, .tmp 33)]) 22, o 35 (.call { callee := .builtin .append, args := #[.tmp 30, .tmp 34], argTypes := #[22, 22] }) 22, o 4 (.assign (.tmp 35)) 22] false)))
 (.seq (.region 12 #[m 36 4 22, m 37 0 3, o 38 (.convert 3 5 (.tmp 37)) 5, o 39 (.buildSlice 22 1 #[(0, .tmp 38)]) 22, o 40 (.call { callee := .builtin .append, args := #[.tmp 36, .tmp 39], argTypes := #[22, 22] }) 22, o 4 (.assign (.tmp 40)) 22] false)
 (.exit 1))))
 (.seq (.region 13 #[m 41 4 22, m 42 4 22, o 43 (.call { callee := .builtin .len, args := #[.tmp 42], argTypes := #[22] }) 3, o 44 (.binOp .sub 3 (.tmp 43) (.const (.int .i64 1)) 3) 3, o 45 (.convert 3 5 (.tmp 44)) 5, o 46 (.binOp .add 5 (.const (.int .u8 128)) (.tmp 45) 5) 5, o 47 (.indexAddr 22 (.tmp 41) (.const (.int .i64 0))) 0, ⟨none, .store 5 (.tmp 47) (.tmp 46), 0, "", #[], none⟩] false)
 (.seq (.region 14 #[m 48 4 22, o 49 (.call { callee := .value (.func 97), args := #[.tmp 48], argTypes := #[22] }) 22, o 2 (.assign (.tmp 49)) 22, o 3 (.assign (.const (.int .i64 0))) 34] false)
 .ret))))))
def fn94 : AFn := { ntmps := 50, results := [.tmp 2, .tmp 3], body := c94, keep := fun | 0 => some [0] | 1 => some [0, 5] | 2 => some [2, 3] | 3 => some [0, 8] | 4 => some [2, 3] | 5 => some [0, 11] | 6 => some [2, 3] | 7 => some [0, 4] | 8 => some [0, 4, 18] | 9 => some [0, 4, 21] | 10 => some [0, 4] | 11 => some [0, 4] | 12 => some [4] | 13 => some [4] | 14 => some [2, 3] | _ => none, head := fun  | _ => none, opn := fun _ => none, dyn := fun _ => [] }
def c95 : Code :=
  (.seq (.region 0 #[o 2 (.alloc 27) 0, o 3 (.assign (.const (.int .i64 0))) 3, o 4 (.assign (.const (.int .i64 0))) 34] false)
 (.seq (.seq (.region 1 #[m 5 0 22, o 6 (.call { callee := .builtin .len, args := #[.tmp 5], argTypes := #[22] }) 3, o 7 (.binOp .eql 3 (.tmp 6) (.const (.int .i64 0)) 3) 4] false)
 (.cond (.tmp 7)
 (.seq (.region 2 #[o 8 (.build 27 #[]) 27, ⟨none, .store 27 (.tmp 2) (.tmp 8), 0, "", #[], none⟩, o 3 (.assign (.const (.int .i64 0))) 3, o 4 (.assign (.const (.int .i64 7))) 34] false)
 .ret)
 .skip))
 (.seq (.region 3 #[m 9 0 22, o 10 (.indexAddr 22 (.tmp 9) (.const (.int .i64 0))) 0, o 11 (.load 5 (.tmp 10)) 5, o 12 (.binOp .shr 5 (.tmp 11) (.const (.int .u64 6)) 151) 5, m 13 0 22, o 14 (.indexAddr 22 (.tmp 13) (.const (.int .i64 0))) 0, o 15 (.load 5 (.tmp 14)) 5, o 16 (.binOp .and 5 (.tmp 15) (.const (.int .u8 32)) 5) 5, o 17 (.binOp .neq 5 (.tmp 16) (.const (.int .u8 0)) 5) 4, m 18 0 22, o 19 (.indexAddr 22 (.tmp 18) (.const (.int .i64 0))) 0, o 20 (.load 5 (.tmp 19)) 5, o 21 (.binOp .and 5 (.tmp 20) (.const (.int .u8 31)) 5) 5, o 22 (.convert 5 25 (.tmp 21)) 25, o 23 (.build 27 #[(0, .tmp 12), (1, .tmp 17), (2, .tmp 22)]) 27, ⟨none, .store 27 (.tmp 2) (.tmp 23), 0, "", #[], none⟩] true)
 (.seq (.region 4 #[o 3 (.assign (.const (.int .i64 1))) 3] false)
 (.seq (.seq (.region 5 #[o 24 (.fieldAddr 27 (.tmp 2) 2) 0, o 25 (.load 25 (.tmp 24)) 25, o 26 (.binOp .eql 25 (.tmp 25) (.const (.int .u32 31)) 25) 4] false)
 (.cond (.tmp 26)
 (.region 6 #[m 28 0 22, o 29 (.call { callee := .value (.func 112), args := #[.tmp 28], argTypes := #[22] }) 155, m 27 29 155, o 30 (.extract (.tmp 27) 0) 25, o 31 (.extract (.tmp 27) 1) 3, o 32 (.extract (.tmp 27) 2) 34, o 33 (.fieldAddr 27 (.tmp 2) 2) 0, ⟨none, .store 25 (.tmp 33) (.tmp 30), 0, "", #[], none⟩, o 3 (.assign (.tmp 31)) 3, o 4 (.assign (.tmp 32)) 34] false)
 .skip))
 (.seq (.seq (.region 7 #[m 34 4 34, o 35 (.binOp .eql 34 (.tmp 34) (.const (.int .i64 0)) 34) 4] false)
 (.cond (.tmp 35)
 (.region 8 #[o 36 (.load 27 (.tmp 2)) 27, o 37 (.call { callee := .value (.func 102), args := #[.tmp 36], argTypes := #[27] }) 34, o 4 (.assign (.tmp 37)) 34] false)
 .skip))
 (.seq (.seq (.region 9 #[m 38 4 34, o 39 (.binOp .neq 34 (.tmp 38) (.const (.int .i64 0)) 34) 4] false)
 (.cond (.tmp 39)
 (.seq (.region 10 #[o 40 (.build 27 #[]) 27, m 41 4 34, ⟨none, .store 27 (.tmp 2) (.tmp 40), 0, "", #[], none⟩, o 3 (.assign (.const (.int .i64 0))) 3, o 4 (.assign (.tmp 41)) 34] false)
 .ret)
 .skip))
 (.seq (.region 11 #[o 42 (.load 27 (.tmp 2)) 27, m 43 3 3, ⟨none, .store 27 (.tmp 2) (.tmp 42), 0, "", #[], none⟩, o 3 (.assign (.tmp 43)) 3, o 4 (.assign (.const (.int .i64 0))) 34] false)
 .ret))))))))
def fn95 : AFn := { ntmps := 44, results := [.cell 2 27, .tmp 3, .tmp 4], body := c95, keep := fun | 0 => some [0, 2, 4] | 1 => some [0, 2, 4, 7] | 2 => some [2, 3, 4] | 3 => some [0, 2, 4] | 4 => some [0, 2, 3, 4] | 5 => some [0, 2, 3, 4, 26] | 6 => some [2, 3, 4] | 7 => some [2, 3, 4, 35] | 8 => some [2, 3, 4] | 9 => some [2, 3, 4, 39] | 10 => some [2, 3, 4] | 11 => some [2, 3, 4] | _ => none, head := fun  | _ => none, opn := fun _ => none, dyn := fun _ => [] }
def c96 : Code :=
  (.seq (.region 0 #[o 2 (.assign (.const (.int .i64 0))) 3, o 3 (.assign (.const (.int .i64 0))) 3, o 4 (.assign (.const (.int .i64 0))) 34] false)
 (.seq (.seq (.region 1 #[m 7 0 22, o 8 (.call { callee := .builtin .len, args := #[.tmp 7], argTypes := #[22] }) 3, o 9 (.binOp .eql 3 (.tmp 8) (.const (.int .i64 0)) 3) 4] false)
 (.cond (.tmp 9)
 (.seq (.region 2 #[o 2 (.assign (.const (.int .i64 0))) 3, o 3 (.assign (.const (.int .i64 0))) 3, o 4 (.assign (.const (.int .i64 7))) 34] false)
 .ret)
 .skip))
 (.seq (.seq (.region 3 #[m 10 0 22, o 11 (.indexAddr 22 (.tmp 10) (.const (.int .i64 0))) 0, o 12 (.load 5 (.tmp 11)) 5, o 13 (.binOp .leq 5 (.tmp 12) (.const (.int .u8 127)) 5) 4] false)
 (.cond (.tmp 13)
 (.seq (.region 4 #[m 14 0 22, o 15 (.indexAddr 22 (.tmp 14) (.const (.int .i64 0))) 0, o 16 (.load 5 (.tmp 15)) 5, o 17 (.convert 5 3 (.tmp 16)) 3, o 2 (.assign (.tmp 17)) 3, o 3 (.assign (.const (.int .i64 1))) 3, o 4 (.assign (.const (.int .i64 0))) 34] false)
 .ret)
 .skip))
 (.seq (.region 5 #[o 5 (.alloc 158) 0] false)
 (.seq (.region 6 #[m 18 0 22, o 19 (.indexAddr 22 (.tmp 18) (.const (.int .i64 0))) 0, o 20 (.load 5 (.tmp 19)) 5, o 21 (.convert 5 3 (.tmp 20)) 3, o 22 (.binOp .sub 3 (.tmp 21) (.const (.int .i64 128)) 3) 3, o 6 (.assign (.tmp 22)) 3] false)
 (.seq (.block 0 (.seq (.region 7 #[m 24 6 3, o 25 (.binOp .eql 3 (.tmp 24) (.const (.int .i64 0)) 3) 4, m 26 25 4, ⟨some 27, .move (.tmp 6), 3, "", #[], some (26, false)⟩, ⟨some 28, .binOp .gtr 3 (.tmp 27) (.const (.int .i64 3)) 3, 4, "", #[], some (26, false)⟩, o 29 (.pick (.tmp 26) (.const (.bool true)) (.tmp 28)) 4, o 23 (.assign (.tmp 29)) 4] false)
 (.cond (.tmp 23)
 (.seq (.region 8 #[o 2 (.assign (.const (.int .i64 0))) 3, o 3 (.assign (.const (.int .i64 0))) 3, o 4 (.assign (.const (.int .i64 10))) 34] false)
 .ret)
 (.seq (.region 9 #[m 31 0 22, o 32 (.call { callee := .builtin .len, args := #[.tmp 31], argTypes := #[22] }) 3, m 33 6 3, o 34 (.binOp .leq 3 (.tmp 32) (.tmp 33) 3) 4, o 30 (.assign (.tmp 34)) 4] false)
 (.cond (.tmp 30)
 (.seq (.region 10 #[o 2 (.assign (.const (.int .i64 0))) 3, o 3 (.assign (.const (.int .i64 0))) 3, o 4 (.assign (.const (.int .i64 7))) 34] false)
 .ret)
 .skip)))))
 (.seq (.region 11 #[m 35 6 3, o 36 (.binOp .sub 3 (.const (.int .i64 3)) (.tmp 35) 3) 3, o 37 (.slice 158 (.tmp 5) (some (.tmp 36)) none none) 22, m 38 0 22, o 39 (.slice 22 (.tmp 38) (some (.const (.int .i64 1))) none none) 22, o 40 (.call { callee := .builtin .copy, args := #[.tmp 37, .tmp 39], argTypes := #[22, 22] }) 3] true)
 (.seq (.region 12 #[o 41 (.indexAddr 158 (.tmp 5) (.const (.int .i64 0))) 0, o 42 (.load 5 (.tmp 41)) 5, o 43 (.convert 5 3 (.tmp 42)) 3, o 44 (.binOp .shl 3 (.tmp 43) (.const (.int .u64 16)) 151) 3, o 45 (.indexAddr 158 (.tmp 5) (.const (.int .i64 1))) 0, o 46 (.load 5 (.tmp 45)) 5, o 47 (.convert 5 3 (.tmp 46)) 3, o 48 (.binOp .shl 3 (.tmp 47) (.const (.int .u64 8)) 151) 3, o 49 (.binOp .or 3 (.tmp 44) (.tmp 48) 3) 3, o 50 (.indexAddr 158 (.tmp 5) (.const (.int .i64 2))) 0, o 51 (.load 5 (.tmp 50)) 5, o 52 (.convert 5 3 (.tmp 51)) 3, o 53 (.binOp .or 3 (.tmp 49) (.tmp 52) 3) 3, o 2 (.assign (.tmp 53)) 3] false)
 (.seq (.seq (.region 13 #[m 54 0 22, o 55 (.indexAddr 22 (.tmp 54) (.const (.int .i64 1))) 0, o 56 (.load 5 (.tmp 55)) 5, o 57 (.binOp .eql 5 (.tmp 56) (.const (.int .u8 0)) 5) 4, m 58 57 4, ⟨some 59, .move (.tmp 2), 3, "", #[], some (58, false)⟩, ⟨some 60, .binOp .leq 3 (.tmp 59) (.const (.int .i64 127)) 3, 4, "", #[], some (58, false)⟩, o 61 (.pick (.tmp 58) (.const (.bool true)) (.tmp 60)) 4] false)
 (.cond (.tmp 61)
 (.seq (.region 14 #[o 2 (.assign (.const (.int .i64 0))) 3, o 3 (.assign (.const (.int .i64 0))) 3, o 4 (.assign (.const (.int .i64 10))) 34] false)
 .ret)
 .skip))
 (.seq (.region 15 #[m 62 2 3, m 63 6 3, o 64 (.binOp .add 3 (.tmp 63) (.const (.int .i64 1)) 3) 3, o 2 (.assign (.tmp 62)) 3, o 3 (.assign (.tmp 64)) 3, o 4 (.assign (.const (.int .i64 0))) 34] false)
 .ret))))))))))
def fn96 : AFn := { ntmps := 65, results := [.tmp 2, .tmp 3, .tmp 4], body := c96, keep := fun | 0 => some [0] | 1 => some [0, 9] | 2 => some [2, 3, 4] | 3 => some [0, 13] | 4 => some [2, 3, 4] | 5 => some [0, 5] | 6 => some [0, 5, 6] | 7 => some [0, 5, 6, 23] | 8 => some [2, 3, 4] | 9 => some [0, 5, 6, 30] | 10 => some [2, 3, 4] | 11 => some [0, 5, 6] | 12 => some [0, 2, 6] | 13 => some [2, 6, 61] | 14 => some [2, 3, 4] | 15 => some [2, 3, 4] | _ => none, head := fun  | _ => none, opn := fun _ => none, dyn := fun _ => [] }
def c97 : Code :=
  (.seq (.region 0 #[o 2 (.assign (.const (.slice none 0 0))) 22] false)
 (.seq (.region 1 #[m 3 0 22, m 4 0 22, o 5 (.call { callee := .builtin .len, args := #[.tmp 4], argTypes := #[22] }) 3, m 6 0 22, o 7 (.call { callee := .builtin .len, args := #[.tmp 6], argTypes := #[22] }) 3, o 8 (.slice 22 (.tmp 3) none (some (.tmp 5)) (some (.tmp 7))) 22, o 2 (.assign (.tmp 8)) 22] false)
 .ret))
def fn97 : AFn := { ntmps := 9, results := [.tmp 2], body := c97, keep := fun | 0 => some [0] | 1 => some [2] | _ => none, head := fun  | _ => none, opn := fun _ => none, dyn := fun _ => [] }
def c98 : Code :=
  (.seq (.region 0 #[o 2 (.assign (.const (.slice none 0 0))) 22] false)
 (.seq (.seq (.region 1 #[m 3 0 22, o 4 (.binOp .eql 22 (.tmp 3) (.const (.slice none 0 0)) 22) 4] false)
 (.cond (.tmp 4)
 (.seq (.region 2 #[o 2 (.assign (.const (.slice none 0 0))) 22] false)
 .ret)
 .skip))
 (.seq (.region 3 #[o 5 (.buildSlice 22 0 #[]) 22, m 6 0 22, o 7 (.call { callee := .builtin .append, args := #[.tmp 5, .tmp 6], argTypes := #[22, 22] }) 22, o 2 (.assign (.tmp 7)) 22] false)
 .ret)))
def fn98 : AFn := { ntmps := 8, results := [.tmp 2], body := c98, keep := fun | 0 => some [0] | 1 => some [0, 4] | 2 => some [2] | 3 => some [2] | _ => none, head := fun  | _ => none, opn := fun _ => none, dyn := fun _ => [] }
def c99 : Code :=
  (.seq (.region 0 #[o 2 (.assign (.const (.slice none 0 0))) 28] false)
 (.seq (.region 1 #[m 3 0 28, m 4 0 28, o 5 (.call { callee := .builtin .len, args := #[.tmp 4], argTypes := #[28] }) 3, m 6 0 28, o 7 (.call { callee := .builtin .len, args := #[.tmp 6], argTypes := #[28] }) 3, o 8 (.slice 28 (.tmp 3) none (some (.tmp 5)) (some (.tmp 7))) 28, o 2 (.assign (.tmp 8)) 28] false)
 .ret))
def fn99 : AFn := { ntmps := 9, results := [.tmp 2], body := c99, keep := fun | 0 => some [0] | 1 => some [2] | _ => none, head := fun  | _ => none, opn := fun _ => none, dyn := fun _ => [] }
def c100 : Code :=
  (.seq (.region 0 #[o 2 (.box 30 (.tmp 0)) 0, o 3 (.box 145 (.tmp 1)) 0, o 4 (.assign (.const (.int .i64 0))) 34] false)
 (.seq (.region 1 #[o 5 (.alloc 145) 0] false)
 (.seq (.region 2 #[o 6 (.makeFunc (.func 113) #[] #[.tmp 3, .tmp 5]) 145, ⟨none, .store 145 (.tmp 5) (.tmp 6), 0, "", #[], none⟩] false)
 (.seq (.region 3 #[o 7 (.load 145 (.tmp 5)) 145, o 8 (.load 30 (.tmp 2)) 30, o 9 (.call { callee := .value (.tmp 7), args := #[.tmp 8, .const (.int .i64 1)], argTypes := #[30, 3] }) 34, o 4 (.assign (.tmp 9)) 34] false)
 .ret))))
def fn100 : AFn := { ntmps := 10, results := [.tmp 4], body := c100, keep := fun | 0 => some [2, 3] | 1 => some [2, 3, 5] | 2 => some [2, 5] | 3 => some [4] | _ => none, head := fun  | _ => none, opn := opnT, dyn := fun _ => [] }
def c101 : Code :=
  (.seq (.region 0 #[o 4 (.box 30 (.tmp 0)) 0, o 6 (.assign (.const (.int .i64 0))) 34] false)
 (.seq (.seq (.region 1 #[o 8 (.fieldAddr 30 (.tmp 4) 0) 0, o 9 (.load 27 (.tmp 8)) 27, o 10 (.call { callee := .value (.func 102), args := #[.tmp 9], argTypes := #[27] }) 34, o 7 (.assign (.tmp 10)) 34] false)
 (.seq (.region 2 #[m 11 7 34, o 12 (.binOp .neq 34 (.tmp 11) (.const (.int .i64 0)) 34) 4] false)
 (.cond (.tmp 12)
 (.seq (.region 3 #[m 13 7 34, o 6 (.assign (.tmp 13)) 34] false)
 .ret)
 .skip)))
 (.seq (.block 0 (.seq (.region 4 #[o 15 (.fieldAddr 30 (.tmp 4) 0) 0, o 16 (.fieldAddr 27 (.tmp 15) 1) 0, o 17 (.load 4 (.tmp 16)) 4, m 18 17 4, ⟨some 19, .fieldAddr 30 (.tmp 4) 1, 0, "", #[], some (18, true)⟩, ⟨some 20, .load 22 (.tmp 19), 22, "", #[], some (18, true)⟩, ⟨some 21, .call { callee := .builtin .len, args := #[.tmp 20], argTypes := #[22] }, 3, "", #[], some (18, true)⟩, ⟨some 22, .binOp .gtr 3 (.tmp 21) (.const (.int .i64 0)) 3, 4, "", #[], some (18, true)⟩, o 23 (.pick (.tmp 18) (.tmp 22) (.const (.bool false))) 4, m 24 23 4, ⟨some 25, .fieldAddr 30 (.tmp 4) 0, 0, "", #[], some (24, false)⟩, ⟨some 26, .fieldAddr 27 (.tmp 25) 1, 0, "", #[], some (24, false)⟩, ⟨some 27, .load 4 (.tmp 26), 4, "", #[], some (24, false)⟩, ⟨some 28, .unOp .not 4 (.tmp 27), 4, "", #[], some (24, false)⟩, ⟨some 29, .move (.tmp 28), 4, "", #[], some (24, false)⟩, ⟨some 30, .fieldAddr 30 (.tmp 4) 2, 0, "", #[], some (29, true)⟩, ⟨some 31, .load 28 (.tmp 30), 28, "", #[], some (29, true)⟩, ⟨some 32, .call { callee := .builtin .len, args := #[.tmp 31], argTypes := #[28] }, 3, "", #[], some (29, true)⟩, ⟨some 33, .binOp .gtr 3 (.tmp 32) (.const (.int .i64 0)) 3, 4, "", #[], some (29, true)⟩, ⟨some 34, .pick (.tmp 29) (.tmp 33) (.const (.bool false)), 4, "", #[], some (24, false)⟩, o 35 (.pick (.tmp 24) (.const (.bool true)) (.tmp 34)) 4, o 14 (.assign (.tmp 35)) 4] false)
 (.cond (.tmp 14)
 (.seq (.region 5 #[o 6 (.assign (.const (.int .i64 1))) 34] false)
 .ret)
 (.seq (.region 6 #[m 37 1 3, o 38 (.binOp .gtr 3 (.tmp 37) (.const (.int .i64 16)) 3) 4, o 36 (.assign (.tmp 38)) 4] false)
 (.cond (.tmp 36)
 (.seq (.region 7 #[o 6 (.assign (.const (.int .i64 12))) 34] false)
 .ret)
 (.seq (.region 8 #[o 40 (.load 3 (.tmp 2)) 3, o 41 (.binOp .eql 3 (.tmp 40) (.const (.int .i64 8192)) 3) 4, o 39 (.assign (.tmp 41)) 4] false)
 (.cond (.tmp 39)
 (.seq (.region 9 #[o 6 (.assign (.const (.int .i64 3))) 34] false)
 .ret)
 .skip)))))))
 (.seq (.region 10 #[o 42 (.load 3 (.tmp 2)) 3, o 43 (.binOp .add 3 (.tmp 42) (.const (.int .i64 1)) 3) 3, ⟨none, .store 3 (.tmp 2) (.tmp 43), 0, "", #[], none⟩] false)
 (.seq (.region 11 #[o 44 (.load 3 (.tmp 3)) 3, m 45 1 3, o 46 (.call { callee := .builtin .max, args := #[.tmp 44, .tmp 45], argTypes := #[3, 3] }) 3, ⟨none, .store 3 (.tmp 3) (.tmp 46), 0, "", #[], none⟩] false)
 (.seq (.region 12 #[o 6 (.assign (.const (.int .i64 0))) 34] false)
 .ret))))))
def fn101 : AFn := { ntmps := 47, results := [.tmp 6], body := c101, keep := fun | 0 => some [1, 2, 3, 4] | 1 => some [1, 2, 3, 4, 7] | 2 => some [1, 2, 3, 4, 7, 12] | 3 => some [6] | 4 => some [1, 2, 3, 14] | 5 => some [6] | 6 => some [1, 2, 3, 36] | 7 => some [6] | 8 => some [1, 2, 3, 39] | 9 => some [6] | 10 => some [1, 3] | 11 => some [] | 12 => some [6] | _ => none, head := fun  | _ => none, opn := fun _ => none, dyn := fun _ => [] }
def c102 : Code :=
  (.seq (.region 0 #[o 1 (.box 27 (.tmp 0)) 0, o 2 (.assign (.const (.int .i64 0))) 34] false)
 (.seq (.seq (.region 1 #[o 3 (.fieldAddr 27 (.tmp 1) 0) 0, o 4 (.load 24 (.tmp 3)) 24, o 5 (.binOp .gtr 24 (.tmp 4) (.const (.int .u8 3)) 24) 4, m 6 5 4, ⟨some 7, .fieldAddr 27 (.tmp 1) 2, 0, "", #[], some (6, false)⟩, ⟨some 8, .load 25 (.tmp 7), 25, "", #[], some (6, false)⟩, ⟨some 9, .binOp .gtr 25 (.tmp 8) (.const (.int .u32 268435455)) 25, 4, "", #[], some (6, false)⟩, o 10 (.pick (.tmp 6) (.const (.bool true)) (.tmp 9)) 4] false)
 (.cond (.tmp 10)
 (.seq (.region 2 #[o 2 (.assign (.const (.int .i64 1))) 34] false)
 .ret)
 .skip))
 (.seq (.seq (.region 3 #[o 11 (.fieldAddr 27 (.tmp 1) 0) 0, o 12 (.load 24 (.tmp 11)) 24, o 13 (.binOp .neq 24 (.tmp 12) (.const (.int .u8 0)) 24) 4] false)
 (.cond (.tmp 13)
 (.seq (.region 4 #[o 2 (.assign (.const (.int .i64 0))) 34] false)
 .ret)
 .skip))
 (.seq (.seq (.region 5 #[o 14 (.fieldAddr 27 (.tmp 1) 2) 0, o 15 (.load 25 (.tmp 14)) 25] false)
 (.block 0 (.seq (.region 6 #[o 17 (.binOp .eql 25 (.tmp 15) (.const (.int .u32 0)) 25) 4, o 16 (.assign (.tmp 17)) 4] false)
 (.cond (.tmp 16)
 (.seq (.region 7 #[o 2 (.assign (.const (.int .i64 9))) 34] false)
 .ret)
 (.seq (.seq (.region 8 #[o 19 (.binOp .eql 25 (.tmp 15) (.const (.int .u32 16)) 25) 4, o 18 (.assign (.tmp 19)) 4] false)
 (.cond (.tmp 18)
 .skip
 (.region 9 #[o 20 (.binOp .eql 25 (.tmp 15) (.const (.int .u32 17)) 25) 4, o 18 (.assign (.tmp 20)) 4] false)))
 (.cond (.tmp 18)
 (.seq (.region 10 #[o 21 (.fieldAddr 27 (.tmp 1) 1) 0, o 22 (.load 4 (.tmp 21)) 4, o 23 (.unOp .not 4 (.tmp 22)) 4] false)
 (.cond (.tmp 23)
 (.seq (.region 11 #[o 2 (.assign (.const (.int .i64 9))) 34] false)
 .ret)
 .skip))
 .skip))))))
 (.seq (.region 12 #[o 2 (.assign (.const (.int .i64 0))) 34] false)
 .ret)))))
def fn102 : AFn := { ntmps := 24, results := [.tmp 2], body := c102, keep := fun | 0 => some [1] | 1 => some [1, 10] | 2 => some [2] | 3 => some [1, 13] | 4 => some [2] | 5 => some [1, 15] | 6 => some [1, 15, 16] | 7 => some [2] | 8 => some [1, 15, 18] | 9 => some [1, 18] | 10 => some [23] | 11 => some [2] | 12 => some [2] | _ => none, head := fun  | _ => none, opn := fun _ => none, dyn := fun _ => [] }
def c103 : Code :=
  (.seq (.region 0 #[o 2 (.assign (.const (.slice none 0 0))) 22] false)
 (.seq (.region 1 #[m 4 0 3, o 5 (.binOp .rem 3 (.tmp 4) (.const (.int .i64 128)) 3) 3, o 6 (.convert 3 5 (.tmp 5)) 5, o 7 (.buildSlice 22 1 #[(0, .tmp 6)]) 22, o 3 (.assign (.tmp 7)) 22] false)
 (.seq (.seq (.region 2 #[m 8 0 3, o 9 (.binOp .quo 3 (.tmp 8) (.const (.int .i64 128)) 3) 3, o 0 (.assign (.tmp 9)) 3] false)
 (.block 0 (.loop (.seq (.seq (.region 3 #[m 10 0 3, o 11 (.binOp .gtr 3 (.tmp 10) (.const (.int .i64 0)) 3) 4] false)
 (.cond (.tmp 11)
 .skip
 (.exit 0)))
 (.seq (.block 1 (.region 5 #[m 14 0 3, o 15 (.binOp .rem 3 (.tmp 14) (.const (.int .i64 128)) 3) 3, o 16 (.binOp .add 3 (.const (.int .i64 128)) (.tmp 15) 3) 3, o 17 (.convert 3 5 (.tmp 16)) 5, o 18 (.buildSlice 22 1 #[(0, .tmp 17)]) 22, m 19 3 22, o 20 (.call { callee := .builtin .append, args := #[.tmp 18, .tmp 19], argTypes := #[22, 22] }) 22, o 3 (.assign (.tmp 20)) 22] false))
 (.region 4 #[m 12 0 3, o 13 (.binOp .quo 3 (.tmp 12) (.const (.int .i64 128)) 3) 3, o 0 (.assign (.tmp 13)) 3] false))))))
 (.seq (.region 6 #[m 21 3 22, o 2 (.assign (.tmp 21)) 22] false)
 .ret))))
def fn103 : AFn := { ntmps := 22, results := [.tmp 2], body := c103, keep := fun | 0 => some [0] | 1 => some [0, 3] | 2 => some [0, 3] | 3 => some [0, 3, 11] | 4 => some [0, 3] | 5 => some [0, 3] | 6 => some [2] | _ => none, head := fun | 3 => some [0, 3] | _ => none, opn := fun _ => none, dyn := fun _ => [] }
def c104 : Code :=
  (.seq (.region 0 #[o 4 (.assign (.const (.bool false))) 4] false)
 (.seq (.region 1 #[m 5 0 22, o 6 (.convert 22 9 (.tmp 5)) 9, m 7 1 22, o 8 (.convert 22 9 (.tmp 7)) 9, o 9 (.binOp .eql 9 (.tmp 6) (.tmp 8) 9) 4, o 4 (.assign (.tmp 9)) 4] false)
 .ret))
def fn104 : AFn := { ntmps := 10, results := [.tmp 4], body := c104, keep := fun | 0 => some [0, 1] | 1 => some [4] | _ => none, head := fun  | _ => none, opn := fun _ => none, dyn := fun _ => [] }
def c105 : Code :=
  (.seq (.region 0 #[o 6 (.assign (.const (.bool false))) 4] false)
 (.seq (.seq (.region 1 #[m 10 0 28, o 11 (.call { callee := .builtin .len, args := #[.tmp 10], argTypes := #[28] }) 3, m 12 1 28, o 13 (.call { callee := .builtin .len, args := #[.tmp 12], argTypes := #[28] }) 3, o 14 (.binOp .neq 3 (.tmp 11) (.tmp 13) 3) 4] false)
 (.cond (.tmp 14)
 (.seq (.region 2 #[o 6 (.assign (.const (.bool false))) 4] false)
 .ret)
 .skip))
 (.seq (.seq (.region 3 #[m 15 0 28, o 16 (.call { callee := .builtin .len, args := #[.tmp 15], argTypes := #[28] }) 3, o 17 (.move (.const (.int .i64 0))) 3] false)
 (.block 0 (.loop (.seq (.region 4 #[o 18 (.binOp .lss 3 (.tmp 17) (.tmp 16) 3) 0] false)
 (.seq (.cond (.tmp 18)
 .skip
 (.exit 0))
 (.seq (.block 1 (.seq (.region 5 #[m 19 17 3, o 20 (.indexAddr 28 (.tmp 15) (.tmp 17)) 0, o 21 (.load 30 (.tmp 20)) 30, o 8 (.alloc 30) 0, o 7 (.assign (.tmp 19)) 3, ⟨none, .store 30 (.tmp 8) (.tmp 21), 0, "", #[], none⟩] false)
 (.seq (.region 6 #[m 22 1 28, m 23 7 3, o 24 (.indexAddr 28 (.tmp 22) (.tmp 23)) 0, o 25 (.load 30 (.tmp 24)) 30, o 9 (.alloc 30) 0, ⟨none, .store 30 (.tmp 9) (.tmp 25), 0, "", #[], none⟩] false)
 (.seq (.region 7 #[m 26 2 45, o 27 (.load 30 (.tmp 8)) 30, o 28 (.load 30 (.tmp 9)) 30, o 29 (.call { callee := .value (.tmp 26), args := #[.tmp 27, .tmp 28], argTypes := #[30, 30] }) 4, o 30 (.unOp .not 4 (.tmp 29)) 4] false)
 (.cond (.tmp 30)
 (.seq (.region 8 #[o 6 (.assign (.const (.bool false))) 4] false)
 .ret)
 .skip)))))
 (.region 9 #[o 31 (.binOp .add 3 (.tmp 17) (.const (.int .i64 1)) 3) 3, m 17 31 3] false)))))))
 (.seq (.region 10 #[o 6 (.assign (.const (.bool true))) 4] false)
 .ret))))
def fn105 : AFn := { ntmps := 32, results := [.tmp 6], body := c105, keep := fun | 0 => some [0, 1, 2] | 1 => some [0, 1, 2, 14] | 2 => some [6] | 3 => some [1, 2, 15, 16, 17] | 4 => some [1, 2, 15, 16, 17, 18] | 5 => some [1, 2, 7, 8, 15, 16, 17] | 6 => some [1, 2, 8, 9, 15, 16, 17] | 7 => some [1, 2, 15, 16, 17, 30] | 8 => some [6] | 9 => some [1, 2, 15, 16, 17] | 10 => some [6] | _ => none, head := fun | 4 => some [1, 2, 15, 16, 17] | _ => none, opn := opnT, dyn := fun _ => [] }
def c107 : Code :=
  (.seq (.region 0 #[o 2 (.assign (.const (.slice none 0 0))) 47] false)
 (.seq (.region 1 #[m 3 0 47, m 4 0 47, o 5 (.call { callee := .builtin .len, args := #[.tmp 4], argTypes := #[47] }) 3, m 6 0 47, o 7 (.call { callee := .builtin .len, args := #[.tmp 6], argTypes := #[47] }) 3, o 8 (.slice 47 (.tmp 3) none (some (.tmp 5)) (some (.tmp 7))) 47, o 2 (.assign (.tmp 8)) 47] false)
 .ret))
def fn107 : AFn := { ntmps := 9, results := [.tmp 2], body := c107, keep := fun | 0 => some [0] | 1 => some [2] | _ => none, head := fun  | _ => none, opn := fun _ => none, dyn := fun _ => [] }
def c108 : Code :=
  (.seq (.region 0 #[o 2 (.assign (.const (.slice none 0 0))) 22] false)
 (.seq (.region 1 #[m 4 0 25, o 5 (.binOp .rem 25 (.tmp 4) (.const (.int .u32 128)) 25) 25, o 6 (.convert 25 5 (.tmp 5)) 5, o 7 (.buildSlice 22 1 #[(0, .tmp 6)]) 22, o 3 (.assign (.tmp 7)) 22] false)
 (.seq (.seq (.region 2 #[m 8 0 25, o 9 (.binOp .quo 25 (.tmp 8) (.const (.int .u32 128)) 25) 25, o 0 (.assign (.tmp 9)) 25] false)
 (.block 0 (.loop (.seq (.seq (.region 3 #[m 10 0 25, o 11 (.binOp .gtr 25 (.tmp 10) (.const (.int .u32 0)) 25) 4] false)
 (.cond (.tmp 11)
 .skip
 (.exit 0)))
 (.seq (.block 1 (.region 5 #[m 14 0 25, o 15 (.binOp .rem 25 (.tmp 14) (.const (.int .u32 128)) 25) 25, o 16 (.binOp .add 25 (.const (.int .u32 128)) (.tmp 15) 25) 25, o 17 (.convert 25 5 (.tmp 16)) 5, o 18 (.buildSlice 22 1 #[(0, .tmp 17)]) 22, m 19 3 22, o 20 (.call { callee := .builtin .append, args := #[.tmp 18, .tmp 19], argTypes := #[22, 22] }) 22, o 3 (.assign (.tmp 20)) 22] false))
 (.region 4 #[m 12 0 25, o 13 (.binOp .quo 25 (.tmp 12) (.const (.int .u32 128)) 25) 25, o 0 (.assign (.tmp 13)) 25] false))))))
 (.seq (.region 6 #[m 21 3 22, o 2 (.assign (.tmp 21)) 22] false)
 .ret))))
def fn108 : AFn := { ntmps := 22, results := [.tmp 2], body := c108, keep := fun | 0 => some [0] | 1 => some [0, 3] | 2 => some [0, 3] | 3 => some [0, 3, 11] | 4 => some [0, 3] | 5 => some [0, 3] | 6 => some [2] | _ => none, head := fun | 3 => some [0, 3] | _ => none, opn := fun _ => none, dyn := fun _ => [] }
def c110 : Code :=
  (.seq (.region 0 #[o 2 (.assign (.const (.int .i64 0))) 3] false)
 (.seq (.region 1 #[m 6 0 3, o 7 (.call { callee := .value (.func 94), args := #[.tmp 6], argTypes := #[3] }) 35, m 5 7 35, o 8 (.extract (.tmp 5) 0) 22, o 9 (.extract (.tmp 5) 1) 34, o 3 (.assign (.tmp 8)) 22, o 4 (.assign (.tmp 9)) 34] false)
 (.seq (.region 2 #[m 10 3 22, o 11 (.call { callee := .builtin .len, args := #[.tmp 10], argTypes := #[22] }) 3, o 2 (.assign (.tmp 11)) 3] false)
 .ret)))
def fn110 : AFn := { ntmps := 12, results := [.tmp 2], body := c110, keep := fun | 0 => some [0] | 1 => some [3] | 2 => some [2] | _ => none, head := fun  | _ => none, opn := fun _ => none, dyn := fun _ => [] }
def c111 : Code :=
  (.seq (.region 0 #[o 1 (.box 25 (.tmp 0)) 0, o 2 (.assign (.const .nilFunc)) 153] false)
 (.seq (.region 1 #[o 3 (.makeFunc (.func 114) #[] #[.tmp 1]) 152, o 2 (.assign (.tmp 3)) 153] false)
 .ret))
def fn111 : AFn := { ntmps := 4, results := [.tmp 2], body := c111, keep := fun | 0 => some [1] | 1 => some [2] | _ => none, head := fun  | _ => none, opn := fun _ => none, dyn := fun _ => [] }
def c112 : Code :=
  (.seq (.region 0 #[o 2 (.assign (.const (.int .u32 0))) 25, o 3 (.assign (.const (.int .i64 0))) 3, o 4 (.assign (.const (.int .i64 0))) 34] false)
 (.seq (.seq (.region 1 #[o 3 (.assign (.const (.int .i64 1))) 3] false)
 (.block 0 (.loop (.seq (.block 1 (.seq (.seq (.region 3 #[m 8 3 3, m 9 0 22, o 10 (.call { callee := .builtin .len, args := #[.tmp 9], argTypes := #[22] }) 3, o 11 (.binOp .eql 3 (.tmp 8) (.tmp 10) 3) 4] false)
 (.cond (.tmp 11)
 (.seq (.region 4 #[o 2 (.assign (.const (.int .u32 0))) 25, o 3 (.assign (.const (.int .i64 0))) 3, o 4 (.assign (.const (.int .i64 7))) 34] false)
 .ret)
 .skip))
 (.seq (.region 5 #[m 12 0 22, m 13 3 3, o 14 (.indexAddr 22 (.tmp 12) (.tmp 13)) 0, o 15 (.load 5 (.tmp 14)) 5, o 5 (.assign (.tmp 15)) 5] false)
 (.seq (.seq (.region 6 #[m 16 3 3, o 17 (.binOp .eql 3 (.tmp 16) (.const (.int .i64 1)) 3) 4, m 18 17 4, ⟨some 19, .move (.tmp 5), 5, "", #[], some (18, true)⟩, ⟨some 20, .binOp .eql 5 (.tmp 19) (.const (.int .u8 128)) 5, 4, "", #[], some (18, true)⟩, o 21 (.pick (.tmp 18) (.tmp 20) (.const (.bool false))) 4, m 22 21 4, ⟨some 23, .move (.tmp 3), 3, "", #[], some (22, false)⟩, ⟨some 24, .binOp .eql 3 (.tmp 23) (.const (.int .i64 4)) 3, 4, "", #[], some (22, false)⟩, ⟨some 25, .move (.tmp 24), 4, "", #[], some (22, false)⟩, ⟨some 26, .move (.tmp 5), 5, "", #[], some (25, true)⟩, ⟨some 27, .binOp .geq 5 (.tmp 26) (.const (.int .u8 128)) 5, 4, "", #[], some (25, true)⟩, ⟨some 28, .pick (.tmp 25) (.tmp 27) (.const (.bool false)), 4, "", #[], some (22, false)⟩, o 29 (.pick (.tmp 22) (.const (.bool true)) (.tmp 28)) 4] false)
 (.cond (.tmp 29)
 (.seq (.region 7 #[o 2 (.assign (.const (.int .u32 0))) 25, o 3 (.assign (.const (.int .i64 0))) 3, o 4 (.assign (.const (.int .i64 9))) 34] false)
 .ret)
 .skip))
 (.seq (.region 8 #[m 30 2 25, o 31 (.binOp .shl 25 (.tmp 30) (.const (.int .u64 7)) 151) 25, m 32 5 5, o 33 (.binOp .and 5 (.tmp 32) (.const (.int .u8 127)) 5) 5, o 34 (.convert 5 25 (.tmp 33)) 25, o 35 (.binOp .or 25 (.tmp 31) (.tmp 34) 25) 25, o 2 (.assign (.tmp 35)) 25] false)
 (.seq (.region 9 #[m 36 5 5, o 37 (.binOp .lss 5 (.tmp 36) (.const (.int .u8 128)) 5) 4] false)
 (.cond (.tmp 37)
 (.exit 0)
 .skip)))))))
 (.region 2 #[m 6 3 3, o 7 (.binOp .add 3 (.tmp 6) (.const (.int .i64 1)) 3) 3, o 3 (.assign (.tmp 7)) 3] false)))))
 (.seq (.seq (.region 10 #[m 38 2 25, o 39 (.binOp .lss 25 (.tmp 38) (.const (.int .u32 31)) 25) 4] false)
 (.cond (.tmp 39)
 (.seq (.region 11 #[o 2 (.assign (.const (.int .u32 0))) 25, o 3 (.assign (.const (.int .i64 0))) 3, o 4 (.assign (.const (.int .i64 9))) 34] false)
 .ret)
 .skip))
 (.seq (.region 12 #[m 40 2 25, m 41 3 3, o 42 (.binOp .add 3 (.tmp 41) (.const (.int .i64 1)) 3) 3, o 2 (.assign (.tmp 40)) 25, o 3 (.assign (.tmp 42)) 3, o 4 (.assign (.const (.int .i64 0))) 34] false)
 .ret))))
def fn112 : AFn := { ntmps := 43, results := [.tmp 2, .tmp 3, .tmp 4], body := c112, keep := fun | 0 => some [0, 2] | 1 => some [0, 2, 3] | 2 => some [0, 2, 3] | 3 => some [0, 2, 3, 11] | 4 => some [2, 3, 4] | 5 => some [0, 2, 3, 5] | 6 => some [0, 2, 3, 5, 29] | 7 => some [2, 3, 4] | 8 => some [0, 2, 3, 5] | 9 => some [0, 2, 3, 37] | 10 => some [2, 3, 39] | 11 => some [2, 3, 4] | 12 => some [2, 3, 4] | _ => none, head := fun | 3 => some [0, 2, 3] | _ => none, opn := fun _ => none, dyn := fun _ => [] }
def c113 : Code :=
  (.seq (.region 0 #[o 4 (.box 30 (.tmp 0)) 0, o 6 (.assign (.const (.int .i64 0))) 34] false)
 (.seq (.seq (.region 1 #[o 11 (.load 145 (.tmp 2)) 145, o 12 (.load 30 (.tmp 4)) 30, m 13 1 3, o 14 (.call { callee := .value (.tmp 11), args := #[.tmp 12, .tmp 13], argTypes := #[30, 3] }) 34, o 7 (.assign (.tmp 14)) 34] false)
 (.seq (.region 2 #[m 15 7 34, o 16 (.binOp .neq 34 (.tmp 15) (.const (.int .i64 0)) 34) 4] false)
 (.cond (.tmp 16)
 (.seq (.region 3 #[m 17 7 34, o 6 (.assign (.tmp 17)) 34] false)
 .ret)
 .skip)))
 (.seq (.seq (.region 4 #[o 18 (.fieldAddr 30 (.tmp 4) 2) 0, o 19 (.load 28 (.tmp 18)) 28, o 20 (.call { callee := .builtin .len, args := #[.tmp 19], argTypes := #[28] }) 3, o 21 (.move (.const (.int .i64 0))) 3] false)
 (.block 0 (.loop (.seq (.region 5 #[o 22 (.binOp .lss 3 (.tmp 21) (.tmp 20) 3) 0] false)
 (.seq (.cond (.tmp 22)
 .skip
 (.exit 0))
 (.seq (.block 1 (.seq (.region 6 #[o 23 (.indexAddr 28 (.tmp 19) (.tmp 21)) 0, o 24 (.load 30 (.tmp 23)) 30, o 9 (.alloc 30) 0, ⟨none, .store 30 (.tmp 9) (.tmp 24), 0, "", #[], none⟩] false)
 (.seq (.region 7 #[o 25 (.load 145 (.tmp 3)) 145, o 26 (.load 30 (.tmp 9)) 30, m 27 1 3, o 28 (.binOp .add 3 (.tmp 27) (.const (.int .i64 1)) 3) 3, o 29 (.call { callee := .value (.tmp 25), args := #[.tmp 26, .tmp 28], argTypes := #[30, 3] }) 34, o 10 (.assign (.tmp 29)) 34] false)
 (.seq (.region 8 #[m 30 10 34, o 31 (.binOp .neq 34 (.tmp 30) (.const (.int .i64 0)) 34) 4] false)
 (.cond (.tmp 31)
 (.seq (.region 9 #[m 32 10 34, o 6 (.assign (.tmp 32)) 34] false)
 .ret)
 .skip)))))
 (.region 10 #[o 33 (.binOp .add 3 (.tmp 21) (.const (.int .i64 1)) 3) 3, m 21 33 3] false)))))))
 (.seq (.region 11 #[o 6 (.assign (.const (.int .i64 0))) 34] false)
 .ret))))
def fn113 : AFn := { ntmps := 34, results := [.tmp 6], body := c113, keep := fun | 0 => some [1, 2, 3, 4] | 1 => some [1, 3, 4, 7] | 2 => some [1, 3, 4, 7, 16] | 3 => some [6] | 4 => some [1, 3, 19, 20, 21] | 5 => some [1, 3, 19, 20, 21, 22] | 6 => some [1, 3, 9, 19, 20, 21] | 7 => some [1, 3, 10, 19, 20, 21] | 8 => some [1, 3, 10, 19, 20, 21, 31] | 9 => some [6] | 10 => some [1, 3, 19, 20, 21] | 11 => some [6] | _ => none, head := fun | 5 => some [1, 3, 19, 20, 21] | _ => none, opn := opnT, dyn := fun _ => [] }
def c114 : Code :=
  (.seq (.region 0 #[o 3 (.assign (.const (.int .i64 0))) 3] false)
 (.seq (.block 0 (.loop (.seq (.seq (.region 1 #[o 5 (.load 25 (.tmp 1)) 25, m 6 3 3, o 7 (.binOp .add 3 (.tmp 6) (.const (.int .i64 7)) 3) 3, o 8 (.binOp .shr 25 (.tmp 5) (.tmp 7) 3) 25, o 9 (.binOp .gtr 25 (.tmp 8) (.const (.int .u32 0)) 25) 4] false)
 (.cond (.tmp 9)
 .skip
 (.exit 0)))
 (.block 1 (.region 2 #[m 10 3 3, o 11 (.binOp .add 3 (.tmp 10) (.const (.int .i64 7)) 3) 3, o 3 (.assign (.tmp 11)) 3] false)))))
 (.block 2 (.loop (.seq (.seq (.region 3 #[m 12 3 3, o 13 (.binOp .geq 3 (.tmp 12) (.const (.int .i64 0)) 3) 4] false)
 (.cond (.tmp 13)
 .skip
 (.exit 2)))
 (.seq (.block 3 (.seq (.region 5 #[o 16 (.load 25 (.tmp 1)) 25, m 17 3 3, o 18 (.binOp .shr 25 (.tmp 16) (.tmp 17) 3) 25, o 19 (.convert 25 5 (.tmp 18)) 5, o 20 (.binOp .and 5 (.tmp 19) (.const (.int .u8 127)) 5) 5, o 4 (.assign (.tmp 20)) 5] false)
 (.seq (.seq (.region 6 #[m 21 3 3, o 22 (.binOp .gtr 3 (.tmp 21) (.const (.int .i64 0)) 3) 4] false)
 (.cond (.tmp 22)
 (.region 7 #[m 23 4 5, o 24 (.binOp .or 5 (.tmp 23) (.const (.int .u8 128)) 5) 5, o 4 (.assign (.tmp 24)) 5] false)
 .skip))
 (.seq (.region 8 #[m 25 0 159, m 26 4 5, o 27 (.call { callee := .value (.tmp 25), args := #[.tmp 26], argTypes := #[5] }) 4, o 28 (.unOp .not 4 (.tmp 27)) 4] false)
 (.cond (.tmp 28)
 .ret
 .skip)))))
 (.region 4 #[m 14 3 3, o 15 (.binOp .sub 3 (.tmp 14) (.const (.int .i64 7)) 3) 3, o 3 (.assign (.tmp 15)) 3] false)))))))
def fn114 : AFn := { ntmps := 29, results := [], body := c114, keep := fun | 0 => some [0, 1, 3] | 1 => some [0, 1, 3, 9] | 2 => some [0, 1, 3] | 3 => some [0, 1, 3, 13] | 4 => some [0, 1, 3] | 5 => some [0, 1, 3, 4] | 6 => some [0, 1, 3, 4, 22] | 7 => some [0, 1, 3, 4] | 8 => some [0, 1, 3, 28] | _ => none, head := fun | 1 => some [0, 1, 3] | 3 => some [0, 1, 3] | _ => none, opn := opnT, dyn := fun _ => [] }
def fnTab : List (Option AFn) := [none, none, none, none, none, none, none, none, some fn8, some fn9, none, none, some fn12, none, none, none, none, none, some fn18, none, some fn20, some fn21, some fn22, some fn23, some fn24, some fn25, some fn26, some fn27, some fn28, some fn29, some fn30, none, some fn32, none, some fn34, some fn35, some fn36, some fn37, some fn38, some fn39, some fn40, some fn41, some fn42, none, some fn44, some fn45, none, some fn47, some fn48, some fn49, some fn50, some fn51, some fn52, some fn53, some fn54, some fn55, some fn56, none, none, none, none, none, none, some fn63, none, none, none, some fn67, none, some fn69, some fn70, some fn71, some fn72, some fn73, some fn74, some fn75, some fn76, some fn77, some fn78, some fn79, some fn80, some fn81, some fn82, some fn83, some fn84, some fn85, none, some fn87, none, some fn89, some fn90, some fn91, some fn92, some fn93, some fn94, some fn95, some fn96, some fn97, some fn98, some fn99, some fn100, some fn101, some fn102, some fn103, some fn104, some fn105, none, some fn107, some fn108, none, some fn110, some fn111, some fn112, some fn113, some fn114]
def grdT : FuncId → Option Grd
  | 23 => some grd23
  | _ => none

def tyTab : List (Option TyI) := [
  none,
  some ⟨.func, 1, 8, [.nilf], false⟩,
  some ⟨.int .i64, 1, 8, [.int .i64 0], false⟩,
  some ⟨.int .i64, 1, 8, [.int .i64 0], false⟩,
  some ⟨.bool, 1, 1, [.bool false], false⟩,
  some ⟨.int .u8, 1, 1, [.int .u8 0], false⟩,
  some ⟨.int .u8, 1, 1, [.int .u8 0], false⟩,
  some ⟨.strct [(0, 2), (1, 3), (2, 4), (3, 6)], 4, 24, [.int .i64 0, .int .i64 0, .bool false, .int .u8 0], false⟩,
  some ⟨.strct [(0, 2), (1, 3), (2, 4), (3, 6)], 4, 24, [.int .i64 0, .int .i64 0, .bool false, .int .u8 0], false⟩,
  some ⟨.str, 1, 16, [.str []], false⟩,
  some ⟨.str, 1, 16, [.str []], false⟩,
  some ⟨.str, 1, 16, [.str []], false⟩,
  some ⟨.int .u64, 1, 8, [.int .u64 0], false⟩,
  some ⟨.strct [(0, 9), (1, 12)], 2, 24, [.str [], .int .u64 0], false⟩,
  some ⟨.strct [(0, 9), (1, 12)], 2, 24, [.str [], .int .u64 0], false⟩,
  some ⟨.ptr 162, 1, 8, [.nilp], false⟩,
  some ⟨.ptr 165, 1, 8, [.nilp], false⟩,
  some ⟨.ptr 174, 1, 8, [.nilp], false⟩,
  some ⟨.strct [(0, 17)], 1, 8, [.nilp], false⟩,
  some ⟨.strct [(0, 17)], 1, 8, [.nilp], false⟩,
  some ⟨.iface true, 1, 16, [.nili], false⟩,
  some ⟨.int .i32, 1, 4, [.int .i32 0], false⟩,
  some ⟨.slice 5, 1, 24, [.sl true [] (some 0)], false⟩,
  some ⟨.func, 1, 8, [.nilf], false⟩,
  some ⟨.int .u8, 1, 1, [.int .u8 0], false⟩,
  some ⟨.int .u32, 1, 4, [.int .u32 0], false⟩,
  some ⟨.strct [(0, 24), (1, 4), (2, 25)], 3, 8, [.int .u8 0, .bool false, .int .u32 0], false⟩,
  some ⟨.strct [(0, 24), (1, 4), (2, 25)], 3, 8, [.int .u8 0, .bool false, .int .u32 0], true⟩,
  some ⟨.slice 30, 1, 24, [.sl true [] (some 0)], false⟩,
  some ⟨.strct [(0, 27), (3, 22), (4, 28)], 5, 56, [.int .u8 0, .bool false, .int .u32 0, .sl true [] (some 0), .sl true [] (some 0)], false⟩,
  some ⟨.strct [(0, 27), (3, 22), (4, 28)], 5, 56, [.int .u8 0, .bool false, .int .u32 0, .sl true [] (some 0), .sl true [] (some 0)], false⟩,
  none,
  some ⟨.func, 1, 8, [.nilf], false⟩,
  some ⟨.func, 1, 8, [.nilf], false⟩,
  some ⟨.int .i64, 1, 8, [.int .i64 0], false⟩,
  none,
  some ⟨.func, 1, 8, [.nilf], false⟩,
  some ⟨.func, 1, 8, [.nilf], false⟩,
  some ⟨.slice 107, 1, 24, [.sl true [] (some 0)], false⟩,
  some ⟨.strct [(0, 38)], 1, 24, [.sl true [] (some 0)], false⟩,
  some ⟨.strct [(0, 38)], 1, 24, [.sl true [] (some 0)], false⟩,
  some ⟨.int .u16, 1, 2, [.int .u16 0], false⟩,
  some ⟨.func, 1, 8, [.nilf], false⟩,
  none,
  some ⟨.func, 1, 8, [.nilf], false⟩,
  some ⟨.func, 1, 8, [.nilf], false⟩,
  some ⟨.func, 1, 8, [.nilf], false⟩,
  some ⟨.slice 3, 1, 24, [.sl true [] (some 0)], false⟩,
  none,
  some ⟨.func, 1, 8, [.nilf], false⟩,
  some ⟨.func, 1, 8, [.nilf], false⟩,
  some ⟨.func, 1, 8, [.nilf], false⟩,
  some ⟨.func, 1, 8, [.nilf], false⟩,
  some ⟨.func, 1, 8, [.nilf], false⟩,
  some ⟨.func, 1, 8, [.nilf], false⟩,
  some ⟨.func, 1, 8, [.nilf], false⟩,
  none,
  some ⟨.func, 1, 8, [.nilf], false⟩,
  some ⟨.func, 1, 8, [.nilf], false⟩,
  some ⟨.func, 1, 8, [.nilf], false⟩,
  some ⟨.func, 1, 8, [.nilf], false⟩,
  some ⟨.func, 1, 8, [.nilf], false⟩,
  none,
  some ⟨.func, 1, 8, [.nilf], false⟩,
  some ⟨.strct [(0, 22)], 1, 24, [.sl true [] (some 0)], false⟩,
  some ⟨.strct [(0, 22)], 1, 24, [.sl true [] (some 0)], false⟩,
  some ⟨.slice 125, 1, 24, [.sl true [] (some 0)], false⟩,
  some ⟨.slice 78, 1, 24, [.sl true [] (some 0)], false⟩,
  some ⟨.func, 1, 8, [.nilf], false⟩,
  some ⟨.func, 1, 8, [.nilf], false⟩,
  some ⟨.strct [(0, 47), (1, 34)], 2, 32, [.sl true [] (some 0), .int .i64 0], false⟩,
  some ⟨.strct [(0, 47), (1, 34)], 2, 32, [.sl true [] (some 0), .int .i64 0], false⟩,
  none,
  some ⟨.func, 1, 8, [.nilf], false⟩,
  some ⟨.func, 1, 8, [.nilf], false⟩,
  some ⟨.func, 1, 8, [.nilf], false⟩,
  some ⟨.func, 1, 8, [.nilf], false⟩,
  some ⟨.strct [(0, 27), (3, 4), (4, 4)], 5, 12, [.int .u8 0, .bool false, .int .u32 0, .bool false, .bool false], false⟩,
  some ⟨.strct [(0, 27), (3, 4), (4, 4)], 5, 12, [.int .u8 0, .bool false, .int .u32 0, .bool false, .bool false], false⟩,
  some ⟨.func, 1, 8, [.nilf], false⟩,
  some ⟨.func, 1, 8, [.nilf], false⟩,
  some ⟨.func, 1, 8, [.nilf], false⟩,
  some ⟨.arr 2 3, 2, 16, [.int .i64 0, .int .i64 0], false⟩,
  some ⟨.func, 1, 8, [.nilf], false⟩,
  none,
  some ⟨.func, 1, 8, [.nilf], false⟩,
  some ⟨.func, 1, 8, [.nilf], false⟩,
  some ⟨.func, 1, 8, [.nilf], false⟩,
  some ⟨.func, 1, 8, [.nilf], false⟩,
  some ⟨.func, 1, 8, [.nilf], false⟩,
  some ⟨.func, 1, 8, [.nilf], false⟩,
  none,
  some ⟨.func, 1, 8, [.nilf], false⟩,
  some ⟨.func, 1, 8, [.nilf], false⟩,
  some ⟨.func, 1, 8, [.nilf], false⟩,
  some ⟨.func, 1, 8, [.nilf], false⟩,
  some ⟨.func, 1, 8, [.nilf], false⟩,
  some ⟨.ptr 3, 1, 8, [.nilp], false⟩,
  some ⟨.func, 1, 8, [.nilf], false⟩,
  some ⟨.func, 1, 8, [.nilf], false⟩,
  some ⟨.func, 1, 8, [.nilf], false⟩,
  none,
  some ⟨.func, 1, 8, [.nilf], false⟩,
  some ⟨.func, 1, 8, [.nilf], false⟩,
  some ⟨.strct [(0, 5), (1, 5), (2, 25)], 3, 8, [.int .u8 0, .int .u8 0, .int .u32 0], false⟩,
  some ⟨.strct [(0, 5), (1, 5), (2, 25)], 3, 8, [.int .u8 0, .int .u8 0, .int .u32 0], false⟩,
  some ⟨.strct [(0, 5), (1, 5), (2, 105), (5, 22)], 6, 40, [.int .u8 0, .int .u8 0, .int .u8 0, .int .u8 0, .int .u32 0, .sl true [] (some 0)], false⟩,
  some ⟨.strct [(0, 5), (1, 5), (2, 105), (5, 22)], 6, 40, [.int .u8 0, .int .u8 0, .int .u8 0, .int .u8 0, .int .u32 0, .sl true [] (some 0)], false⟩,
  some ⟨.func, 1, 8, [.nilf], false⟩,
  some ⟨.strct [(0, 3), (1, 34)], 2, 16, [.int .i64 0, .int .i64 0], false⟩,
  some ⟨.strct [(0, 3), (1, 34)], 2, 16, [.int .i64 0, .int .i64 0], false⟩,
  none,
  some ⟨.strct [(0, 22), (1, 3)], 2, 32, [.sl true [] (some 0), .int .i64 0], false⟩,
  some ⟨.strct [(0, 22), (1, 3)], 2, 32, [.sl true [] (some 0), .int .i64 0], false⟩,
  none,
  some ⟨.func, 1, 8, [.nilf], false⟩,
  none,
  some ⟨.func, 1, 8, [.nilf], false⟩,
  some ⟨.func, 1, 8, [.nilf], false⟩,
  some ⟨.func, 1, 8, [.nilf], false⟩,
  some ⟨.func, 1, 8, [.nilf], false⟩,
  some ⟨.func, 1, 8, [.nilf], false⟩,
  none,
  some ⟨.func, 1, 8, [.nilf], false⟩,
  some ⟨.strct [(0, 5), (1, 5)], 2, 2, [.int .u8 0, .int .u8 0], false⟩,
  some ⟨.strct [(0, 5), (1, 5)], 2, 2, [.int .u8 0, .int .u8 0], false⟩,
  some ⟨.func, 1, 8, [.nilf], false⟩,
  some ⟨.func, 1, 8, [.nilf], false⟩,
  some ⟨.func, 1, 8, [.nilf], false⟩,
  none,
  some ⟨.func, 1, 8, [.nilf], false⟩,
  none,
  some ⟨.func, 1, 8, [.nilf], false⟩,
  some ⟨.func, 1, 8, [.nilf], false⟩,
  some ⟨.func, 1, 8, [.nilf], false⟩,
  some ⟨.func, 1, 8, [.nilf], false⟩,
  some ⟨.ptr 113, 1, 8, [.nilp], false⟩,
  none,
  some ⟨.func, 1, 8, [.nilf], false⟩,
  none,
  some ⟨.func, 1, 8, [.nilf], false⟩,
  some ⟨.func, 1, 8, [.nilf], false⟩,
  some ⟨.func, 1, 8, [.nilf], false⟩,
  some ⟨.func, 1, 8, [.nilf], false⟩,
  some ⟨.func, 1, 8, [.nilf], false⟩,
  some ⟨.func, 1, 8, [.nilf], false⟩,
  some ⟨.func, 1, 8, [.nilf], false⟩,
  some ⟨.func, 1, 8, [.nilf], false⟩,
  some ⟨.func, 1, 8, [.nilf], false⟩,
  some ⟨.func, 1, 8, [.nilf], false⟩,
  some ⟨.func, 1, 8, [.nilf], false⟩,
  some ⟨.int .u64, 1, 8, [.int .u64 0], false⟩,
  some ⟨.func, 1, 8, [.nilf], false⟩,
  some ⟨.func, 1, 8, [.nilf], false⟩,
  some ⟨.func, 1, 8, [.nilf], false⟩,
  none,
  some ⟨.func, 1, 8, [.nilf], false⟩,
  some ⟨.arr 3 5, 3, 3, [.int .u8 0, .int .u8 0, .int .u8 0], false⟩,
  some ⟨.arr 3 5, 3, 3, [.int .u8 0, .int .u8 0, .int .u8 0], false⟩,
  some ⟨.func, 1, 8, [.nilf], false⟩,
  some ⟨.func, 1, 8, [.nilf], false⟩,
  some ⟨.strct [(0, 17), (1, 17), (2, 17), (3, 9)], 4, 40, [.nilp, .nilp, .nilp, .str []], false⟩,
  some ⟨.strct [(0, 17), (1, 17), (2, 17), (3, 9)], 4, 40, [.nilp, .nilp, .nilp, .str []], false⟩,
  some ⟨.arr 0 16, 0, 0, [], false⟩,
  some ⟨.strct [(0, 163)], 0, 0, [], false⟩,
  some ⟨.strct [(0, 163)], 0, 0, [], false⟩,
  some ⟨.func, 1, 8, [.nilf], false⟩,
  some ⟨.int .u8, 1, 1, [.int .u8 0], false⟩,
  some ⟨.int .u8, 1, 1, [.int .u8 0], false⟩,
  some ⟨.func, 1, 8, [.nilf], false⟩,
  some ⟨.ptr 5, 1, 8, [.nilp], false⟩,
  some ⟨.int .i32, 1, 4, [.int .i32 0], false⟩,
  some ⟨.int .i32, 1, 4, [.int .i32 0], false⟩,
  some ⟨.strct [(0, 12), (1, 12), (2, 25), (3, 167), (4, 5), (5, 5), (6, 168), (7, 169), (8, 170), (9, 171), (10, 172)], 11, 48, [.int .u64 0, .int .u64 0, .int .u32 0, .int .u8 0, .int .u8 0, .int .u8 0, .int .u8 0, .nilf, .nilp, .int .i32 0, .int .i32 0], false⟩,
  some ⟨.strct [(0, 12), (1, 12), (2, 25), (3, 167), (4, 5), (5, 5), (6, 168), (7, 169), (8, 170), (9, 171), (10, 172)], 11, 48, [.int .u64 0, .int .u64 0, .int .u32 0, .int .u8 0, .int .u8 0, .int .u8 0, .int .u8 0, .nilf, .nilp, .int .i32 0, .int .i32 0], false⟩,
  none]
def E : Env := { fn := getT fnTab, ty := getT tyTab, prim := primT, grd := grdT, ext := fun i => i == 106, glob := fun _ => none }
@[simp] theorem E_ext (i) : E.ext i = (i == 106) := id rfl
def E0 : Env := { E with prim := fun _ => none }
@[simp] theorem E_prim (i) : E.prim i = primT i := rfl
@[simp] theorem E_glob (i) : E.glob i = none := rfl
@[simp] theorem ntmps_8 : fn8.ntmps = 56 := rfl
@[simp] theorem results_8 : fn8.results = [.tmp 4] := rfl
theorem body_8 : fn8.body = c8 := rfl
@[simp] theorem dyn_8 : fn8.dyn = fun _ => [] := id rfl
@[simp] theorem opn_8 : fn8.opn = fun _ => none := id rfl
@[simp] theorem keep_8_0 : fn8.keep 0 = some [2, 3] := rfl
@[simp] theorem keep_8_1 : fn8.keep 1 = some [5, 6] := rfl
@[simp] theorem keep_8_2 : fn8.keep 2 = some [5, 6, 7, 8] := rfl
@[simp] theorem keep_8_3 : fn8.keep 3 = some [5, 6, 7, 8, 9] := rfl
@[simp] theorem keep_8_4 : fn8.keep 4 = some [5, 6, 7, 8, 9, 22] := rfl
@[simp] theorem keep_8_5 : fn8.keep 5 = some [5, 6, 7, 8, 9] := rfl
@[simp] theorem keep_8_6 : fn8.keep 6 = some [5, 6, 9, 25] := rfl
@[simp] theorem keep_8_7 : fn8.keep 7 = some [5, 6, 9] := rfl
@[simp] theorem keep_8_8 : fn8.keep 8 = some [4] := rfl
@[simp] theorem ntmps_9 : fn9.ntmps = 123 := rfl
@[simp] theorem results_9 : fn9.results = [.tmp 2] := rfl
theorem body_9 : fn9.body = c9 := rfl
@[simp] theorem dyn_9 : fn9.dyn = fun _ => [] := id rfl
@[simp] theorem opn_9 : fn9.opn = fun _ => none := id rfl
@[simp] theorem keep_9_0 : fn9.keep 0 = some [1] := rfl
@[simp] theorem keep_9_1 : fn9.keep 1 = some [1, 12] := rfl
@[simp] theorem keep_9_2 : fn9.keep 2 = some [2] := rfl
@[simp] theorem keep_9_3 : fn9.keep 3 = some [1, 3, 4] := rfl
@[simp] theorem keep_9_4 : fn9.keep 4 = some [1, 3, 4, 5, 6] := rfl
@[simp] theorem keep_9_5 : fn9.keep 5 = some [1, 3, 5, 46] := rfl
@[simp] theorem keep_9_6 : fn9.keep 6 = some [2] := rfl
@[simp] theorem keep_9_7 : fn9.keep 7 = some [1, 3, 5, 48] := rfl
@[simp] theorem keep_9_8 : fn9.keep 8 = some [1, 5, 7] := rfl
@[simp] theorem keep_9_9 : fn9.keep 9 = some [2] := rfl
@[simp] theorem keep_9_10 : fn9.keep 10 = some [1, 3, 5, 8, 9] := rfl
@[simp] theorem keep_9_11 : fn9.keep 11 = some [2] := rfl
@[simp] theorem ntmps_12 : fn12.ntmps = 42 := rfl
@[simp] theorem results_12 : fn12.results = [.tmp 2] := rfl
theorem body_12 : fn12.body = c12 := rfl
@[simp] theorem dyn_12 : fn12.dyn = fun _ => [] := id rfl
@[simp] theorem opn_12 : fn12.opn = fun _ => none := id rfl
@[simp] theorem keep_12_0 : fn12.keep 0 = some [1] := rfl
@[simp] theorem keep_12_1 : fn12.keep 1 = some [1, 3] := rfl
@[simp] theorem keep_12_2 : fn12.keep 2 = some [1, 3, 12] := rfl
@[simp] theorem keep_12_3 : fn12.keep 3 = some [2] := rfl
@[simp] theorem keep_12_4 : fn12.keep 4 = some [1, 3, 4] := rfl
@[simp] theorem keep_12_5 : fn12.keep 5 = some [1, 3, 4, 17] := rfl
@[simp] theorem keep_12_6 : fn12.keep 6 = some [1, 3, 4] := rfl
@[simp] theorem keep_12_7 : fn12.keep 7 = some [1, 3, 4, 33] := rfl
@[simp] theorem keep_12_8 : fn12.keep 8 = some [2] := rfl
@[simp] theorem keep_12_9 : fn12.keep 9 = some [2] := rfl
@[simp] theorem head_12_5 : fn12.head 5 = some [1, 3, 4] := rfl
@[simp] theorem ntmps_18 : fn18.ntmps = 122 := rfl
@[simp] theorem results_18 : fn18.results = [.tmp 0] := rfl
theorem body_18 : fn18.body = c18 := rfl
@[simp] theorem dyn_18 : fn18.dyn = fun _ => [] := id rfl
@[simp] theorem opn_18 : fn18.opn = fun _ => none := id rfl
@[simp] theorem keep_18_0 : fn18.keep 0 = some [] := rfl
@[simp] theorem keep_18_1 : fn18.keep 1 = some [1] := rfl
@[simp] theorem keep_18_2 : fn18.keep 2 = some [1, 2] := rfl
@[simp] theorem keep_18_3 : fn18.keep 3 = some [1, 2, 3] := rfl
@[simp] theorem keep_18_4 : fn18.keep 4 = some [1, 2, 3, 31] := rfl
@[simp] theorem keep_18_5 : fn18.keep 5 = some [0] := rfl
@[simp] theorem keep_18_6 : fn18.keep 6 = some [1, 2, 3, 4, 5] := rfl
@[simp] theorem keep_18_7 : fn18.keep 7 = some [1, 2, 3, 4, 5, 7] := rfl
@[simp] theorem keep_18_8 : fn18.keep 8 = some [1, 2, 3, 4, 5, 7, 9, 11] := rfl
@[simp] theorem keep_18_9 : fn18.keep 9 = some [1, 2, 3, 76] := rfl
@[simp] theorem keep_18_10 : fn18.keep 10 = some [0] := rfl
@[simp] theorem keep_18_11 : fn18.keep 11 = some [1, 3, 109] := rfl
@[simp] theorem keep_18_12 : fn18.keep 12 = some [0] := rfl
@[simp] theorem keep_18_13 : fn18.keep 13 = some [0] := rfl
@[simp] theorem ntmps_20 : fn20.ntmps = 40 := rfl
@[simp] theorem results_20 : fn20.results = [.tmp 8] := rfl
theorem body_20 : fn20.body = c20 := rfl
@[simp] theorem dyn_20 : fn20.dyn = fun _ => [] := id rfl
@[simp] theorem opn_20 : fn20.opn = fun _ => none := id rfl
@[simp] theorem keep_20_0 : fn20.keep 0 = some [0, 2, 3, 5] := rfl
@[simp] theorem keep_20_1 : fn20.keep 1 = some [2, 3, 5, 9, 10, 11] := rfl
@[simp] theorem keep_20_2 : fn20.keep 2 = some [8] := rfl
@[simp] theorem ntmps_21 : fn21.ntmps = 19 := rfl
@[simp] theorem results_21 : fn21.results = [.tmp 2, .tmp 3] := rfl
theorem body_21 : fn21.body = c21 := rfl
@[simp] theorem dyn_21_7 : fn21.dyn 7 = [(3, 3)] := id rfl

@[simp] theorem opn_21 : fn21.opn = opnT := id rfl
@[simp] theorem keep_21_0 : fn21.keep 0 = some [1] := rfl
@[simp] theorem keep_21_1 : fn21.keep 1 = some [1, 4] := rfl
@[simp] theorem keep_21_2 : fn21.keep 2 = some [1, 4, 9] := rfl
@[simp] theorem keep_21_3 : fn21.keep 3 = some [2, 3] := rfl
@[simp] theorem keep_21_4 : fn21.keep 4 = some [1, 5] := rfl
@[simp] theorem keep_21_5 : fn21.keep 5 = some [1, 5, 14] := rfl
@[simp] theorem keep_21_6 : fn21.keep 6 = some [2, 3] := rfl
@[simp] theorem keep_21_7 : fn21.keep 7 = some [2, 3] := rfl
@[simp] theorem ntmps_22 : fn22.ntmps = 102 := rfl
@[simp] theorem results_22 : fn22.results = [.cell 2 30] := rfl
theorem body_22 : fn22.body = c22 := rfl
@[simp] theorem dyn_22_9 : fn22.dyn 9 = [] := id rfl
@[simp] theorem dyn_22_16 : fn22.dyn 16 = [] := id rfl
@[simp] theorem dyn_22_18 : fn22.dyn 18 = [(7, 8)] := id rfl

@[simp] theorem opn_22 : fn22.opn = fun _ => none := id rfl
@[simp] theorem keep_22_0 : fn22.keep 0 = some [1, 2] := rfl
@[simp] theorem keep_22_1 : fn22.keep 1 = some [1, 2, 3] := rfl
@[simp] theorem keep_22_2 : fn22.keep 2 = some [1, 2, 3, 4] := rfl
@[simp] theorem keep_22_3 : fn22.keep 3 = some [1, 2, 3, 4, 17] := rfl
@[simp] theorem keep_22_4 : fn22.keep 4 = some [1, 2, 3, 4] := rfl
@[simp] theorem keep_22_5 : fn22.keep 5 = some [1, 2, 3, 4, 5] := rfl
@[simp] theorem keep_22_6 : fn22.keep 6 = some [1, 2, 3, 4, 5, 28] := rfl
@[simp] theorem keep_22_7 : fn22.keep 7 = some [1, 2, 3, 4, 5] := rfl
@[simp] theorem keep_22_8 : fn22.keep 8 = some [1, 2, 3, 4, 5, 6] := rfl
@[simp] theorem keep_22_9 : fn22.keep 9 = some [1, 2, 3, 4, 6] := rfl
@[simp] theorem keep_22_10 : fn22.keep 10 = some [1, 2, 3, 4] := rfl
@[simp] theorem keep_22_11 : fn22.keep 11 = some [1, 2, 3, 4, 5] := rfl
@[simp] theorem keep_22_12 : fn22.keep 12 = some [1, 2, 3, 4, 5, 7] := rfl
@[simp] theorem keep_22_13 : fn22.keep 13 = some [1, 2, 3, 4, 5, 7, 62] := rfl
@[simp] theorem keep_22_14 : fn22.keep 14 = some [1, 2, 3, 4, 5, 7] := rfl
@[simp] theorem keep_22_15 : fn22.keep 15 = some [1, 2, 3, 4, 7, 8] := rfl
@[simp] theorem keep_22_16 : fn22.keep 16 = some [1, 2, 3, 4, 7, 8] := rfl
@[simp] theorem keep_22_17 : fn22.keep 17 = some [1, 2, 3, 4, 7, 8, 81] := rfl
@[simp] theorem keep_22_18 : fn22.keep 18 = some [1, 2, 3, 4] := rfl
@[simp] theorem keep_22_19 : fn22.keep 19 = some [2, 3, 95] := rfl
@[simp] theorem keep_22_20 : fn22.keep 20 = some [2] := rfl
@[simp] theorem keep_22_21 : fn22.keep 21 = some [2] := rfl
@[simp] theorem head_22_3 : fn22.head 3 = some [1, 2, 3, 4] := rfl
@[simp] theorem ntmps_23 : fn23.ntmps = 22 := rfl
@[simp] theorem results_23 : fn23.results = [.cell 2 30, .cell 3 3, .cell 4 3, .cell 5 34] := rfl
@[simp] theorem dyn_23_6 : fn23.dyn 6 = [(1, 2)] := id rfl

@[simp] theorem opn_23 : fn23.opn = opnT := id rfl
@[simp] theorem keep_23_0 : fn23.keep 0 = some [0, 2, 3, 4, 5] := rfl
@[simp] theorem keep_23_1 : fn23.keep 1 = some [0, 2, 3, 4, 5, 9] := rfl
@[simp] theorem keep_23_2 : fn23.keep 2 = some [2, 3, 4, 5] := rfl
@[simp] theorem keep_23_3 : fn23.keep 3 = some [0, 2, 3, 4, 5] := rfl
@[simp] theorem keep_23_4 : fn23.keep 4 = some [0, 2, 3, 4, 5, 6] := rfl
@[simp] theorem keep_23_5 : fn23.keep 5 = some [2, 3, 4, 5] := rfl
@[simp] theorem keep_23_6 : fn23.keep 6 = some [2, 3, 4, 5] := rfl
@[simp] theorem ntmps_24 : fn24.ntmps = 48 := rfl
@[simp] theorem results_24 : fn24.results = [.tmp 4] := rfl
theorem body_24 : fn24.body = c24 := rfl
@[simp] theorem dyn_24 : fn24.dyn = fun _ => [] := id rfl
@[simp] theorem opn_24 : fn24.opn = fun _ => none := id rfl
@[simp] theorem keep_24_0 : fn24.keep 0 = some [2, 3] := rfl
@[simp] theorem keep_24_1 : fn24.keep 1 = some [2, 3, 28] := rfl
@[simp] theorem keep_24_2 : fn24.keep 2 = some [4] := rfl
@[simp] theorem keep_24_3 : fn24.keep 3 = some [2, 3, 5] := rfl
@[simp] theorem keep_24_4 : fn24.keep 4 = some [2, 3, 5, 33] := rfl
@[simp] theorem keep_24_5 : fn24.keep 5 = some [2, 3, 5] := rfl
@[simp] theorem keep_24_6 : fn24.keep 6 = some [2, 3, 5, 47] := rfl
@[simp] theorem keep_24_7 : fn24.keep 7 = some [4] := rfl
@[simp] theorem keep_24_8 : fn24.keep 8 = some [4] := rfl
@[simp] theorem head_24_4 : fn24.head 4 = some [2, 3, 5] := rfl
@[simp] theorem ntmps_25 : fn25.ntmps = 39 := rfl
@[simp] theorem results_25 : fn25.results = [.cell 4 30, .tmp 5] := rfl
theorem body_25 : fn25.body = c25 := rfl
@[simp] theorem dyn_25 : fn25.dyn = fun _ => [] := id rfl
@[simp] theorem opn_25 : fn25.opn = fun _ => none := id rfl
@[simp] theorem keep_25_0 : fn25.keep 0 = some [1, 2, 4] := rfl
@[simp] theorem keep_25_1 : fn25.keep 1 = some [1, 2, 4, 6] := rfl
@[simp] theorem keep_25_2 : fn25.keep 2 = some [1, 2, 4, 6, 12] := rfl
@[simp] theorem keep_25_3 : fn25.keep 3 = some [4, 5] := rfl
@[simp] theorem keep_25_4 : fn25.keep 4 = some [2, 4, 15, 16, 17] := rfl
@[simp] theorem keep_25_5 : fn25.keep 5 = some [2, 4, 15, 16, 17, 18] := rfl
@[simp] theorem keep_25_6 : fn25.keep 6 = some [2, 4, 8, 15, 16, 17] := rfl
@[simp] theorem keep_25_7 : fn25.keep 7 = some [2, 4, 8, 15, 16, 17, 29] := rfl
@[simp] theorem keep_25_8 : fn25.keep 8 = some [4, 5] := rfl
@[simp] theorem keep_25_9 : fn25.keep 9 = some [2, 4, 15, 16, 17] := rfl
@[simp] theorem keep_25_10 : fn25.keep 10 = some [2, 4, 15, 16, 17] := rfl
@[simp] theorem keep_25_11 : fn25.keep 11 = some [4, 5] := rfl
@[simp] theorem head_25_5 : fn25.head 5 = some [2, 4, 15, 16, 17] := rfl
@[simp] theorem ntmps_26 : fn26.ntmps = 33 := rfl
@[simp] theorem results_26 : fn26.results = [.tmp 4] := rfl
theorem body_26 : fn26.body = c26 := rfl
@[simp] theorem dyn_26 : fn26.dyn = fun _ => [] := id rfl
@[simp] theorem opn_26 : fn26.opn = fun _ => none := id rfl
@[simp] theorem keep_26_0 : fn26.keep 0 = some [1, 2] := rfl
@[simp] theorem keep_26_1 : fn26.keep 1 = some [1, 2, 8] := rfl
@[simp] theorem keep_26_2 : fn26.keep 2 = some [4] := rfl
@[simp] theorem keep_26_3 : fn26.keep 3 = some [1, 2, 5] := rfl
@[simp] theorem keep_26_4 : fn26.keep 4 = some [1, 2, 5, 6] := rfl
@[simp] theorem keep_26_5 : fn26.keep 5 = some [1, 2, 5, 6, 18] := rfl
@[simp] theorem keep_26_6 : fn26.keep 6 = some [1, 2, 5, 6] := rfl
@[simp] theorem keep_26_7 : fn26.keep 7 = some [1, 2, 5, 6] := rfl
@[simp] theorem keep_26_8 : fn26.keep 8 = some [4] := rfl
@[simp] theorem head_26_5 : fn26.head 5 = some [1, 2, 5, 6] := rfl
@[simp] theorem ntmps_27 : fn27.ntmps = 34 := rfl
@[simp] theorem results_27 : fn27.results = [.tmp 2] := rfl
theorem body_27 : fn27.body = c27 := rfl
@[simp] theorem dyn_27 : fn27.dyn = fun _ => [] := id rfl
@[simp] theorem opn_27 : fn27.opn = fun _ => none := id rfl
@[simp] theorem keep_27_0 : fn27.keep 0 = some [1] := rfl
@[simp] theorem keep_27_1 : fn27.keep 1 = some [1, 19] := rfl
@[simp] theorem keep_27_2 : fn27.keep 2 = some [2] := rfl
@[simp] theorem keep_27_3 : fn27.keep 3 = some [1, 3] := rfl
@[simp] theorem keep_27_4 : fn27.keep 4 = some [1, 3, 24] := rfl
@[simp] theorem keep_27_5 : fn27.keep 5 = some [1, 3] := rfl
@[simp] theorem keep_27_6 : fn27.keep 6 = some [1, 3, 33] := rfl
@[simp] theorem keep_27_7 : fn27.keep 7 = some [2] := rfl
@[simp] theorem keep_27_8 : fn27.keep 8 = some [2] := rfl
@[simp] theorem head_27_4 : fn27.head 4 = some [1, 3] := rfl
@[simp] theorem ntmps_28 : fn28.ntmps = 12 := rfl
@[simp] theorem results_28 : fn28.results = [.tmp 2] := rfl
theorem body_28 : fn28.body = c28 := rfl
@[simp] theorem dyn_28 : fn28.dyn = fun _ => [] := id rfl
@[simp] theorem opn_28 : fn28.opn = fun _ => none := id rfl
@[simp] theorem keep_28_0 : fn28.keep 0 = some [1] := rfl
@[simp] theorem keep_28_1 : fn28.keep 1 = some [1, 6] := rfl
@[simp] theorem keep_28_2 : fn28.keep 2 = some [2] := rfl
@[simp] theorem keep_28_3 : fn28.keep 3 = some [3] := rfl
@[simp] theorem keep_28_4 : fn28.keep 4 = some [3, 10] := rfl
@[simp] theorem keep_28_5 : fn28.keep 5 = some [2] := rfl
@[simp] theorem keep_28_6 : fn28.keep 6 = some [2] := rfl
@[simp] theorem ntmps_29 : fn29.ntmps = 13 := rfl
@[simp] theorem results_29 : fn29.results = [.tmp 2] := rfl
theorem body_29 : fn29.body = c29 := rfl
@[simp] theorem dyn_29 : fn29.dyn = fun _ => [] := id rfl
@[simp] theorem opn_29 : fn29.opn = fun _ => none := id rfl
@[simp] theorem keep_29_0 : fn29.keep 0 = some [1] := rfl
@[simp] theorem keep_29_1 : fn29.keep 1 = some [4] := rfl
@[simp] theorem keep_29_2 : fn29.keep 2 = some [2] := rfl
@[simp] theorem ntmps_30 : fn30.ntmps = 13 := rfl
@[simp] theorem results_30 : fn30.results = [.tmp 2] := rfl
theorem body_30 : fn30.body = c30 := rfl
@[simp] theorem dyn_30 : fn30.dyn = fun _ => [] := id rfl
@[simp] theorem opn_30 : fn30.opn = fun _ => none := id rfl
@[simp] theorem keep_30_0 : fn30.keep 0 = some [1] := rfl
@[simp] theorem keep_30_1 : fn30.keep 1 = some [5] := rfl
@[simp] theorem keep_30_2 : fn30.keep 2 = some [2] := rfl
@[simp] theorem ntmps_32 : fn32.ntmps = 13 := rfl
@[simp] theorem results_32 : fn32.results = [.tmp 2] := rfl
theorem body_32 : fn32.body = c32 := rfl
@[simp] theorem dyn_32 : fn32.dyn = fun _ => [] := id rfl
@[simp] theorem opn_32 : fn32.opn = fun _ => none := id rfl
@[simp] theorem keep_32_0 : fn32.keep 0 = some [1] := rfl
@[simp] theorem keep_32_1 : fn32.keep 1 = some [3] := rfl
@[simp] theorem keep_32_2 : fn32.keep 2 = some [2] := rfl
@[simp] theorem ntmps_34 : fn34.ntmps = 27 := rfl
@[simp] theorem results_34 : fn34.results = [.cell 2 30, .tmp 3, .tmp 4] := rfl
theorem body_34 : fn34.body = c34 := rfl
@[simp] theorem dyn_34 : fn34.dyn = fun _ => [] := id rfl
@[simp] theorem opn_34 : fn34.opn = fun _ => none := id rfl
@[simp] theorem keep_34_0 : fn34.keep 0 = some [0, 2] := rfl
@[simp] theorem keep_34_1 : fn34.keep 1 = some [0, 2, 3, 4, 5] := rfl
@[simp] theorem keep_34_2 : fn34.keep 2 = some [0, 2, 3, 4, 5, 13] := rfl
@[simp] theorem keep_34_3 : fn34.keep 3 = some [2, 3, 4] := rfl
@[simp] theorem keep_34_4 : fn34.keep 4 = some [2, 5, 19] := rfl
@[simp] theorem keep_34_5 : fn34.keep 5 = some [2, 3, 4] := rfl
@[simp] theorem keep_34_6 : fn34.keep 6 = some [2, 3, 4] := rfl
@[simp] theorem ntmps_35 : fn35.ntmps = 33 := rfl
@[simp] theorem results_35 : fn35.results = [.tmp 2] := rfl
theorem body_35 : fn35.body = c35 := rfl
@[simp] theorem dyn_35 : fn35.dyn = fun _ => [] := id rfl
@[simp] theorem opn_35 : fn35.opn = opnT := id rfl
@[simp] theorem keep_35_0 : fn35.keep 0 = some [1] := rfl
@[simp] theorem keep_35_1 : fn35.keep 1 = some [1, 3] := rfl
@[simp] theorem keep_35_2 : fn35.keep 2 = some [1, 3, 4] := rfl
@[simp] theorem keep_35_3 : fn35.keep 3 = some [1, 3, 4, 13] := rfl
@[simp] theorem keep_35_4 : fn35.keep 4 = some [1, 3, 4] := rfl
@[simp] theorem keep_35_5 : fn35.keep 5 = some [1, 3, 4] := rfl
@[simp] theorem keep_35_6 : fn35.keep 6 = some [2] := rfl
@[simp] theorem head_35_3 : fn35.head 3 = some [1, 3, 4] := rfl
@[simp] theorem ntmps_36 : fn36.ntmps = 18 := rfl
@[simp] theorem results_36 : fn36.results = [.tmp 4] := rfl
theorem body_36 : fn36.body = c36 := rfl
@[simp] theorem dyn_36 : fn36.dyn = fun _ => [] := id rfl
@[simp] theorem opn_36 : fn36.opn = fun _ => none := id rfl
@[simp] theorem keep_36_0 : fn36.keep 0 = some [2, 3] := rfl
@[simp] theorem keep_36_1 : fn36.keep 1 = some [4] := rfl
@[simp] theorem ntmps_37 : fn37.ntmps = 22 := rfl
@[simp] theorem results_37 : fn37.results = [.tmp 4] := rfl
theorem body_37 : fn37.body = c37 := rfl
@[simp] theorem dyn_37 : fn37.dyn = fun _ => [] := id rfl
@[simp] theorem opn_37 : fn37.opn = fun _ => none := id rfl
@[simp] theorem keep_37_0 : fn37.keep 0 = some [2, 3] := rfl
@[simp] theorem keep_37_1 : fn37.keep 1 = some [3, 5] := rfl
@[simp] theorem keep_37_2 : fn37.keep 2 = some [5, 7] := rfl
@[simp] theorem keep_37_3 : fn37.keep 3 = some [4] := rfl
@[simp] theorem ntmps_38 : fn38.ntmps = 25 := rfl
@[simp] theorem results_38 : fn38.results = [.tmp 2] := rfl
theorem body_38 : fn38.body = c38 := rfl
@[simp] theorem dyn_38 : fn38.dyn = fun _ => [] := id rfl
@[simp] theorem opn_38 : fn38.opn = fun _ => none := id rfl
@[simp] theorem keep_38_0 : fn38.keep 0 = some [1] := rfl
@[simp] theorem keep_38_1 : fn38.keep 1 = some [1, 6] := rfl
@[simp] theorem keep_38_2 : fn38.keep 2 = some [2] := rfl
@[simp] theorem keep_38_3 : fn38.keep 3 = some [1, 10] := rfl
@[simp] theorem keep_38_4 : fn38.keep 4 = some [2] := rfl
@[simp] theorem keep_38_5 : fn38.keep 5 = some [1, 3] := rfl
@[simp] theorem keep_38_6 : fn38.keep 6 = some [1, 3, 15] := rfl
@[simp] theorem keep_38_7 : fn38.keep 7 = some [1, 3] := rfl
@[simp] theorem keep_38_8 : fn38.keep 8 = some [1, 3, 24] := rfl
@[simp] theorem keep_38_9 : fn38.keep 9 = some [2] := rfl
@[simp] theorem keep_38_10 : fn38.keep 10 = some [2] := rfl
@[simp] theorem head_38_6 : fn38.head 6 = some [1, 3] := rfl
@[simp] theorem ntmps_39 : fn39.ntmps = 70 := rfl
@[simp] theorem results_39 : fn39.results = [.tmp 6, .tmp 7] := rfl
theorem body_39 : fn39.body = c39 := rfl
@[simp] theorem dyn_39 : fn39.dyn = fun _ => [] := id rfl
@[simp] theorem opn_39 : fn39.opn = fun _ => none := id rfl
@[simp] theorem keep_39_0 : fn39.keep 0 = some [1, 2, 3] := rfl
@[simp] theorem keep_39_1 : fn39.keep 1 = some [1, 2, 3, 8] := rfl
@[simp] theorem keep_39_2 : fn39.keep 2 = some [1, 2, 3, 8, 17] := rfl
@[simp] theorem keep_39_3 : fn39.keep 3 = some [6, 7] := rfl
@[simp] theorem keep_39_4 : fn39.keep 4 = some [1, 2, 3, 39] := rfl
@[simp] theorem keep_39_5 : fn39.keep 5 = some [6, 7] := rfl
@[simp] theorem keep_39_6 : fn39.keep 6 = some [1, 2, 3, 41] := rfl
@[simp] theorem keep_39_7 : fn39.keep 7 = some [6, 7] := rfl
@[simp] theorem keep_39_8 : fn39.keep 8 = some [1, 2, 3, 43] := rfl
@[simp] theorem keep_39_9 : fn39.keep 9 = some [6, 7] := rfl
@[simp] theorem keep_39_10 : fn39.keep 10 = some [1, 3, 9] := rfl
@[simp] theorem keep_39_11 : fn39.keep 11 = some [1, 3, 9, 10] := rfl
@[simp] theorem keep_39_12 : fn39.keep 12 = some [1, 3, 9, 10, 50] := rfl
@[simp] theorem keep_39_13 : fn39.keep 13 = some [1, 3, 9, 10] := rfl
@[simp] theorem keep_39_14 : fn39.keep 14 = some [1, 3, 10, 11, 12] := rfl
@[simp] theorem keep_39_15 : fn39.keep 15 = some [1, 3, 10, 11, 12, 66] := rfl
@[simp] theorem keep_39_16 : fn39.keep 16 = some [6, 7] := rfl
@[simp] theorem keep_39_17 : fn39.keep 17 = some [1, 3, 9, 10] := rfl
@[simp] theorem keep_39_18 : fn39.keep 18 = some [6, 7] := rfl
@[simp] theorem head_39_12 : fn39.head 12 = some [1, 3, 9, 10] := rfl
@[simp] theorem ntmps_40 : fn40.ntmps = 22 := rfl
@[simp] theorem results_40 : fn40.results = [.tmp 2] := rfl
theorem body_40 : fn40.body = c40 := rfl
@[simp] theorem dyn_40 : fn40.dyn = fun _ => [] := id rfl
@[simp] theorem opn_40 : fn40.opn = fun _ => none := id rfl
@[simp] theorem keep_40_0 : fn40.keep 0 = some [1] := rfl
@[simp] theorem keep_40_1 : fn40.keep 1 = some [1, 3] := rfl
@[simp] theorem keep_40_2 : fn40.keep 2 = some [1, 3, 4] := rfl
@[simp] theorem keep_40_3 : fn40.keep 3 = some [1, 3, 4, 9] := rfl
@[simp] theorem keep_40_4 : fn40.keep 4 = some [1, 3, 4] := rfl
@[simp] theorem keep_40_5 : fn40.keep 5 = some [1, 3, 4] := rfl
@[simp] theorem keep_40_6 : fn40.keep 6 = some [2] := rfl
@[simp] theorem head_40_3 : fn40.head 3 = some [1, 3, 4] := rfl
@[simp] theorem ntmps_41 : fn41.ntmps = 9 := rfl
@[simp] theorem results_41 : fn41.results = [.cell 0 30] := rfl
theorem body_41 : fn41.body = c41 := rfl
@[simp] theorem dyn_41 : fn41.dyn = fun _ => [] := id rfl
@[simp] theorem opn_41 : fn41.opn = fun _ => none := id rfl
@[simp] theorem keep_41_0 : fn41.keep 0 = some [0] := rfl
@[simp] theorem keep_41_1 : fn41.keep 1 = some [0] := rfl
@[simp] theorem ntmps_42 : fn42.ntmps = 14 := rfl
@[simp] theorem results_42 : fn42.results = [.cell 2 30] := rfl
theorem body_42 : fn42.body = c42 := rfl
@[simp] theorem dyn_42 : fn42.dyn = fun _ => [] := id rfl
@[simp] theorem opn_42 : fn42.opn = fun _ => none := id rfl
@[simp] theorem keep_42_0 : fn42.keep 0 = some [1, 2] := rfl
@[simp] theorem keep_42_1 : fn42.keep 1 = some [2, 3] := rfl
@[simp] theorem keep_42_2 : fn42.keep 2 = some [2] := rfl
@[simp] theorem ntmps_44 : fn44.ntmps = 33 := rfl
@[simp] theorem results_44 : fn44.results = [.cell 2 27] := rfl
theorem body_44 : fn44.body = c44 := rfl
@[simp] theorem dyn_44 : fn44.dyn = fun _ => [] := id rfl
@[simp] theorem opn_44 : fn44.opn = fun _ => none := id rfl
@[simp] theorem keep_44_0 : fn44.keep 0 = some [0, 2] := rfl
@[simp] theorem keep_44_1 : fn44.keep 1 = some [0, 2, 4] := rfl
@[simp] theorem keep_44_2 : fn44.keep 2 = some [0, 2, 4, 5] := rfl
@[simp] theorem keep_44_3 : fn44.keep 3 = some [2] := rfl
@[simp] theorem keep_44_4 : fn44.keep 4 = some [0, 2, 4, 8] := rfl
@[simp] theorem keep_44_5 : fn44.keep 5 = some [2] := rfl
@[simp] theorem keep_44_6 : fn44.keep 6 = some [0, 2, 4, 11] := rfl
@[simp] theorem keep_44_7 : fn44.keep 7 = some [2] := rfl
@[simp] theorem keep_44_8 : fn44.keep 8 = some [0, 2, 4, 19] := rfl
@[simp] theorem keep_44_9 : fn44.keep 9 = some [2] := rfl
@[simp] theorem keep_44_10 : fn44.keep 10 = some [2, 4, 26] := rfl
@[simp] theorem keep_44_11 : fn44.keep 11 = some [2] := rfl
@[simp] theorem keep_44_12 : fn44.keep 12 = some [2, 29] := rfl
@[simp] theorem keep_44_13 : fn44.keep 13 = some [2] := rfl
@[simp] theorem keep_44_14 : fn44.keep 14 = some [2] := rfl
@[simp] theorem ntmps_45 : fn45.ntmps = 83 := rfl
@[simp] theorem results_45 : fn45.results = [.tmp 6, .cell 7 71] := rfl
theorem body_45 : fn45.body = c45 := rfl
@[simp] theorem dyn_45 : fn45.dyn = fun _ => [] := id rfl
@[simp] theorem opn_45 : fn45.opn = opnT := id rfl
@[simp] theorem keep_45_0 : fn45.keep 0 = some [2, 3, 4, 7] := rfl
@[simp] theorem keep_45_1 : fn45.keep 1 = some [2, 3, 4, 7, 13] := rfl
@[simp] theorem keep_45_2 : fn45.keep 2 = some [6, 7] := rfl
@[simp] theorem keep_45_3 : fn45.keep 3 = some [2, 3, 7, 18] := rfl
@[simp] theorem keep_45_4 : fn45.keep 4 = some [6, 7] := rfl
@[simp] theorem keep_45_5 : fn45.keep 5 = some [2, 3, 7, 8] := rfl
@[simp] theorem keep_45_6 : fn45.keep 6 = some [2, 3, 7, 8, 9] := rfl
@[simp] theorem keep_45_7 : fn45.keep 7 = some [3, 7, 8, 9, 27, 28, 29] := rfl
@[simp] theorem keep_45_8 : fn45.keep 8 = some [3, 7, 8, 9, 27, 28, 29, 30] := rfl
@[simp] theorem keep_45_9 : fn45.keep 9 = some [3, 7, 8, 9, 11, 27, 28, 29] := rfl
@[simp] theorem keep_45_10 : fn45.keep 10 = some [3, 7, 8, 9, 11, 12, 27, 28, 29] := rfl
@[simp] theorem keep_45_11 : fn45.keep 11 = some [6, 7] := rfl
@[simp] theorem keep_45_12 : fn45.keep 12 = some [3, 7, 8, 9, 11, 27, 28, 29, 38] := rfl
@[simp] theorem keep_45_13 : fn45.keep 13 = some [3, 7, 8, 9, 27, 28, 29] := rfl
@[simp] theorem keep_45_14 : fn45.keep 14 = some [3, 7, 8, 9, 27, 28, 29] := rfl
@[simp] theorem keep_45_15 : fn45.keep 15 = some [3, 7, 8, 9, 27, 28, 29, 59] := rfl
@[simp] theorem keep_45_16 : fn45.keep 16 = some [3, 7, 8, 9, 27, 28, 29] := rfl
@[simp] theorem keep_45_17 : fn45.keep 17 = some [7, 8, 65] := rfl
@[simp] theorem keep_45_18 : fn45.keep 18 = some [6, 7] := rfl
@[simp] theorem keep_45_19 : fn45.keep 19 = some [3, 7, 8, 9, 27, 28, 29] := rfl
@[simp] theorem keep_45_20 : fn45.keep 20 = some [7, 8, 9, 77] := rfl
@[simp] theorem keep_45_21 : fn45.keep 21 = some [6, 7] := rfl
@[simp] theorem keep_45_22 : fn45.keep 22 = some [6, 7] := rfl
@[simp] theorem head_45_8 : fn45.head 8 = some [3, 7, 8, 9, 27, 28, 29] := rfl
@[simp] theorem ntmps_47 : fn47.ntmps = 26 := rfl
@[simp] theorem results_47 : fn47.results = [.tmp 4] := rfl
theorem body_47 : fn47.body = c47 := rfl
@[simp] theorem dyn_47 : fn47.dyn = fun _ => [] := id rfl
@[simp] theorem opn_47 : fn47.opn = fun _ => none := id rfl
@[simp] theorem keep_47_0 : fn47.keep 0 = some [0, 1] := rfl
@[simp] theorem keep_47_1 : fn47.keep 1 = some [0, 1, 10] := rfl
@[simp] theorem keep_47_2 : fn47.keep 2 = some [4] := rfl
@[simp] theorem keep_47_3 : fn47.keep 3 = some [0, 1, 5] := rfl
@[simp] theorem keep_47_4 : fn47.keep 4 = some [0, 1, 5, 14] := rfl
@[simp] theorem keep_47_5 : fn47.keep 5 = some [0, 1, 5] := rfl
@[simp] theorem keep_47_6 : fn47.keep 6 = some [0, 1, 5, 25] := rfl
@[simp] theorem keep_47_7 : fn47.keep 7 = some [4] := rfl
@[simp] theorem keep_47_8 : fn47.keep 8 = some [4] := rfl
@[simp] theorem head_47_4 : fn47.head 4 = some [0, 1, 5] := rfl
@[simp] theorem ntmps_48 : fn48.ntmps = 47 := rfl
@[simp] theorem results_48 : fn48.results = [.tmp 4] := rfl
theorem body_48 : fn48.body = c48 := rfl
@[simp] theorem dyn_48 : fn48.dyn = fun _ => [] := id rfl
@[simp] theorem opn_48 : fn48.opn = fun _ => none := id rfl
@[simp] theorem keep_48_0 : fn48.keep 0 = some [2, 3] := rfl
@[simp] theorem keep_48_1 : fn48.keep 1 = some [2, 3, 28] := rfl
@[simp] theorem keep_48_2 : fn48.keep 2 = some [4] := rfl
@[simp] theorem keep_48_3 : fn48.keep 3 = some [2, 3, 5] := rfl
@[simp] theorem keep_48_4 : fn48.keep 4 = some [2, 3, 5, 33] := rfl
@[simp] theorem keep_48_5 : fn48.keep 5 = some [2, 3, 5] := rfl
@[simp] theorem keep_48_6 : fn48.keep 6 = some [2, 3, 5, 46] := rfl
@[simp] theorem keep_48_7 : fn48.keep 7 = some [4] := rfl
@[simp] theorem keep_48_8 : fn48.keep 8 = some [4] := rfl
@[simp] theorem head_48_4 : fn48.head 4 = some [2, 3, 5] := rfl
@[simp] theorem ntmps_49 : fn49.ntmps = 48 := rfl
@[simp] theorem results_49 : fn49.results = [.tmp 4] := rfl
theorem body_49 : fn49.body = c49 := rfl
@[simp] theorem dyn_49 : fn49.dyn = fun _ => [] := id rfl
@[simp] theorem opn_49 : fn49.opn = fun _ => none := id rfl
@[simp] theorem keep_49_0 : fn49.keep 0 = some [2, 3] := rfl
@[simp] theorem keep_49_1 : fn49.keep 1 = some [2, 3, 28] := rfl
@[simp] theorem keep_49_2 : fn49.keep 2 = some [4] := rfl
@[simp] theorem keep_49_3 : fn49.keep 3 = some [2, 3, 5] := rfl
@[simp] theorem keep_49_4 : fn49.keep 4 = some [2, 3, 5, 33] := rfl
@[simp] theorem keep_49_5 : fn49.keep 5 = some [2, 3, 5] := rfl
@[simp] theorem keep_49_6 : fn49.keep 6 = some [2, 3, 5, 47] := rfl
@[simp] theorem keep_49_7 : fn49.keep 7 = some [4] := rfl
@[simp] theorem keep_49_8 : fn49.keep 8 = some [4] := rfl
@[simp] theorem head_49_4 : fn49.head 4 = some [2, 3, 5] := rfl
@[simp] theorem ntmps_50 : fn50.ntmps = 201 := rfl
@[simp] theorem results_50 : fn50.results = [.tmp 0] := rfl
theorem body_50 : fn50.body = c50 := rfl
@[simp] theorem dyn_50 : fn50.dyn = fun _ => [] := id rfl
@[simp] theorem opn_50 : fn50.opn = fun _ => none := id rfl
@[simp] theorem keep_50_0 : fn50.keep 0 = some [] := rfl
@[simp] theorem keep_50_1 : fn50.keep 1 = some [1] := rfl
@[simp] theorem keep_50_2 : fn50.keep 2 = some [1, 2, 3, 4] := rfl
@[simp] theorem keep_50_3 : fn50.keep 3 = some [1, 2, 3, 4, 5, 6] := rfl
@[simp] theorem keep_50_4 : fn50.keep 4 = some [1, 2, 3, 4, 5, 6, 7, 8] := rfl
@[simp] theorem keep_50_5 : fn50.keep 5 = some [1, 2, 3, 4, 70] := rfl
@[simp] theorem keep_50_6 : fn50.keep 6 = some [0] := rfl
@[simp] theorem keep_50_7 : fn50.keep 7 = some [1, 2, 3, 4, 10] := rfl
@[simp] theorem keep_50_8 : fn50.keep 8 = some [1, 2, 3, 4, 10, 12] := rfl
@[simp] theorem keep_50_9 : fn50.keep 9 = some [1, 2, 4, 10, 12, 14] := rfl
@[simp] theorem keep_50_10 : fn50.keep 10 = some [1, 2, 10, 12, 14, 16] := rfl
@[simp] theorem keep_50_11 : fn50.keep 11 = some [1, 2, 125] := rfl
@[simp] theorem keep_50_12 : fn50.keep 12 = some [0] := rfl
@[simp] theorem keep_50_13 : fn50.keep 13 = some [1, 142] := rfl
@[simp] theorem keep_50_14 : fn50.keep 14 = some [0] := rfl
@[simp] theorem keep_50_15 : fn50.keep 15 = some [1, 17, 18] := rfl
@[simp] theorem keep_50_16 : fn50.keep 16 = some [1, 17, 18, 20] := rfl
@[simp] theorem keep_50_17 : fn50.keep 17 = some [1, 17, 18, 20, 21, 22] := rfl
@[simp] theorem keep_50_18 : fn50.keep 18 = some [17, 18, 20, 21, 22, 23, 24] := rfl
@[simp] theorem keep_50_19 : fn50.keep 19 = some [17, 18, 20, 21, 22, 23, 24, 25] := rfl
@[simp] theorem keep_50_20 : fn50.keep 20 = some [0] := rfl
@[simp] theorem ntmps_51 : fn51.ntmps = 47 := rfl
@[simp] theorem results_51 : fn51.results = [.cell 2 71] := rfl
theorem body_51 : fn51.body = c51 := rfl
@[simp] theorem dyn_51 : fn51.dyn = fun _ => [] := id rfl
@[simp] theorem opn_51 : fn51.opn = fun _ => none := id rfl
@[simp] theorem keep_51_0 : fn51.keep 0 = some [1, 2] := rfl
@[simp] theorem keep_51_1 : fn51.keep 1 = some [1, 2, 8, 9, 10] := rfl
@[simp] theorem keep_51_2 : fn51.keep 2 = some [1, 2, 8, 9, 10, 11] := rfl
@[simp] theorem keep_51_3 : fn51.keep 3 = some [1, 2, 3, 4, 8, 9, 10] := rfl
@[simp] theorem keep_51_4 : fn51.keep 4 = some [1, 2, 3, 4, 5, 8, 9, 10] := rfl
@[simp] theorem keep_51_5 : fn51.keep 5 = some [1, 2, 3, 4, 5, 8, 9, 10, 18] := rfl
@[simp] theorem keep_51_6 : fn51.keep 6 = some [2] := rfl
@[simp] theorem keep_51_7 : fn51.keep 7 = some [1, 2, 3, 4, 8, 9, 10, 24] := rfl
@[simp] theorem keep_51_8 : fn51.keep 8 = some [1, 2, 3, 6, 8, 9, 10] := rfl
@[simp] theorem keep_51_9 : fn51.keep 9 = some [1, 2, 3, 6, 8, 9, 10, 33] := rfl
@[simp] theorem keep_51_10 : fn51.keep 10 = some [2] := rfl
@[simp] theorem keep_51_11 : fn51.keep 11 = some [1, 2, 3, 8, 9, 10, 39] := rfl
@[simp] theorem keep_51_12 : fn51.keep 12 = some [2] := rfl
@[simp] theorem keep_51_13 : fn51.keep 13 = some [1, 2, 8, 9, 10] := rfl
@[simp] theorem keep_51_14 : fn51.keep 14 = some [2] := rfl
@[simp] theorem head_51_2 : fn51.head 2 = some [1, 2, 8, 9, 10] := rfl
@[simp] theorem ntmps_52 : fn52.ntmps = 39 := rfl
@[simp] theorem results_52 : fn52.results = [.cell 2 71] := rfl
theorem body_52 : fn52.body = c52 := rfl
@[simp] theorem dyn_52 : fn52.dyn = fun _ => [] := id rfl
@[simp] theorem opn_52 : fn52.opn = fun _ => none := id rfl
@[simp] theorem keep_52_0 : fn52.keep 0 = some [1, 2] := rfl
@[simp] theorem keep_52_1 : fn52.keep 1 = some [1, 2, 3] := rfl
@[simp] theorem keep_52_2 : fn52.keep 2 = some [1, 2, 3, 10] := rfl
@[simp] theorem keep_52_3 : fn52.keep 3 = some [1, 2, 3] := rfl
@[simp] theorem keep_52_4 : fn52.keep 4 = some [1, 2, 3, 4] := rfl
@[simp] theorem keep_52_5 : fn52.keep 5 = some [1, 2, 3, 4, 5] := rfl
@[simp] theorem keep_52_6 : fn52.keep 6 = some [1, 2, 3, 4, 5, 30] := rfl
@[simp] theorem keep_52_7 : fn52.keep 7 = some [2] := rfl
@[simp] theorem keep_52_8 : fn52.keep 8 = some [1, 2, 3, 35] := rfl
@[simp] theorem keep_52_9 : fn52.keep 9 = some [2] := rfl
@[simp] theorem keep_52_10 : fn52.keep 10 = some [2] := rfl
@[simp] theorem head_52_2 : fn52.head 2 = some [1, 2, 3] := rfl
@[simp] theorem ntmps_53 : fn53.ntmps = 27 := rfl
@[simp] theorem results_53 : fn53.results = [.cell 4 71] := rfl
theorem body_53 : fn53.body = c53 := rfl
@[simp] theorem dyn_53 : fn53.dyn = fun _ => [] := id rfl
@[simp] theorem opn_53 : fn53.opn = fun _ => none := id rfl
@[simp] theorem keep_53_0 : fn53.keep 0 = some [0, 3, 4] := rfl
@[simp] theorem keep_53_1 : fn53.keep 1 = some [0, 3, 4, 8] := rfl
@[simp] theorem keep_53_2 : fn53.keep 2 = some [4] := rfl
@[simp] theorem keep_53_3 : fn53.keep 3 = some [0, 3, 4, 5] := rfl
@[simp] theorem keep_53_4 : fn53.keep 4 = some [3, 4, 5] := rfl
@[simp] theorem keep_53_5 : fn53.keep 5 = some [3, 4, 5] := rfl
@[simp] theorem keep_53_6 : fn53.keep 6 = some [4] := rfl
@[simp] theorem ntmps_54 : fn54.ntmps = 21 := rfl
@[simp] theorem results_54 : fn54.results = [.tmp 4, .tmp 5] := rfl
theorem body_54 : fn54.body = c54 := rfl
@[simp] theorem dyn_54 : fn54.dyn = fun _ => [] := id rfl
@[simp] theorem opn_54 : fn54.opn = fun _ => none := id rfl
@[simp] theorem keep_54_0 : fn54.keep 0 = some [2, 3] := rfl
@[simp] theorem keep_54_1 : fn54.keep 1 = some [2, 3, 10] := rfl
@[simp] theorem keep_54_2 : fn54.keep 2 = some [4, 5] := rfl
@[simp] theorem keep_54_3 : fn54.keep 3 = some [3, 6] := rfl
@[simp] theorem keep_54_4 : fn54.keep 4 = some [4, 5] := rfl
@[simp] theorem ntmps_55 : fn55.ntmps = 10 := rfl
@[simp] theorem results_55 : fn55.results = [.cell 0 30] := rfl
theorem body_55 : fn55.body = c55 := rfl
@[simp] theorem dyn_55 : fn55.dyn = fun _ => [] := id rfl
end TabE
