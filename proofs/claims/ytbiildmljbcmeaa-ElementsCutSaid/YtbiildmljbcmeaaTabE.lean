/- The tables of this translation for the evaluator: written by gen2.py. No conditions. -/
import Derived.Test.YtbiildmljbcmeaaB2
import Derived.Test.YtbiildmljbcmeaaTg
set_option linter.unusedVariables false
set_option maxRecDepth 100000
namespace TabE
open Go Ab
abbrev o (d : Nat) (x : Op) (t : TypeId) : Oper := ⟨some d, x, t, "", #[], none⟩
abbrev m (d i : Nat) (t : TypeId) : Oper := ⟨some d, .move (.tmp i), t, "", #[], none⟩

def opnT : FuncId → Option (List Bool × Bool)
  | 70 => some ([true, false], false)
  | 72 => some ([true, true, true, true], true)
  | 73 => some ([true, false, false, false], true)
  | 76 => some ([false], false)
  | 100 => some ([false, true], true)
  | 101 => some ([false, false, true, true], true)
  | 105 => some ([false, false, true], true)
  | 113 => some ([false, false, true, true], true)
  | 114 => some ([true, true], true)
  | _ => none

def c3 : Code :=
  (.seq (.region 0 #[o 2 (.assign (.const (.bool false))) 4] false)
 (.seq (.seq (.region 1 #[m 8 0 22, o 9 (.call { callee := .builtin .len, args := #[.tmp 8], argTypes := #[22] }) 3, o 10 (.binOp .gtr 3 (.tmp 9) (.const (.int .i64 200)) 3) 4] false)
 (.cond (.tmp 10)
 (.seq (.region 2 #[o 11 (.call { callee := .value (.func 18), args := #[], argTypes := #[] }) 4, o 2 (.assign (.tmp 11)) 4] false)
 .ret)
 .skip))
 (.seq (.region 3 #[m 13 0 22, o 14 (.call { callee := .value (.func 19), args := #[.tmp 13], argTypes := #[22] }) 31, m 12 14 31, o 15 (.extract (.tmp 12) 0) 30, o 16 (.extract (.tmp 12) 1) 3, o 17 (.extract (.tmp 12) 2) 3, o 3 (.alloc 30) 0, ⟨none, .store 30 (.tmp 3) (.tmp 15), 0, "", #[], none⟩, o 4 (.assign (.tmp 16)) 3, o 5 (.assign (.tmp 17)) 3] false)
 (.seq (.seq (.region 4 #[m 18 0 22, o 19 (.load 30 (.tmp 3)) 30, m 20 4 3, m 21 5 3, o 22 (.call { callee := .value (.func 20), args := #[.tmp 18, .tmp 19, .tmp 20, .tmp 21], argTypes := #[22, 30, 3, 3] }) 4, o 23 (.unOp .not 4 (.tmp 22)) 4] false)
 (.cond (.tmp 23)
 (.seq (.region 5 #[o 2 (.assign (.const (.bool false))) 4] false)
 .ret)
 .skip))
 (.seq (.seq (.region 6 #[m 24 5 3, o 25 (.binOp .neq 3 (.tmp 24) (.const (.int .i64 0)) 3) 4] false)
 (.cond (.tmp 25)
 (.seq (.region 7 #[o 26 (.call { callee := .value (.func 18), args := #[], argTypes := #[] }) 4, o 2 (.assign (.tmp 26)) 4] false)
 .ret)
 .skip))
 (.seq (.region 8 #[o 28 (.load 30 (.tmp 3)) 30, o 29 (.call { callee := .value (.func 21), args := #[.tmp 28], argTypes := #[30] }) 35, m 27 29 35, o 30 (.extract (.tmp 27) 0) 22, o 31 (.extract (.tmp 27) 1) 34, o 6 (.assign (.tmp 30)) 22, o 7 (.assign (.tmp 31)) 34] false)
 (.seq (.region 9 #[m 32 7 34, o 33 (.binOp .eql 34 (.tmp 32) (.const (.int .i64 0)) 34) 4, m 34 33 4, ⟨some 35, .move (.tmp 6), 22, "", #[], some (34, true)⟩, ⟨some 36, .convert 22 9 (.tmp 35), 9, "", #[], some (34, true)⟩, ⟨some 37, .move (.tmp 0), 22, "", #[], some (34, true)⟩, ⟨some 38, .convert 22 9 (.tmp 37), 9, "", #[], some (34, true)⟩, ⟨some 39, .binOp .eql 9 (.tmp 36) (.tmp 38) 9, 4, "", #[], some (34, true)⟩, o 40 (.pick (.tmp 34) (.tmp 39) (.const (.bool false))) 4, m 41 40 4, ⟨some 42, .call { callee := .value (.func 18), args := #[], argTypes := #[] }, 4, "", #[], some (41, true)⟩, o 43 (.pick (.tmp 41) (.tmp 42) (.const (.bool false))) 4, o 2 (.assign (.tmp 43)) 4] false)
 .ret)))))))
def fn3 : AFn := { ntmps := 44, results := [.tmp 2], body := c3, keep := fun | 0 => some [0] | 1 => some [0, 10] | 2 => some [2] | 3 => some [0, 3, 4, 5] | 4 => some [0, 3, 5, 23] | 5 => some [2] | 6 => some [0, 3, 25] | 7 => some [2] | 8 => some [0, 6, 7] | 9 => some [2] | _ => none, head := fun  | _ => none, opn := fun _ => none, dyn := fun _ => [] }
def c4 : Code :=
  (.seq (.region 0 #[o 2 (.box 40 (.tmp 0)) 0, o 4 (.assign (.const (.bool false))) 4] false)
 (.seq (.region 1 #[o 13 (.load 40 (.tmp 2)) 40, o 14 (.call { callee := .value (.func 22), args := #[.tmp 13], argTypes := #[40] }) 30, o 15 (.call { callee := .value (.func 21), args := #[.tmp 14], argTypes := #[30] }) 35, m 12 15 35, o 16 (.extract (.tmp 12) 0) 22, o 17 (.extract (.tmp 12) 1) 34, o 5 (.assign (.tmp 16)) 22, o 6 (.assign (.tmp 17)) 34] false)
 (.seq (.seq (.region 2 #[m 18 6 34, o 19 (.binOp .neq 34 (.tmp 18) (.const (.int .i64 0)) 34) 4, m 20 19 4, ⟨some 21, .move (.tmp 5), 22, "", #[], some (20, false)⟩, ⟨some 22, .call { callee := .builtin .len, args := #[.tmp 21], argTypes := #[22] }, 3, "", #[], some (20, false)⟩, ⟨some 23, .binOp .eql 3 (.tmp 22) (.const (.int .i64 0)) 3, 4, "", #[], some (20, false)⟩, o 24 (.pick (.tmp 20) (.const (.bool true)) (.tmp 23)) 4] false)
 (.cond (.tmp 24)
 (.seq (.region 3 #[o 4 (.assign (.const (.bool false))) 4] false)
 .ret)
 .skip))
 (.seq (.region 4 #[m 25 1 41, o 26 (.convert 41 3 (.tmp 25)) 3, m 27 5 22, o 28 (.call { callee := .builtin .len, args := #[.tmp 27], argTypes := #[22] }) 3, o 29 (.binOp .rem 3 (.tmp 26) (.tmp 28) 3) 3, o 7 (.assign (.tmp 29)) 3] false)
 (.seq (.region 5 #[m 31 5 22, m 32 7 3, o 33 (.slice 22 (.tmp 31) none (some (.tmp 32)) none) 22, o 34 (.call { callee := .value (.func 23), args := #[.tmp 33], argTypes := #[22] }) 43, m 30 34 43, o 35 (.extract (.tmp 30) 0) 30, o 36 (.extract (.tmp 30) 1) 3, o 37 (.extract (.tmp 30) 2) 3, o 38 (.extract (.tmp 30) 3) 34, o 8 (.alloc 30) 0, ⟨none, .store 30 (.tmp 8) (.tmp 35), 0, "", #[], none⟩, o 9 (.assign (.tmp 36)) 3, o 10 (.assign (.tmp 37)) 3, o 11 (.assign (.tmp 38)) 34] false)
 (.seq (.region 6 #[m 39 5 22, m 40 7 3, o 41 (.slice 22 (.tmp 39) none (some (.tmp 40)) none) 22, o 42 (.build 30 #[]) 30, m 43 7 3, o 44 (.call { callee := .value (.func 20), args := #[.tmp 41, .tmp 42, .tmp 43, .const (.int .i64 7)], argTypes := #[22, 30, 3, 3] }) 4, m 45 44 4, ⟨some 46, .load 30 (.tmp 8), 30, "", #[], some (45, true)⟩, ⟨some 47, .build 30 #[], 30, "", #[], some (45, true)⟩, ⟨some 48, .call { callee := .value (.func 24), args := #[.tmp 46, .tmp 47], argTypes := #[30, 30] }, 4, "", #[], some (45, true)⟩, o 49 (.pick (.tmp 45) (.tmp 48) (.const (.bool false))) 4, m 50 49 4, ⟨some 51, .move (.tmp 9), 3, "", #[], some (50, true)⟩, ⟨some 52, .binOp .eql 3 (.tmp 51) (.const (.int .i64 0)) 3, 4, "", #[], some (50, true)⟩, o 53 (.pick (.tmp 50) (.tmp 52) (.const (.bool false))) 4, m 54 53 4, ⟨some 55, .move (.tmp 10), 3, "", #[], some (54, true)⟩, ⟨some 56, .move (.tmp 7), 3, "", #[], some (54, true)⟩, ⟨some 57, .binOp .eql 3 (.tmp 55) (.tmp 56) 3, 4, "", #[], some (54, true)⟩, o 58 (.pick (.tmp 54) (.tmp 57) (.const (.bool false))) 4, m 59 58 4, ⟨some 60, .move (.tmp 11), 34, "", #[], some (59, true)⟩, ⟨some 61, .binOp .eql 34 (.tmp 60) (.const (.int .i64 7)) 34, 4, "", #[], some (59, true)⟩, o 62 (.pick (.tmp 59) (.tmp 61) (.const (.bool false))) 4, m 63 62 4, ⟨some 64, .call { callee := .value (.func 18), args := #[], argTypes := #[] }, 4, "", #[], some (63, true)⟩, o 65 (.pick (.tmp 63) (.tmp 64) (.const (.bool false))) 4, o 4 (.assign (.tmp 65)) 4] false)
 .ret))))))
def fn4 : AFn := { ntmps := 66, results := [.tmp 4], body := c4, keep := fun | 0 => some [1, 2] | 1 => some [1, 5, 6] | 2 => some [1, 5, 24] | 3 => some [4] | 4 => some [5, 7] | 5 => some [5, 7, 8, 9, 10, 11] | 6 => some [4] | _ => none, head := fun  | _ => none, opn := fun _ => none, dyn := fun _ => [] }
def c5 : Code :=
  (.seq (.region 0 #[o 2 (.box 40 (.tmp 0)) 0, o 4 (.assign (.const (.bool false))) 4] false)
 (.seq (.seq (.region 1 #[m 15 1 47, o 16 (.call { callee := .builtin .len, args := #[.tmp 15], argTypes := #[47] }) 3, o 17 (.binOp .gtr 3 (.tmp 16) (.const (.int .i64 20)) 3) 4] false)
 (.cond (.tmp 17)
 (.seq (.region 2 #[o 18 (.call { callee := .value (.func 18), args := #[], argTypes := #[] }) 4, o 4 (.assign (.tmp 18)) 4] false)
 .ret)
 .skip))
 (.seq (.region 3 #[o 19 (.load 40 (.tmp 2)) 40, o 20 (.call { callee := .value (.func 22), args := #[.tmp 19], argTypes := #[40] }) 30, o 5 (.alloc 30) 0, ⟨none, .store 30 (.tmp 5) (.tmp 20), 0, "", #[], none⟩] false)
 (.seq (.region 4 #[o 22 (.load 30 (.tmp 5)) 30, m 23 1 47, o 24 (.call { callee := .value (.func 25), args := #[.tmp 22, .tmp 23], argTypes := #[30, 47] }) 48, m 21 24 48, o 25 (.extract (.tmp 21) 0) 30, o 26 (.extract (.tmp 21) 1) 34, o 6 (.alloc 30) 0, ⟨none, .store 30 (.tmp 6) (.tmp 25), 0, "", #[], none⟩, o 7 (.assign (.tmp 26)) 34] false)
 (.seq (.region 5 #[o 27 (.load 30 (.tmp 5)) 30, o 8 (.alloc 30) 0, ⟨none, .store 30 (.tmp 8) (.tmp 27), 0, "", #[], none⟩] false)
 (.seq (.seq (.region 6 #[o 9 (.assign (.const (.int .i64 0))) 3] false)
 (.block 0 (.loop (.seq (.seq (.region 7 #[m 28 9 3, m 29 1 47, o 30 (.call { callee := .builtin .len, args := #[.tmp 29], argTypes := #[47] }) 3, o 31 (.binOp .lss 3 (.tmp 28) (.tmp 30) 3) 4] false)
 (.cond (.tmp 31)
 .skip
 (.exit 0)))
 (.seq (.block 1 (.seq (.seq (.region 9 #[m 34 1 47, m 35 9 3, o 36 (.indexAddr 47 (.tmp 34) (.tmp 35)) 0, o 37 (.load 3 (.tmp 36)) 3, o 38 (.binOp .lss 3 (.tmp 37) (.const (.int .i64 0)) 3) 4, m 39 38 4, ⟨some 40, .move (.tmp 1), 47, "", #[], some (39, false)⟩, ⟨some 41, .move (.tmp 9), 3, "", #[], some (39, false)⟩, ⟨some 42, .indexAddr 47 (.tmp 40) (.tmp 41), 0, "", #[], some (39, false)⟩, ⟨some 43, .load 3 (.tmp 42), 3, "", #[], some (39, false)⟩, ⟨some 44, .fieldAddr 30 (.tmp 8) 2, 0, "", #[], some (39, false)⟩, ⟨some 45, .load 28 (.tmp 44), 28, "", #[], some (39, false)⟩, ⟨some 46, .call { callee := .builtin .len, args := #[.tmp 45], argTypes := #[28] }, 3, "", #[], some (39, false)⟩, ⟨some 47, .binOp .geq 3 (.tmp 43) (.tmp 46) 3, 4, "", #[], some (39, false)⟩, o 48 (.pick (.tmp 39) (.const (.bool true)) (.tmp 47)) 4] true)
 (.cond (.tmp 48)
 (.seq (.region 10 #[m 49 7 34, o 50 (.binOp .eql 34 (.tmp 49) (.const (.int .i64 19)) 34) 4, m 51 50 4, ⟨some 52, .load 30 (.tmp 6), 30, "", #[], some (51, true)⟩, ⟨some 53, .build 30 #[], 30, "", #[], some (51, true)⟩, ⟨some 54, .call { callee := .value (.func 24), args := #[.tmp 52, .tmp 53], argTypes := #[30, 30] }, 4, "", #[], some (51, true)⟩, o 55 (.pick (.tmp 51) (.tmp 54) (.const (.bool false))) 4, m 56 55 4, ⟨some 57, .call { callee := .value (.func 18), args := #[], argTypes := #[] }, 4, "", #[], some (56, true)⟩, o 58 (.pick (.tmp 56) (.tmp 57) (.const (.bool false))) 4, o 4 (.assign (.tmp 58)) 4] false)
 .ret)
 .skip))
 (.region 11 #[o 59 (.fieldAddr 30 (.tmp 8) 2) 0, o 60 (.load 28 (.tmp 59)) 28, m 61 1 47, m 62 9 3, o 63 (.indexAddr 47 (.tmp 61) (.tmp 62)) 0, o 64 (.load 3 (.tmp 63)) 3, o 65 (.indexAddr 28 (.tmp 60) (.tmp 64)) 0, o 66 (.load 30 (.tmp 65)) 30, ⟨none, .store 30 (.tmp 8) (.tmp 66), 0, "", #[], none⟩] true)))
 (.region 8 #[m 32 9 3, o 33 (.binOp .add 3 (.tmp 32) (.const (.int .i64 1)) 3) 3, o 9 (.assign (.tmp 33)) 3] false))))))
 (.seq (.seq (.region 12 #[m 67 7 34, o 68 (.binOp .neq 34 (.tmp 67) (.const (.int .i64 0)) 34) 4, m 69 68 4, ⟨some 70, .load 30 (.tmp 6), 30, "", #[], some (69, false)⟩, ⟨some 71, .call { callee := .value (.func 26), args := #[.tmp 70, .const (.int .i64 50)], argTypes := #[30, 3] }, 3, "", #[], some (69, false)⟩, ⟨some 72, .binOp .gtr 3 (.tmp 71) (.const (.int .i64 50)) 3, 4, "", #[], some (69, false)⟩, o 73 (.pick (.tmp 69) (.const (.bool true)) (.tmp 72)) 4, m 74 73 4, ⟨some 75, .load 30 (.tmp 6), 30, "", #[], some (74, false)⟩, ⟨some 76, .load 30 (.tmp 8), 30, "", #[], some (74, false)⟩, ⟨some 77, .call { callee := .value (.func 24), args := #[.tmp 75, .tmp 76], argTypes := #[30, 30] }, 4, "", #[], some (74, false)⟩, ⟨some 78, .unOp .not 4 (.tmp 77), 4, "", #[], some (74, false)⟩, o 79 (.pick (.tmp 74) (.const (.bool true)) (.tmp 78)) 4, m 80 79 4, ⟨some 81, .load 30 (.tmp 6), 30, "", #[], some (80, false)⟩, ⟨some 82, .call { callee := .value (.func 27), args := #[.tmp 81], argTypes := #[30] }, 4, "", #[], some (80, false)⟩, ⟨some 83, .unOp .not 4 (.tmp 82), 4, "", #[], some (80, false)⟩, o 84 (.pick (.tmp 80) (.const (.bool true)) (.tmp 83)) 4] false)
 (.cond (.tmp 84)
 (.seq (.region 13 #[o 4 (.assign (.const (.bool false))) 4] false)
 .ret)
 .skip))
 (.seq (.region 14 #[o 85 (.fieldAddr 30 (.tmp 8) 1) 0, o 86 (.load 22 (.tmp 85)) 22, o 87 (.call { callee := .builtin .len, args := #[.tmp 86], argTypes := #[22] }) 3, o 10 (.assign (.tmp 87)) 3, o 11 (.assign (.const (.int .i64 1))) 3, o 12 (.assign (.const (.int .i64 0))) 3] false)
 (.seq (.seq (.region 15 #[o 13 (.assign (.const (.int .i64 0))) 3] false)
 (.block 2 (.loop (.seq (.seq (.region 16 #[m 88 13 3, o 89 (.fieldAddr 30 (.tmp 8) 2) 0, o 90 (.load 28 (.tmp 89)) 28, o 91 (.call { callee := .builtin .len, args := #[.tmp 90], argTypes := #[28] }) 3, o 92 (.binOp .lss 3 (.tmp 88) (.tmp 91) 3) 4] false)
 (.cond (.tmp 92)
 .skip
 (.exit 2)))
 (.seq (.block 3 (.seq (.region 18 #[m 95 10 3, o 96 (.fieldAddr 30 (.tmp 8) 2) 0, o 97 (.load 28 (.tmp 96)) 28, m 98 13 3, o 99 (.indexAddr 28 (.tmp 97) (.tmp 98)) 0, o 100 (.load 30 (.tmp 99)) 30, o 101 (.call { callee := .value (.func 28), args := #[.tmp 100], argTypes := #[30] }) 3, o 102 (.binOp .add 3 (.tmp 95) (.tmp 101) 3) 3, o 10 (.assign (.tmp 102)) 3] false)
 (.seq (.region 19 #[m 103 11 3, o 104 (.fieldAddr 30 (.tmp 8) 2) 0, o 105 (.load 28 (.tmp 104)) 28, m 106 13 3, o 107 (.indexAddr 28 (.tmp 105) (.tmp 106)) 0, o 108 (.load 30 (.tmp 107)) 30, o 109 (.call { callee := .value (.func 29), args := #[.tmp 108], argTypes := #[30] }) 3, o 110 (.binOp .add 3 (.tmp 103) (.tmp 109) 3) 3, o 11 (.assign (.tmp 110)) 3] false)
 (.region 20 #[m 111 12 3, o 112 (.fieldAddr 30 (.tmp 8) 2) 0, o 113 (.load 28 (.tmp 112)) 28, m 114 13 3, o 115 (.indexAddr 28 (.tmp 113) (.tmp 114)) 0, o 116 (.load 30 (.tmp 115)) 30, o 117 (.call { callee := .value (.func 30), args := #[.tmp 116], argTypes := #[30] }) 3, o 118 (.call { callee := .builtin .max, args := #[.tmp 111, .tmp 117], argTypes := #[3, 3] }) 3, o 12 (.assign (.tmp 118)) 3] false))))
 (.region 17 #[m 93 13 3, o 94 (.binOp .add 3 (.tmp 93) (.const (.int .i64 1)) 3) 3, o 13 (.assign (.tmp 94)) 3] false))))))
 (.seq (.region 21 #[o 119 (.load 30 (.tmp 8)) 30, o 120 (.call { callee := .value (.func 28), args := #[.tmp 119], argTypes := #[30] }) 3, o 14 (.assign (.tmp 120)) 3] false)
 (.seq (.region 22 #[m 121 14 3, m 122 10 3, o 123 (.binOp .add 3 (.tmp 122) (.const (.int .i64 2)) 3) 3, o 124 (.binOp .geq 3 (.tmp 121) (.tmp 123) 3) 4, m 125 124 4, ⟨some 126, .move (.tmp 14), 3, "", #[], some (125, true)⟩, ⟨some 127, .move (.tmp 10), 3, "", #[], some (125, true)⟩, ⟨some 128, .binOp .add 3 (.tmp 127) (.const (.int .i64 9)) 3, 3, "", #[], some (125, true)⟩, ⟨some 129, .binOp .leq 3 (.tmp 126) (.tmp 128) 3, 4, "", #[], some (125, true)⟩, o 130 (.pick (.tmp 125) (.tmp 129) (.const (.bool false))) 4, m 131 130 4, ⟨some 132, .load 30 (.tmp 8), 30, "", #[], some (131, true)⟩, ⟨some 133, .call { callee := .value (.func 29), args := #[.tmp 132], argTypes := #[30] }, 3, "", #[], some (131, true)⟩, ⟨some 134, .move (.tmp 11), 3, "", #[], some (131, true)⟩, ⟨some 135, .binOp .eql 3 (.tmp 133) (.tmp 134) 3, 4, "", #[], some (131, true)⟩, o 136 (.pick (.tmp 131) (.tmp 135) (.const (.bool false))) 4, m 137 136 4, ⟨some 138, .load 30 (.tmp 8), 30, "", #[], some (137, true)⟩, ⟨some 139, .call { callee := .value (.func 30), args := #[.tmp 138], argTypes := #[30] }, 3, "", #[], some (137, true)⟩, ⟨some 140, .move (.tmp 12), 3, "", #[], some (137, true)⟩, ⟨some 141, .binOp .add 3 (.tmp 140) (.const (.int .i64 1)) 3, 3, "", #[], some (137, true)⟩, ⟨some 142, .binOp .eql 3 (.tmp 139) (.tmp 141) 3, 4, "", #[], some (137, true)⟩, o 143 (.pick (.tmp 137) (.tmp 142) (.const (.bool false))) 4, m 144 143 4, ⟨some 145, .call { callee := .value (.func 18), args := #[], argTypes := #[] }, 4, "", #[], some (144, true)⟩, o 146 (.pick (.tmp 144) (.tmp 145) (.const (.bool false))) 4, o 4 (.assign (.tmp 146)) 4] false)
 .ret)))))))))))
def fn5 : AFn := { ntmps := 147, results := [.tmp 4], body := c5, keep := fun | 0 => some [1, 2] | 1 => some [1, 2, 17] | 2 => some [4] | 3 => some [1, 5] | 4 => some [1, 5, 6, 7] | 5 => some [1, 6, 7, 8] | 6 => some [1, 6, 7, 8, 9] | 7 => some [1, 6, 7, 8, 9, 31] | 8 => some [1, 6, 7, 8, 9] | 9 => some [1, 6, 7, 8, 9, 48] | 10 => some [4] | 11 => some [1, 6, 7, 8, 9] | 12 => some [8, 84] | 13 => some [4] | 14 => some [8, 10, 11, 12] | 15 => some [8, 10, 11, 12, 13] | 16 => some [8, 10, 11, 12, 13, 92] | 17 => some [8, 10, 11, 12, 13] | 18 => some [8, 10, 11, 12, 13] | 19 => some [8, 10, 11, 12, 13] | 20 => some [8, 10, 11, 12, 13] | 21 => some [8, 10, 11, 12, 14] | 22 => some [4] | _ => none, head := fun | 7 => some [1, 6, 7, 8, 9] | 16 => some [8, 10, 11, 12, 13] | _ => none, opn := fun _ => none, dyn := fun _ => [] }
def c9 : Code :=
  (.seq (.region 0 #[o 1 (.box 30 (.tmp 0)) 0, o 2 (.assign (.const (.bool false))) 4] false)
 (.seq (.seq (.region 1 #[o 10 (.load 30 (.tmp 1)) 30, o 11 (.call { callee := .value (.func 38), args := #[.tmp 10], argTypes := #[30] }) 3, o 12 (.binOp .eql 3 (.tmp 11) (.const (.int .i64 0)) 3) 4] false)
 (.cond (.tmp 12)
 (.seq (.region 2 #[o 13 (.call { callee := .value (.func 18), args := #[], argTypes := #[] }) 4, o 2 (.assign (.tmp 13)) 4] false)
 .ret)
 .skip))
 (.seq (.region 3 #[o 15 (.load 30 (.tmp 1)) 30, o 16 (.call { callee := .value (.func 39), args := #[.tmp 15, .const (.int .i64 1), .const (.int .i64 0)], argTypes := #[30, 3, 3] }) 62, m 14 16 62, o 17 (.extract (.tmp 14) 0) 3, o 18 (.extract (.tmp 14) 1) 3, o 3 (.assign (.tmp 17)) 3, o 4 (.assign (.tmp 18)) 3] false)
 (.seq (.region 4 #[o 20 (.load 30 (.tmp 1)) 30, o 21 (.call { callee := .value (.func 21), args := #[.tmp 20], argTypes := #[30] }) 35, m 19 21 35, o 22 (.extract (.tmp 19) 0) 22, o 23 (.extract (.tmp 19) 1) 34, o 5 (.assign (.tmp 22)) 22, o 6 (.assign (.tmp 23)) 34] false)
 (.seq (.seq (.region 5 #[o 24 (.load 30 (.tmp 1)) 30, o 25 (.call { callee := .value (.func 32), args := #[.tmp 24], argTypes := #[30] }) 34, m 26 3 3, o 27 (.binOp .neq 3 (.tmp 25) (.tmp 26) 3) 4, m 28 27 4, ⟨some 29, .move (.tmp 6), 34, "", #[], some (28, false)⟩, ⟨some 30, .move (.tmp 3), 3, "", #[], some (28, false)⟩, ⟨some 31, .binOp .neq 3 (.tmp 29) (.tmp 30) 3, 4, "", #[], some (28, false)⟩, o 32 (.pick (.tmp 28) (.const (.bool true)) (.tmp 31)) 4, m 33 32 4, ⟨some 34, .load 30 (.tmp 1), 30, "", #[], some (33, false)⟩, ⟨some 35, .call { callee := .value (.func 29), args := #[.tmp 34], argTypes := #[30] }, 3, "", #[], some (33, false)⟩, ⟨some 36, .move (.tmp 4), 3, "", #[], some (33, false)⟩, ⟨some 37, .binOp .neq 3 (.tmp 35) (.tmp 36) 3, 4, "", #[], some (33, false)⟩, o 38 (.pick (.tmp 33) (.const (.bool true)) (.tmp 37)) 4, m 39 38 4, ⟨some 40, .load 30 (.tmp 1), 30, "", #[], some (39, false)⟩, ⟨some 41, .load 30 (.tmp 1), 30, "", #[], some (39, false)⟩, ⟨some 42, .call { callee := .value (.func 36), args := #[.tmp 40, .tmp 41], argTypes := #[30, 30] }, 4, "", #[], some (39, false)⟩, ⟨some 43, .move (.tmp 3), 3, "", #[], some (39, false)⟩, ⟨some 44, .binOp .eql 3 (.tmp 43) (.const (.int .i64 0)) 3, 4, "", #[], some (39, false)⟩, ⟨some 45, .binOp .neq 4 (.tmp 42) (.tmp 44) 4, 4, "", #[], some (39, false)⟩, o 46 (.pick (.tmp 39) (.const (.bool true)) (.tmp 45)) 4] false)
 (.cond (.tmp 46)
 (.seq (.region 6 #[o 2 (.assign (.const (.bool false))) 4] false)
 .ret)
 .skip))
 (.seq (.seq (.region 7 #[m 47 3 3, o 48 (.binOp .eql 3 (.tmp 47) (.const (.int .i64 0)) 3) 4] false)
 (.cond (.tmp 48)
 (.seq (.region 8 #[o 49 (.load 30 (.tmp 1)) 30, o 50 (.call { callee := .value (.func 35), args := #[.tmp 49], argTypes := #[30] }) 22, o 7 (.assign (.tmp 50)) 22] false)
 (.seq (.region 9 #[m 51 5 22, o 52 (.convert 22 9 (.tmp 51)) 9, m 53 7 22, o 54 (.convert 22 9 (.tmp 53)) 9, o 55 (.binOp .eql 9 (.tmp 52) (.tmp 54) 9) 4, m 56 55 4, ⟨some 57, .move (.tmp 5), 22, "", #[], some (56, true)⟩, ⟨some 58, .call { callee := .builtin .cap, args := #[.tmp 57], argTypes := #[22] }, 3, "", #[], some (56, true)⟩, ⟨some 59, .move (.tmp 5), 22, "", #[], some (56, true)⟩, ⟨some 60, .call { callee := .builtin .len, args := #[.tmp 59], argTypes := #[22] }, 3, "", #[], some (56, true)⟩, ⟨some 61, .binOp .eql 3 (.tmp 58) (.tmp 60) 3, 4, "", #[], some (56, true)⟩, o 62 (.pick (.tmp 56) (.tmp 61) (.const (.bool false))) 4, m 63 62 4, ⟨some 64, .load 30 (.tmp 1), 30, "", #[], some (63, true)⟩, ⟨some 65, .call { callee := .value (.func 28), args := #[.tmp 64], argTypes := #[30] }, 3, "", #[], some (63, true)⟩, ⟨some 66, .move (.tmp 7), 22, "", #[], some (63, true)⟩, ⟨some 67, .call { callee := .builtin .len, args := #[.tmp 66], argTypes := #[22] }, 3, "", #[], some (63, true)⟩, ⟨some 68, .binOp .eql 3 (.tmp 65) (.tmp 67) 3, 4, "", #[], some (63, true)⟩, o 69 (.pick (.tmp 63) (.tmp 68) (.const (.bool false))) 4, m 70 69 4, ⟨some 71, .load 30 (.tmp 1), 30, "", #[], some (70, true)⟩, ⟨some 72, .call { callee := .value (.func 30), args := #[.tmp 71], argTypes := #[30] }, 3, "", #[], some (70, true)⟩, ⟨some 73, .load 30 (.tmp 1), 30, "", #[], some (70, true)⟩, ⟨some 74, .call { callee := .value (.func 40), args := #[.tmp 73], argTypes := #[30] }, 3, "", #[], some (70, true)⟩, ⟨some 75, .binOp .eql 3 (.tmp 72) (.tmp 74) 3, 4, "", #[], some (70, true)⟩, o 76 (.pick (.tmp 70) (.tmp 75) (.const (.bool false))) 4, m 77 76 4, ⟨some 78, .call { callee := .value (.func 18), args := #[], argTypes := #[] }, 4, "", #[], some (77, true)⟩, o 79 (.pick (.tmp 77) (.tmp 78) (.const (.bool false))) 4, o 2 (.assign (.tmp 79)) 4] true)
 .ret))
 .skip))
 (.seq (.region 10 #[o 81 (.load 30 (.tmp 1)) 30, o 82 (.call { callee := .value (.func 25), args := #[.tmp 81, .const (.slice none 0 0)], argTypes := #[30, 47] }) 48, m 80 82 48, o 83 (.extract (.tmp 80) 0) 30, o 84 (.extract (.tmp 80) 1) 34, o 8 (.alloc 30) 0, ⟨none, .store 30 (.tmp 8) (.tmp 83), 0, "", #[], none⟩, o 9 (.assign (.tmp 84)) 34] false)
 (.seq (.region 11 #[m 85 5 22, o 86 (.call { callee := .builtin .len, args := #[.tmp 85], argTypes := #[22] }) 3, o 87 (.binOp .eql 3 (.tmp 86) (.const (.int .i64 0)) 3) 4, m 88 87 4, ⟨some 89, .load 30 (.tmp 1), 30, "", #[], some (88, true)⟩, ⟨some 90, .call { callee := .value (.func 28), args := #[.tmp 89], argTypes := #[30] }, 3, "", #[], some (88, true)⟩, ⟨some 91, .binOp .eql 3 (.tmp 90) (.const (.int .i64 0)) 3, 4, "", #[], some (88, true)⟩, o 92 (.pick (.tmp 88) (.tmp 91) (.const (.bool false))) 4, m 93 92 4, ⟨some 94, .load 30 (.tmp 1), 30, "", #[], some (93, true)⟩, ⟨some 95, .call { callee := .value (.func 30), args := #[.tmp 94], argTypes := #[30] }, 3, "", #[], some (93, true)⟩, ⟨some 96, .binOp .eql 3 (.tmp 95) (.const (.int .i64 0)) 3, 4, "", #[], some (93, true)⟩, o 97 (.pick (.tmp 93) (.tmp 96) (.const (.bool false))) 4, m 98 97 4, ⟨some 99, .move (.tmp 9), 34, "", #[], some (98, true)⟩, ⟨some 100, .move (.tmp 3), 3, "", #[], some (98, true)⟩, ⟨some 101, .binOp .eql 3 (.tmp 99) (.tmp 100) 3, 4, "", #[], some (98, true)⟩, o 102 (.pick (.tmp 98) (.tmp 101) (.const (.bool false))) 4, m 103 102 4, ⟨some 104, .load 30 (.tmp 8), 30, "", #[], some (103, true)⟩, ⟨some 105, .build 30 #[], 30, "", #[], some (103, true)⟩, ⟨some 106, .call { callee := .value (.func 24), args := #[.tmp 104, .tmp 105], argTypes := #[30, 30] }, 4, "", #[], some (103, true)⟩, o 107 (.pick (.tmp 103) (.tmp 106) (.const (.bool false))) 4, m 108 107 4, ⟨some 109, .load 30 (.tmp 1), 30, "", #[], some (108, true)⟩, ⟨some 110, .call { callee := .value (.func 41), args := #[], argTypes := #[] }, 30, "", #[], some (108, true)⟩, ⟨some 111, .call { callee := .value (.func 37), args := #[.tmp 109, .tmp 110], argTypes := #[30, 30] }, 3, "", #[], some (108, true)⟩, ⟨some 112, .binOp .eql 3 (.tmp 111) (.const (.int .i64 (-1))) 3, 4, "", #[], some (108, true)⟩, o 113 (.pick (.tmp 108) (.tmp 112) (.const (.bool false))) 4, m 114 113 4, ⟨some 115, .load 30 (.tmp 1), 30, "", #[], some (114, true)⟩, ⟨some 116, .load 30 (.tmp 1), 30, "", #[], some (114, true)⟩, ⟨some 117, .call { callee := .value (.func 37), args := #[.tmp 115, .tmp 116], argTypes := #[30, 30] }, 3, "", #[], some (114, true)⟩, ⟨some 118, .binOp .eql 3 (.tmp 117) (.const (.int .i64 0)) 3, 4, "", #[], some (114, true)⟩, o 119 (.pick (.tmp 114) (.tmp 118) (.const (.bool false))) 4, m 120 119 4, ⟨some 121, .call { callee := .value (.func 18), args := #[], argTypes := #[] }, 4, "", #[], some (120, true)⟩, o 122 (.pick (.tmp 120) (.tmp 121) (.const (.bool false))) 4, o 2 (.assign (.tmp 122)) 4] true)
 .ret))))))))
def fn9 : AFn := { ntmps := 123, results := [.tmp 2], body := c9, keep := fun | 0 => some [1] | 1 => some [1, 12] | 2 => some [2] | 3 => some [1, 3, 4] | 4 => some [1, 3, 4, 5, 6] | 5 => some [1, 3, 5, 46] | 6 => some [2] | 7 => some [1, 3, 5, 48] | 8 => some [1, 5, 7] | 9 => some [2] | 10 => some [1, 3, 5, 8, 9] | 11 => some [2] | _ => none, head := fun  | _ => none, opn := fun _ => none, dyn := fun _ => [] }
def c18 : Code :=
  (.seq (.region 0 #[o 0 (.assign (.const (.bool false))) 4] false)
 (.seq (.region 1 #[o 12 (.call { callee := .value (.func 41), args := #[], argTypes := #[] }) 30, o 1 (.alloc 30) 0, ⟨none, .store 30 (.tmp 1) (.tmp 12), 0, "", #[], none⟩] false)
 (.seq (.region 2 #[o 13 (.build 30 #[]) 30, o 2 (.alloc 30) 0, ⟨none, .store 30 (.tmp 2) (.tmp 13), 0, "", #[], none⟩] false)
 (.seq (.region 3 #[o 14 (.fieldAddr 30 (.tmp 1) 2) 0, o 15 (.load 28 (.tmp 14)) 28, o 16 (.indexAddr 28 (.tmp 15) (.const (.int .i64 1))) 0, o 17 (.load 30 (.tmp 16)) 30, o 3 (.alloc 30) 0, ⟨none, .store 30 (.tmp 3) (.tmp 17), 0, "", #[], none⟩] false)
 (.seq (.seq (.region 4 #[⟨some 18, .buildSlice 22 7 #[(0, .const (.int .u8 48)), (1, .const (.int .u8 5)), (2, .const (.int .u8 2)), (3, .const (.int .u8 1)), (4, .const (.int .u8 7)), (5, .const (.int .u8 5)), (6, .const (.int .u8 0))], 22, "", fz, none⟩, o 19 (.load 30 (.tmp 1)) 30, o 20 (.call { callee := .value (.func 20), args := #[.tmp 18, .tmp 19, .const (.int .i64 0), .const (.int .i64 0)], argTypes := #[22, 30, 3, 3] }) 4, o 21 (.unOp .not 4 (.tmp 20)) 4, m 22 21 4, ⟨some 23, .load 30 (.tmp 1), 30, "", #[], some (22, false)⟩, ⟨some 24, .call { callee := .value (.func 29), args := #[.tmp 23], argTypes := #[30] }, 3, "", #[], some (22, false)⟩, ⟨some 25, .binOp .neq 3 (.tmp 24) (.const (.int .i64 3)) 3, 4, "", #[], some (22, false)⟩, o 26 (.pick (.tmp 22) (.const (.bool true)) (.tmp 25)) 4, m 27 26 4, ⟨some 28, .load 30 (.tmp 1), 30, "", #[], some (27, false)⟩, ⟨some 29, .call { callee := .value (.func 30), args := #[.tmp 28], argTypes := #[30] }, 3, "", #[], some (27, false)⟩, ⟨some 30, .binOp .neq 3 (.tmp 29) (.const (.int .i64 2)) 3, 4, "", #[], some (27, false)⟩, o 31 (.pick (.tmp 27) (.const (.bool true)) (.tmp 30)) 4] false)
 (.cond (.tmp 31)
 (.seq (.region 5 #[o 0 (.assign (.const (.bool false))) 4] false)
 .ret)
 .skip))
 (.seq (.region 6 #[o 33 (.load 30 (.tmp 1)) 30, ⟨some 34, .buildSlice 47 1 #[(0, .const (.int .i64 1))], 47, "", fz, none⟩, o 35 (.call { callee := .value (.func 25), args := #[.tmp 33, .tmp 34], argTypes := #[30, 47] }) 48, m 32 35 48, o 36 (.extract (.tmp 32) 0) 30, o 37 (.extract (.tmp 32) 1) 34, o 4 (.alloc 30) 0, ⟨none, .store 30 (.tmp 4) (.tmp 36), 0, "", #[], none⟩, o 5 (.assign (.tmp 37)) 34] false)
 (.seq (.region 7 #[o 39 (.load 30 (.tmp 1)) 30, ⟨some 40, .buildSlice 47 1 #[(0, .const (.int .i64 2))], 47, "", fz, none⟩, o 41 (.call { callee := .value (.func 25), args := #[.tmp 39, .tmp 40], argTypes := #[30, 47] }) 48, m 38 41 48, o 42 (.extract (.tmp 38) 0) 30, o 43 (.extract (.tmp 38) 1) 34, o 6 (.alloc 30) 0, ⟨none, .store 30 (.tmp 6) (.tmp 42), 0, "", #[], none⟩, o 7 (.assign (.tmp 43)) 34] false)
 (.seq (.region 8 #[⟨some 45, .buildSlice 22 4 #[(0, .const (.int .u8 5)), (1, .const (.int .u8 0)), (2, .const (.int .u8 5)), (3, .const (.int .u8 0))], 22, "", fz, none⟩, o 46 (.call { callee := .value (.func 23), args := #[.tmp 45], argTypes := #[22] }) 43, m 44 46 43, o 47 (.extract (.tmp 44) 0) 30, o 48 (.extract (.tmp 44) 1) 3, o 49 (.extract (.tmp 44) 2) 3, o 50 (.extract (.tmp 44) 3) 34, o 8 (.alloc 30) 0, ⟨none, .store 30 (.tmp 8) (.tmp 47), 0, "", #[], none⟩, o 9 (.assign (.tmp 48)) 3, o 10 (.assign (.tmp 49)) 3, o 11 (.assign (.tmp 50)) 34] false)
 (.seq (.seq (.region 9 #[m 51 5 34, o 52 (.binOp .neq 34 (.tmp 51) (.const (.int .i64 0)) 34) 4, m 53 52 4, ⟨some 54, .load 30 (.tmp 4), 30, "", #[], some (53, false)⟩, ⟨some 55, .load 30 (.tmp 3), 30, "", #[], some (53, false)⟩, ⟨some 56, .call { callee := .value (.func 24), args := #[.tmp 54, .tmp 55], argTypes := #[30, 30] }, 4, "", #[], some (53, false)⟩, ⟨some 57, .unOp .not 4 (.tmp 56), 4, "", #[], some (53, false)⟩, o 58 (.pick (.tmp 53) (.const (.bool true)) (.tmp 57)) 4, m 59 58 4, ⟨some 60, .move (.tmp 7), 34, "", #[], some (59, false)⟩, ⟨some 61, .binOp .neq 34 (.tmp 60) (.const (.int .i64 19)) 34, 4, "", #[], some (59, false)⟩, o 62 (.pick (.tmp 59) (.const (.bool true)) (.tmp 61)) 4, m 63 62 4, ⟨some 64, .move (.tmp 9), 3, "", #[], some (63, false)⟩, ⟨some 65, .binOp .neq 3 (.tmp 64) (.const (.int .i64 2)) 3, 4, "", #[], some (63, false)⟩, o 66 (.pick (.tmp 63) (.const (.bool true)) (.tmp 65)) 4, m 67 66 4, ⟨some 68, .move (.tmp 11), 34, "", #[], some (67, false)⟩, ⟨some 69, .binOp .neq 34 (.tmp 68) (.const (.int .i64 0)) 34, 4, "", #[], some (67, false)⟩, o 70 (.pick (.tmp 67) (.const (.bool true)) (.tmp 69)) 4, m 71 70 4, ⟨some 72, .buildSlice 22 4 #[(0, .const (.int .u8 5)), (1, .const (.int .u8 0)), (2, .const (.int .u8 5)), (3, .const (.int .u8 0))], 22, "", fz, some (71, false)⟩, ⟨some 73, .load 30 (.tmp 2), 30, "", #[], some (71, false)⟩, ⟨some 74, .call { callee := .value (.func 20), args := #[.tmp 72, .tmp 73, .const (.int .i64 2), .const (.int .i64 8)], argTypes := #[22, 30, 3, 3] }, 4, "", #[], some (71, false)⟩, ⟨some 75, .unOp .not 4 (.tmp 74), 4, "", #[], some (71, false)⟩, o 76 (.pick (.tmp 71) (.const (.bool true)) (.tmp 75)) 4] false)
 (.cond (.tmp 76)
 (.seq (.region 10 #[o 0 (.assign (.const (.bool false))) 4] false)
 .ret)
 .skip))
 (.seq (.seq (.region 11 #[⟨some 77, .buildSlice 22 5 #[(0, .const (.int .u8 48)), (1, .const (.int .u8 5)), (2, .const (.int .u8 2)), (3, .const (.int .u8 1)), (4, .const (.int .u8 7))], 22, "", fz, none⟩, o 78 (.load 30 (.tmp 2)) 30, o 79 (.call { callee := .value (.func 20), args := #[.tmp 77, .tmp 78, .const (.int .i64 5), .const (.int .i64 7)], argTypes := #[22, 30, 3, 3] }) 4, o 80 (.unOp .not 4 (.tmp 79)) 4, m 81 80 4, ⟨some 82, .buildSlice 22 5 #[(0, .const (.int .u8 48)), (1, .const (.int .u8 3)), (2, .const (.int .u8 2)), (3, .const (.int .u8 2)), (4, .const (.int .u8 7))], 22, "", fz, some (81, false)⟩, ⟨some 83, .load 30 (.tmp 2), 30, "", #[], some (81, false)⟩, ⟨some 84, .call { callee := .value (.func 20), args := #[.tmp 82, .tmp 83, .const (.int .i64 5), .const (.int .i64 7)], argTypes := #[22, 30, 3, 3] }, 4, "", #[], some (81, false)⟩, ⟨some 85, .unOp .not 4 (.tmp 84), 4, "", #[], some (81, false)⟩, o 86 (.pick (.tmp 81) (.const (.bool true)) (.tmp 85)) 4, m 87 86 4, ⟨some 88, .buildSlice 22 4 #[(0, .const (.int .u8 48)), (1, .const (.int .u8 128)), (2, .const (.int .u8 0)), (3, .const (.int .u8 0))], 22, "", fz, some (87, false)⟩, ⟨some 89, .load 30 (.tmp 2), 30, "", #[], some (87, false)⟩, ⟨some 90, .call { callee := .value (.func 20), args := #[.tmp 88, .tmp 89, .const (.int .i64 1), .const (.int .i64 10)], argTypes := #[22, 30, 3, 3] }, 4, "", #[], some (87, false)⟩, ⟨some 91, .unOp .not 4 (.tmp 90), 4, "", #[], some (87, false)⟩, o 92 (.pick (.tmp 87) (.const (.bool true)) (.tmp 91)) 4, m 93 92 4, ⟨some 94, .buildSlice 22 4 #[(0, .const (.int .u8 48)), (1, .const (.int .u8 2)), (2, .const (.int .u8 0)), (3, .const (.int .u8 0))], 22, "", fz, some (93, false)⟩, ⟨some 95, .load 30 (.tmp 2), 30, "", #[], some (93, false)⟩, ⟨some 96, .call { callee := .value (.func 20), args := #[.tmp 94, .tmp 95, .const (.int .i64 2), .const (.int .i64 9)], argTypes := #[22, 30, 3, 3] }, 4, "", #[], some (93, false)⟩, ⟨some 97, .unOp .not 4 (.tmp 96), 4, "", #[], some (93, false)⟩, o 98 (.pick (.tmp 93) (.const (.bool true)) (.tmp 97)) 4, m 99 98 4, ⟨some 100, .buildSlice 22 3 #[(0, .const (.int .u8 48)), (1, .const (.int .u8 1)), (2, .const (.int .u8 5))], 22, "", fz, some (99, false)⟩, ⟨some 101, .load 30 (.tmp 2), 30, "", #[], some (99, false)⟩, ⟨some 102, .call { callee := .value (.func 20), args := #[.tmp 100, .tmp 101, .const (.int .i64 3), .const (.int .i64 7)], argTypes := #[22, 30, 3, 3] }, 4, "", #[], some (99, false)⟩, ⟨some 103, .unOp .not 4 (.tmp 102), 4, "", #[], some (99, false)⟩, o 104 (.pick (.tmp 99) (.const (.bool true)) (.tmp 103)) 4, m 105 104 4, ⟨some 106, .load 30 (.tmp 2), 30, "", #[], some (105, false)⟩, ⟨some 107, .call { callee := .value (.func 20), args := #[.const (.slice none 0 0), .tmp 106, .const (.int .i64 0), .const (.int .i64 7)], argTypes := #[22, 30, 3, 3] }, 4, "", #[], some (105, false)⟩, ⟨some 108, .unOp .not 4 (.tmp 107), 4, "", #[], some (105, false)⟩, o 109 (.pick (.tmp 105) (.const (.bool true)) (.tmp 108)) 4] false)
 (.cond (.tmp 109)
 (.seq (.region 12 #[o 0 (.assign (.const (.bool false))) 4] false)
 .ret)
 .skip))
 (.seq (.region 13 #[o 110 (.build 27 #[(2, .const (.int .u32 4))]) 27, o 111 (.load 30 (.tmp 3)) 30, o 112 (.buildSlice 28 1 #[(0, .tmp 111)]) 28, o 113 (.build 30 #[(0, .tmp 110), (2, .tmp 112)]) 30, o 114 (.call { callee := .value (.func 32), args := #[.tmp 113], argTypes := #[30] }) 34, o 115 (.binOp .eql 34 (.tmp 114) (.const (.int .i64 1)) 34) 4, m 116 115 4, ⟨some 117, .load 30 (.tmp 3), 30, "", #[], some (116, true)⟩, ⟨some 118, .load 30 (.tmp 1), 30, "", #[], some (116, true)⟩, ⟨some 119, .call { callee := .value (.func 37), args := #[.tmp 117, .tmp 118], argTypes := #[30, 30] }, 3, "", #[], some (116, true)⟩, ⟨some 120, .binOp .eql 3 (.tmp 119) (.const (.int .i64 (-1))) 3, 4, "", #[], some (116, true)⟩, o 121 (.pick (.tmp 116) (.tmp 120) (.const (.bool false))) 4, o 0 (.assign (.tmp 121)) 4] false)
 .ret)))))))))))
def fn18 : AFn := { ntmps := 122, results := [.tmp 0], body := c18, keep := fun | 0 => some [] | 1 => some [1] | 2 => some [1, 2] | 3 => some [1, 2, 3] | 4 => some [1, 2, 3, 31] | 5 => some [0] | 6 => some [1, 2, 3, 4, 5] | 7 => some [1, 2, 3, 4, 5, 7] | 8 => some [1, 2, 3, 4, 5, 7, 9, 11] | 9 => some [1, 2, 3, 76] | 10 => some [0] | 11 => some [1, 3, 109] | 12 => some [0] | 13 => some [0] | _ => none, head := fun  | _ => none, opn := fun _ => none, dyn := fun _ => [] }
def c19 : Code :=
  (.seq (.region 0 #[o 2 (.alloc 30) 0, o 3 (.assign (.const (.int .i64 0))) 3, o 4 (.assign (.const (.int .i64 0))) 3] false)
 (.seq (.seq (.region 1 #[m 9 0 22, o 10 (.call { callee := .builtin .len, args := #[.tmp 9], argTypes := #[22] }) 3, o 11 (.binOp .gtr 3 (.tmp 10) (.const (.int .i64 1048576)) 3) 4] false)
 (.cond (.tmp 11)
 (.seq (.region 2 #[o 12 (.build 30 #[]) 30, ⟨none, .store 30 (.tmp 2) (.tmp 12), 0, "", #[], none⟩, o 3 (.assign (.const (.int .i64 0))) 3, o 4 (.assign (.const (.int .i64 3))) 3] false)
 .ret)
 .skip))
 (.seq (.region 3 #[m 14 0 22, m 15 0 22, o 16 (.call { callee := .builtin .len, args := #[.tmp 15], argTypes := #[22] }) 3, o 17 (.call { callee := .value (.func 68), args := #[.tmp 14, .const (.int .i64 0), .tmp 16, .const (.int .i64 1), .const (.int .i64 0)], argTypes := #[22, 3, 3, 3, 3] }) 101, m 13 17 101, o 18 (.extract (.tmp 13) 0) 30, o 19 (.extract (.tmp 13) 1) 3, o 20 (.extract (.tmp 13) 2) 3, o 21 (.extract (.tmp 13) 3) 3, o 5 (.alloc 30) 0, ⟨none, .store 30 (.tmp 5) (.tmp 18), 0, "", #[], none⟩, o 6 (.assign (.tmp 19)) 3, o 7 (.assign (.tmp 20)) 3, o 8 (.assign (.tmp 21)) 3] false)
 (.seq (.seq (.region 4 #[m 22 8 3, o 23 (.binOp .neq 3 (.tmp 22) (.const (.int .i64 0)) 3) 4] false)
 (.cond (.tmp 23)
 (.seq (.region 5 #[o 24 (.build 30 #[]) 30, m 25 6 3, m 26 8 3, ⟨none, .store 30 (.tmp 2) (.tmp 24), 0, "", #[], none⟩, o 3 (.assign (.tmp 25)) 3, o 4 (.assign (.tmp 26)) 3] false)
 .ret)
 .skip))
 (.seq (.seq (.region 6 #[m 27 6 3, m 28 0 22, o 29 (.call { callee := .builtin .len, args := #[.tmp 28], argTypes := #[22] }) 3, o 30 (.binOp .lss 3 (.tmp 27) (.tmp 29) 3) 4] false)
 (.cond (.tmp 30)
 (.seq (.region 7 #[o 31 (.build 30 #[]) 30, m 32 6 3, ⟨none, .store 30 (.tmp 2) (.tmp 31), 0, "", #[], none⟩, o 3 (.assign (.tmp 32)) 3, o 4 (.assign (.const (.int .i64 8))) 3] false)
 .ret)
 .skip))
 (.seq (.region 8 #[o 33 (.load 30 (.tmp 5)) 30, ⟨none, .store 30 (.tmp 2) (.tmp 33), 0, "", #[], none⟩, o 3 (.assign (.const (.int .i64 0))) 3, o 4 (.assign (.const (.int .i64 0))) 3] false)
 .ret))))))
def fn19 : AFn := { ntmps := 34, results := [.cell 2 30, .tmp 3, .tmp 4], body := c19, keep := fun | 0 => some [0, 2] | 1 => some [0, 2, 11] | 2 => some [2, 3, 4] | 3 => some [0, 2, 5, 6, 8] | 4 => some [0, 2, 5, 6, 8, 23] | 5 => some [2, 3, 4] | 6 => some [2, 5, 6, 30] | 7 => some [2, 3, 4] | 8 => some [2, 3, 4] | _ => none, head := fun  | _ => none, opn := fun _ => none, dyn := fun _ => [] }
def c20 : Code :=
  (.seq (.region 0 #[o 5 (.box 30 (.tmp 1)) 0, o 8 (.assign (.const (.bool false))) 4] false)
 (.seq (.region 1 #[m 13 0 22, o 14 (.call { callee := .value (.func 34), args := #[.tmp 13], argTypes := #[22] }) 56, m 12 14 56, o 15 (.extract (.tmp 12) 0) 30, o 16 (.extract (.tmp 12) 1) 3, o 17 (.extract (.tmp 12) 2) 34, o 9 (.alloc 30) 0, ⟨none, .store 30 (.tmp 9) (.tmp 15), 0, "", #[], none⟩, o 10 (.assign (.tmp 16)) 3, o 11 (.assign (.tmp 17)) 34] false)
 (.seq (.region 2 #[o 18 (.load 30 (.tmp 9)) 30, o 19 (.call { callee := .value (.func 26), args := #[.tmp 18, .const (.int .i64 9000)], argTypes := #[30, 3] }) 3, o 20 (.binOp .leq 3 (.tmp 19) (.const (.int .i64 9000)) 3) 4, m 21 20 4, ⟨some 22, .load 30 (.tmp 9), 30, "", #[], some (21, true)⟩, ⟨some 23, .load 30 (.tmp 5), 30, "", #[], some (21, true)⟩, ⟨some 24, .call { callee := .value (.func 24), args := #[.tmp 22, .tmp 23], argTypes := #[30, 30] }, 4, "", #[], some (21, true)⟩, o 25 (.pick (.tmp 21) (.tmp 24) (.const (.bool false))) 4, m 26 25 4, ⟨some 27, .load 30 (.tmp 9), 30, "", #[], some (26, true)⟩, ⟨some 28, .call { callee := .value (.func 27), args := #[.tmp 27], argTypes := #[30] }, 4, "", #[], some (26, true)⟩, o 29 (.pick (.tmp 26) (.tmp 28) (.const (.bool false))) 4, m 30 29 4, ⟨some 31, .move (.tmp 10), 3, "", #[], some (30, true)⟩, ⟨some 32, .move (.tmp 2), 3, "", #[], some (30, true)⟩, ⟨some 33, .binOp .eql 3 (.tmp 31) (.tmp 32) 3, 4, "", #[], some (30, true)⟩, o 34 (.pick (.tmp 30) (.tmp 33) (.const (.bool false))) 4, m 35 34 4, ⟨some 36, .move (.tmp 11), 34, "", #[], some (35, true)⟩, ⟨some 37, .move (.tmp 3), 3, "", #[], some (35, true)⟩, ⟨some 38, .binOp .eql 3 (.tmp 36) (.tmp 37) 3, 4, "", #[], some (35, true)⟩, o 39 (.pick (.tmp 35) (.tmp 38) (.const (.bool false))) 4, o 8 (.assign (.tmp 39)) 4] false)
 .ret)))
def fn20 : AFn := { ntmps := 40, results := [.tmp 8], body := c20, keep := fun | 0 => some [0, 2, 3, 5] | 1 => some [2, 3, 5, 9, 10, 11] | 2 => some [8] | _ => none, head := fun  | _ => none, opn := fun _ => none, dyn := fun _ => [] }
def c21 : Code :=
  (.seq (.region 0 #[o 1 (.box 30 (.tmp 0)) 0, o 2 (.assign (.const (.slice none 0 0))) 22, o 3 (.assign (.const (.int .i64 0))) 34] false)
 (.seq (.seq (.region 1 #[o 6 (.load 30 (.tmp 1)) 30, o 7 (.call { callee := .value (.func 32), args := #[.tmp 6], argTypes := #[30] }) 34, o 4 (.assign (.tmp 7)) 34] false)
 (.seq (.region 2 #[m 8 4 34, o 9 (.binOp .neq 34 (.tmp 8) (.const (.int .i64 0)) 34) 4] false)
 (.cond (.tmp 9)
 (.seq (.region 3 #[m 10 4 34, o 2 (.assign (.const (.slice none 0 0))) 22, o 3 (.assign (.tmp 10)) 34] false)
 .ret)
 .skip)))
 (.seq (.region 4 #[o 11 (.load 30 (.tmp 1)) 30, o 12 (.call { callee := .value (.func 69), args := #[.tmp 11], argTypes := #[30] }) 3, o 5 (.assign (.tmp 12)) 3] false)
 (.seq (.seq (.region 5 #[m 13 5 3, o 14 (.binOp .gtr 3 (.tmp 13) (.const (.int .i64 1048576)) 3) 4] false)
 (.cond (.tmp 14)
 (.seq (.region 6 #[o 2 (.assign (.const (.slice none 0 0))) 22, o 3 (.assign (.const (.int .i64 3))) 34] false)
 .ret)
 .skip))
 (.seq (.region 7 #[m 15 5 3, o 16 (.makeSlice 22 (.const (.int .i64 0)) (.tmp 15)) 22, o 17 (.load 30 (.tmp 1)) 30, o 18 (.call { callee := .value (.func 70), args := #[.tmp 16, .tmp 17], argTypes := #[22, 30] }) 22, o 2 (.assign (.tmp 18)) 22, o 3 (.assign (.const (.int .i64 0))) 34] true)
 .ret)))))
def fn21 : AFn := { ntmps := 19, results := [.tmp 2, .tmp 3], body := c21, keep := fun | 0 => some [1] | 1 => some [1, 4] | 2 => some [1, 4, 9] | 3 => some [2, 3] | 4 => some [1, 5] | 5 => some [1, 5, 14] | 6 => some [2, 3] | 7 => some [2, 3] | _ => none, head := fun  | _ => none, opn := opnT, dyn := fun | 7 => [(3, 3)] | _ => [] }
def c22 : Code :=
  (.seq (.region 0 #[o 1 (.box 40 (.tmp 0)) 0, o 2 (.alloc 30) 0] false)
 (.seq (.region 1 #[o 3 (.assign (.const (.slice none 0 0))) 28] false)
 (.seq (.seq (.region 2 #[o 4 (.assign (.const (.int .i64 0))) 3] false)
 (.block 0 (.loop (.seq (.seq (.region 3 #[m 9 4 3, o 10 (.fieldAddr 40 (.tmp 1) 0) 0, o 11 (.load 38 (.tmp 10)) 38, o 12 (.call { callee := .builtin .len, args := #[.tmp 11], argTypes := #[38] }) 3, o 13 (.binOp .lss 3 (.tmp 9) (.tmp 12) 3) 4, m 14 13 4, ⟨some 15, .move (.tmp 4), 3, "", #[], some (14, true)⟩, ⟨some 16, .binOp .lss 3 (.tmp 15) (.const (.int .i64 39)) 3, 4, "", #[], some (14, true)⟩, o 17 (.pick (.tmp 14) (.tmp 16) (.const (.bool false))) 4] false)
 (.cond (.tmp 17)
 .skip
 (.exit 0)))
 (.seq (.block 1 (.seq (.region 5 #[o 20 (.fieldAddr 40 (.tmp 1) 0) 0, o 21 (.load 38 (.tmp 20)) 38, m 22 4 3, o 23 (.indexAddr 38 (.tmp 21) (.tmp 22)) 0, o 24 (.load 107 (.tmp 23)) 107, o 5 (.alloc 107) 0, ⟨none, .store 107 (.tmp 5) (.tmp 24), 0, "", #[], none⟩] false)
 (.seq (.seq (.region 6 #[o 25 (.fieldAddr 107 (.tmp 5) 0) 0, o 26 (.load 5 (.tmp 25)) 5, o 27 (.binOp .rem 5 (.tmp 26) (.const (.int .u8 3)) 5) 5, o 28 (.binOp .eql 5 (.tmp 27) (.const (.int .u8 0)) 5) 4] false)
 (.cond (.tmp 28)
 (.seq (.region 7 #[o 29 (.fieldAddr 107 (.tmp 5) 2) 0, o 30 (.fieldAddr 105 (.tmp 29) 1) 0, ⟨none, .store 5 (.tmp 30) (.const (.int .u8 0)), 0, "", #[], none⟩] false)
 (.seq (.region 8 #[o 31 (.fieldAddr 107 (.tmp 5) 2) 0, o 32 (.load 105 (.tmp 31)) 105, o 33 (.call { callee := .value (.func 71), args := #[.tmp 32], argTypes := #[105] }) 27, o 34 (.build 30 #[(0, .tmp 33)]) 30, o 6 (.alloc 30) 0, ⟨none, .store 30 (.tmp 6) (.tmp 34), 0, "", #[], none⟩] false)
 (.seq (.region 9 #[o 35 (.fieldAddr 30 (.tmp 6) 1) 0, o 36 (.load 22 (.tmp 35)) 22, o 37 (.fieldAddr 107 (.tmp 5) 3) 0, o 38 (.load 22 (.tmp 37)) 22, o 39 (.fieldAddr 107 (.tmp 5) 3) 0, o 40 (.load 22 (.tmp 39)) 22, o 41 (.call { callee := .builtin .len, args := #[.tmp 40], argTypes := #[22] }) 3, o 42 (.call { callee := .builtin .min, args := #[.const (.int .i64 20), .tmp 41], argTypes := #[3, 3] }) 3, o 43 (.slice 22 (.tmp 38) none (some (.tmp 42)) none) 22, ⟨some 44, .call { callee := .builtin .append, args := #[.tmp 36, .tmp 43], argTypes := #[22, 22] }, 22, "", fz, none⟩, o 45 (.fieldAddr 30 (.tmp 6) 1) 0, ⟨none, .store 22 (.tmp 45) (.tmp 44), 0, "", #[], none⟩] true)
 (.seq (.region 10 #[m 46 3 28, o 47 (.load 30 (.tmp 6)) 30, o 48 (.buildSlice 28 1 #[(0, .tmp 47)]) 28, o 49 (.call { callee := .builtin .append, args := #[.tmp 46, .tmp 48], argTypes := #[28, 28] }) 28, o 3 (.assign (.tmp 49)) 28] false)
 (.exit 1)))))
 .skip))
 (.seq (.region 11 #[o 50 (.fieldAddr 107 (.tmp 5) 2) 0, o 51 (.fieldAddr 105 (.tmp 50) 1) 0, ⟨none, .store 5 (.tmp 51) (.const (.int .u8 1)), 0, "", #[], none⟩] false)
 (.seq (.region 12 #[o 52 (.fieldAddr 107 (.tmp 5) 1) 0, o 53 (.load 5 (.tmp 52)) 5, o 54 (.binOp .rem 5 (.tmp 53) (.const (.int .u8 5)) 5) 5, o 55 (.convert 5 3 (.tmp 54)) 3, m 56 3 28, o 57 (.call { callee := .builtin .len, args := #[.tmp 56], argTypes := #[28] }) 3, o 58 (.call { callee := .builtin .min, args := #[.tmp 55, .tmp 57], argTypes := #[3, 3] }) 3, o 7 (.assign (.tmp 58)) 3] false)
 (.seq (.seq (.region 13 #[o 59 (.fieldAddr 107 (.tmp 5) 0) 0, o 60 (.load 5 (.tmp 59)) 5, o 61 (.binOp .rem 5 (.tmp 60) (.const (.int .u8 3)) 5) 5, o 62 (.binOp .eql 5 (.tmp 61) (.const (.int .u8 2)) 5) 4] false)
 (.cond (.tmp 62)
 (.region 14 #[m 63 3 28, o 64 (.call { callee := .builtin .len, args := #[.tmp 63], argTypes := #[28] }) 3, o 7 (.assign (.tmp 64)) 3] false)
 .skip))
 (.seq (.region 15 #[o 65 (.fieldAddr 107 (.tmp 5) 2) 0, o 66 (.load 105 (.tmp 65)) 105, o 67 (.call { callee := .value (.func 71), args := #[.tmp 66], argTypes := #[105] }) 27, o 68 (.build 30 #[(0, .tmp 67)]) 30, o 8 (.alloc 30) 0, ⟨none, .store 30 (.tmp 8) (.tmp 68), 0, "", #[], none⟩] false)
 (.seq (.region 16 #[o 69 (.fieldAddr 30 (.tmp 8) 2) 0, o 70 (.load 28 (.tmp 69)) 28, m 71 3 28, m 72 3 28, o 73 (.call { callee := .builtin .len, args := #[.tmp 72], argTypes := #[28] }) 3, m 74 7 3, o 75 (.binOp .sub 3 (.tmp 73) (.tmp 74) 3) 3, o 76 (.slice 28 (.tmp 71) (some (.tmp 75)) none none) 28, ⟨some 77, .call { callee := .builtin .append, args := #[.tmp 70, .tmp 76], argTypes := #[28, 28] }, 28, "", fz, none⟩, o 78 (.fieldAddr 30 (.tmp 8) 2) 0, ⟨none, .store 28 (.tmp 78) (.tmp 77), 0, "", #[], none⟩] true)
 (.seq (.region 17 #[o 79 (.load 30 (.tmp 8)) 30, o 80 (.call { callee := .value (.func 40), args := #[.tmp 79], argTypes := #[30] }) 3, o 81 (.binOp .lss 3 (.tmp 80) (.const (.int .i64 15)) 3) 4] false)
 (.cond (.tmp 81)
 (.region 18 #[o 82 (.buildSlice 28 0 #[]) 28, m 83 3 28, m 84 3 28, o 85 (.call { callee := .builtin .len, args := #[.tmp 84], argTypes := #[28] }) 3, m 86 7 3, o 87 (.binOp .sub 3 (.tmp 85) (.tmp 86) 3) 3, o 88 (.slice 28 (.tmp 83) none (some (.tmp 87)) none) 28, o 89 (.call { callee := .builtin .append, args := #[.tmp 82, .tmp 88], argTypes := #[28, 28] }) 28, o 90 (.load 30 (.tmp 8)) 30, o 91 (.buildSlice 28 1 #[(0, .tmp 90)]) 28, o 92 (.call { callee := .builtin .append, args := #[.tmp 89, .tmp 91], argTypes := #[28, 28] }) 28, o 3 (.assign (.tmp 92)) 28] true)
 .skip))))))))))
 (.region 4 #[m 18 4 3, o 19 (.binOp .add 3 (.tmp 18) (.const (.int .i64 1)) 3) 3, o 4 (.assign (.tmp 19)) 3] false))))))
 (.seq (.seq (.region 19 #[m 93 3 28, o 94 (.call { callee := .builtin .len, args := #[.tmp 93], argTypes := #[28] }) 3, o 95 (.binOp .eql 3 (.tmp 94) (.const (.int .i64 1)) 3) 4] false)
 (.cond (.tmp 95)
 (.seq (.region 20 #[m 96 3 28, o 97 (.indexAddr 28 (.tmp 96) (.const (.int .i64 0))) 0, o 98 (.load 30 (.tmp 97)) 30, ⟨none, .store 30 (.tmp 2) (.tmp 98), 0, "", #[], none⟩] false)
 .ret)
 .skip))
 (.seq (.region 21 #[o 99 (.build 27 #[(1, .const (.bool true)), (2, .const (.int .u32 16))]) 27, m 100 3 28, o 101 (.build 30 #[(0, .tmp 99), (2, .tmp 100)]) 30, ⟨none, .store 30 (.tmp 2) (.tmp 101), 0, "", #[], none⟩] false)
 .ret)))))
def fn22 : AFn := { ntmps := 102, results := [.cell 2 30], body := c22, keep := fun | 0 => some [1, 2] | 1 => some [1, 2, 3] | 2 => some [1, 2, 3, 4] | 3 => some [1, 2, 3, 4, 17] | 4 => some [1, 2, 3, 4] | 5 => some [1, 2, 3, 4, 5] | 6 => some [1, 2, 3, 4, 5, 28] | 7 => some [1, 2, 3, 4, 5] | 8 => some [1, 2, 3, 4, 5, 6] | 9 => some [1, 2, 3, 4, 6] | 10 => some [1, 2, 3, 4] | 11 => some [1, 2, 3, 4, 5] | 12 => some [1, 2, 3, 4, 5, 7] | 13 => some [1, 2, 3, 4, 5, 7, 62] | 14 => some [1, 2, 3, 4, 5, 7] | 15 => some [1, 2, 3, 4, 7, 8] | 16 => some [1, 2, 3, 4, 7, 8] | 17 => some [1, 2, 3, 4, 7, 8, 81] | 18 => some [1, 2, 3, 4] | 19 => some [2, 3, 95] | 20 => some [2] | 21 => some [2] | _ => none, head := fun | 3 => some [1, 2, 3, 4] | _ => none, opn := fun _ => none, dyn := fun | 18 => [(7, 8)] | _ => [] }
def d23_0 : Code :=
  (.region 0 #[o 2 (.alloc 30) 0, o 3 (.alloc 3) 0, o 4 (.alloc 3) 0, o 5 (.alloc 34) 0] false)
def d23_1 : Code :=
  (.region 1 #[m 7 0 22, o 8 (.call { callee := .builtin .len, args := #[.tmp 7], argTypes := #[22] }) 3, o 9 (.binOp .gtr 3 (.tmp 8) (.const (.int .i64 1048576)) 3) 4] false)
def d23_2 : Code :=
  (.cond (.tmp 9)
 (.seq (.region 2 #[o 10 (.build 30 #[]) 30, ⟨none, .store 30 (.tmp 2) (.tmp 10), 0, "", #[], none⟩, ⟨none, .store 3 (.tmp 3) (.const (.int .i64 0)), 0, "", #[], none⟩, ⟨none, .store 3 (.tmp 4) (.const (.int .i64 0)), 0, "", #[], none⟩, ⟨none, .store 34 (.tmp 5) (.const (.int .i64 3)), 0, "", #[], none⟩] false)
 .ret)
 .skip)
def d23_4 : Code :=
  (.region 4 #[m 12 0 22, o 13 (.build 113 #[(0, .tmp 12)]) 113, o 6 (.alloc 113) 0, ⟨none, .store 113 (.tmp 6) (.tmp 13), 0, "", #[], none⟩] false)
def d23_5 : Code :=
  (.region 5 #[m 15 0 22, o 16 (.call { callee := .builtin .len, args := #[.tmp 15], argTypes := #[22] }) 3, o 17 (.call { callee := .value (.func 73), args := #[.tmp 6, .const (.int .i64 0), .tmp 16, .const (.int .i64 1)], argTypes := #[113, 3, 3, 3] }) 114, m 14 17 114, o 18 (.extract (.tmp 14) 0) 30, o 19 (.extract (.tmp 14) 1) 3, ⟨none, .store 30 (.tmp 2) (.tmp 18), 0, "", #[], none⟩, ⟨none, .store 3 (.tmp 3) (.tmp 19), 0, "", #[], none⟩] false)
def d23_6 : Code :=
  (.region 6 #[o 20 (.load 30 (.tmp 2)) 30, o 21 (.load 3 (.tmp 3)) 3, ⟨none, .store 30 (.tmp 2) (.tmp 20), 0, "", #[], none⟩, ⟨none, .store 3 (.tmp 3) (.tmp 21), 0, "", #[], none⟩, ⟨none, .store 3 (.tmp 4) (.const (.int .i64 0)), 0, "", #[], none⟩, ⟨none, .store 34 (.tmp 5) (.const (.int .i64 0)), 0, "", #[], none⟩] true)
def d23_7 : Code :=
  .ret
def e23_0 : Code :=
  (.region 1 #[m 8 4 20, o 9 (.binOp .neq 20 (.tmp 8) (.const .nilIface) 20) 4] false)
def e23_1 : Code :=
  (.cond (.tmp 9)
 (.seq (.region 2 #[m 11 4 20, o 12 (.typeAssert (.tmp 11) 20 110 true) 111, m 10 12 111, o 13 (.extract (.tmp 10) 0) 110, o 14 (.extract (.tmp 10) 1) 4, o 5 (.alloc 110) 0, ⟨none, .store 110 (.tmp 5) (.tmp 13), 0, "", #[], none⟩, o 6 (.assign (.tmp 14)) 4] false)
 (.seq (.seq (.region 3 #[m 15 6 4, o 16 (.unOp .not 4 (.tmp 15)) 4] false)
 (.cond (.tmp 16)
 (.region 4 #[m 17 4 20, ⟨none, .panic (.tmp 17), 0, "", #[], none⟩] false)
 .skip))
 (.region 5 #[o 18 (.build 30 #[]) 30, o 19 (.fieldAddr 110 (.tmp 5) 0) 0, o 20 (.load 3 (.tmp 19)) 3, o 21 (.fieldAddr 110 (.tmp 5) 1) 0, o 22 (.load 34 (.tmp 21)) 34, ⟨none, .store 30 (.tmp 0) (.tmp 18), 0, "", #[], none⟩, ⟨none, .store 3 (.tmp 1) (.const (.int .i64 0)), 0, "", #[], none⟩, ⟨none, .store 3 (.tmp 2) (.tmp 20), 0, "", #[], none⟩, ⟨none, .store 34 (.tmp 3) (.tmp 22), 0, "", #[], none⟩] true)))
 .skip)
def fn23 : AFn := { ntmps := 22, results := [.cell 2 30, .cell 3 3, .cell 4 3, .cell 5 34], body := .refuse "", keep := fun | 0 => some [0, 2, 3, 4, 5] | 1 => some [0, 2, 3, 4, 5, 9] | 2 => some [2, 3, 4, 5] | 3 => some [0, 2, 3, 4, 5] | 4 => some [0, 2, 3, 4, 5, 6] | 5 => some [2, 3, 4, 5] | 6 => some [2, 3, 4, 5] | _ => none, head := fun  | _ => none, opn := opnT, dyn := fun | 6 => [(1, 2)] | _ => [] }
def gfn23 : AFn := { ntmps := 23, results := [], body := .refuse "", keep := fun | 0 => some [0, 1, 2, 3, 4] | 1 => some [0, 1, 2, 3, 4, 9] | 2 => some [0, 1, 2, 3, 4, 5, 6] | 3 => some [0, 1, 2, 3, 4, 5, 16] | 4 => some [0, 1, 2, 3, 5] | 5 => some [] | _ => none, head := fun  | _ => none, opn := opnT, dyn := fun | 5 => [(2, 5), (4, 5), (2, 6), (4, 6), (4, 7)] | _ => [] }
def grd23 : Grd := { pre := [d23_0, d23_1, d23_2], t := 11, caps := [2, 3, 4, 5], post := [d23_4, d23_5, d23_6, d23_7], g := 72, rs := [4, 7], gfn := gfn23, gpost := [e23_0, e23_1] }
def c24 : Code :=
  (.seq (.region 0 #[o 2 (.box 30 (.tmp 0)) 0, o 3 (.box 30 (.tmp 1)) 0, o 4 (.assign (.const (.bool false))) 4] false)
 (.seq (.seq (.region 1 #[o 6 (.fieldAddr 30 (.tmp 2) 0) 0, o 7 (.load 27 (.tmp 6)) 27, o 8 (.fieldAddr 30 (.tmp 3) 0) 0, o 9 (.load 27 (.tmp 8)) 27, o 10 (.binOp .neq 27 (.tmp 7) (.tmp 9) 27) 4, m 11 10 4, ⟨some 12, .fieldAddr 30 (.tmp 2) 1, 0, "", #[], some (11, false)⟩, ⟨some 13, .load 22 (.tmp 12), 22, "", #[], some (11, false)⟩, ⟨some 14, .convert 22 9 (.tmp 13), 9, "", #[], some (11, false)⟩, ⟨some 15, .fieldAddr 30 (.tmp 3) 1, 0, "", #[], some (11, false)⟩, ⟨some 16, .load 22 (.tmp 15), 22, "", #[], some (11, false)⟩, ⟨some 17, .convert 22 9 (.tmp 16), 9, "", #[], some (11, false)⟩, ⟨some 18, .binOp .neq 9 (.tmp 14) (.tmp 17) 9, 4, "", #[], some (11, false)⟩, o 19 (.pick (.tmp 11) (.const (.bool true)) (.tmp 18)) 4, m 20 19 4, ⟨some 21, .fieldAddr 30 (.tmp 2) 2, 0, "", #[], some (20, false)⟩, ⟨some 22, .load 28 (.tmp 21), 28, "", #[], some (20, false)⟩, ⟨some 23, .call { callee := .builtin .len, args := #[.tmp 22], argTypes := #[28] }, 3, "", #[], some (20, false)⟩, ⟨some 24, .fieldAddr 30 (.tmp 3) 2, 0, "", #[], some (20, false)⟩, ⟨some 25, .load 28 (.tmp 24), 28, "", #[], some (20, false)⟩, ⟨some 26, .call { callee := .builtin .len, args := #[.tmp 25], argTypes := #[28] }, 3, "", #[], some (20, false)⟩, ⟨some 27, .binOp .neq 3 (.tmp 23) (.tmp 26) 3, 4, "", #[], some (20, false)⟩, o 28 (.pick (.tmp 20) (.const (.bool true)) (.tmp 27)) 4] false)
 (.cond (.tmp 28)
 (.seq (.region 2 #[o 4 (.assign (.const (.bool false))) 4] false)
 .ret)
 .skip))
 (.seq (.seq (.region 3 #[o 5 (.assign (.const (.int .i64 0))) 3] false)
 (.block 0 (.loop (.seq (.seq (.region 4 #[m 29 5 3, o 30 (.fieldAddr 30 (.tmp 2) 2) 0, o 31 (.load 28 (.tmp 30)) 28, o 32 (.call { callee := .builtin .len, args := #[.tmp 31], argTypes := #[28] }) 3, o 33 (.binOp .lss 3 (.tmp 29) (.tmp 32) 3) 4] false)
 (.cond (.tmp 33)
 .skip
 (.exit 0)))
 (.seq (.block 1 (.seq (.region 6 #[o 36 (.fieldAddr 30 (.tmp 2) 2) 0, o 37 (.load 28 (.tmp 36)) 28, m 38 5 3, o 39 (.indexAddr 28 (.tmp 37) (.tmp 38)) 0, o 40 (.load 30 (.tmp 39)) 30, o 41 (.fieldAddr 30 (.tmp 3) 2) 0, o 42 (.load 28 (.tmp 41)) 28, m 43 5 3, o 44 (.indexAddr 28 (.tmp 42) (.tmp 43)) 0, o 45 (.load 30 (.tmp 44)) 30, o 46 (.call { callee := .value (.func 24), args := #[.tmp 40, .tmp 45], argTypes := #[30, 30] }) 4, o 47 (.unOp .not 4 (.tmp 46)) 4] true)
 (.cond (.tmp 47)
 (.seq (.region 7 #[o 4 (.assign (.const (.bool false))) 4] false)
 .ret)
 .skip)))
 (.region 5 #[m 34 5 3, o 35 (.binOp .add 3 (.tmp 34) (.const (.int .i64 1)) 3) 3, o 5 (.assign (.tmp 35)) 3] false))))))
 (.seq (.region 8 #[o 4 (.assign (.const (.bool true))) 4] false)
 .ret))))
def fn24 : AFn := { ntmps := 48, results := [.tmp 4], body := c24, keep := fun | 0 => some [2, 3] | 1 => some [2, 3, 28] | 2 => some [4] | 3 => some [2, 3, 5] | 4 => some [2, 3, 5, 33] | 5 => some [2, 3, 5] | 6 => some [2, 3, 5, 47] | 7 => some [4] | 8 => some [4] | _ => none, head := fun | 4 => some [2, 3, 5] | _ => none, opn := fun _ => none, dyn := fun _ => [] }
def c25 : Code :=
  (.seq (.region 0 #[o 2 (.box 30 (.tmp 0)) 0, o 4 (.alloc 30) 0, o 5 (.assign (.const (.int .i64 0))) 34] false)
 (.seq (.seq (.region 1 #[o 9 (.load 30 (.tmp 2)) 30, o 10 (.call { callee := .value (.func 32), args := #[.tmp 9], argTypes := #[30] }) 34, o 6 (.assign (.tmp 10)) 34] false)
 (.seq (.region 2 #[m 11 6 34, o 12 (.binOp .neq 34 (.tmp 11) (.const (.int .i64 0)) 34) 4] false)
 (.cond (.tmp 12)
 (.seq (.region 3 #[o 13 (.build 30 #[]) 30, m 14 6 34, ⟨none, .store 30 (.tmp 4) (.tmp 13), 0, "", #[], none⟩, o 5 (.assign (.tmp 14)) 34] false)
 .ret)
 .skip)))
 (.seq (.seq (.region 4 #[m 15 1 47, o 16 (.call { callee := .builtin .len, args := #[.tmp 15], argTypes := #[47] }) 3, o 17 (.move (.const (.int .i64 0))) 3] false)
 (.block 0 (.loop (.seq (.region 5 #[o 18 (.binOp .lss 3 (.tmp 17) (.tmp 16) 3) 0] false)
 (.seq (.cond (.tmp 18)
 .skip
 (.exit 0))
 (.seq (.block 1 (.seq (.region 6 #[o 19 (.indexAddr 47 (.tmp 15) (.tmp 17)) 0, o 20 (.load 3 (.tmp 19)) 3, o 8 (.assign (.tmp 20)) 3] false)
 (.seq (.seq (.region 7 #[m 21 8 3, o 22 (.binOp .lss 3 (.tmp 21) (.const (.int .i64 0)) 3) 4, m 23 22 4, ⟨some 24, .move (.tmp 8), 3, "", #[], some (23, false)⟩, ⟨some 25, .fieldAddr 30 (.tmp 2) 2, 0, "", #[], some (23, false)⟩, ⟨some 26, .load 28 (.tmp 25), 28, "", #[], some (23, false)⟩, ⟨some 27, .call { callee := .builtin .len, args := #[.tmp 26], argTypes := #[28] }, 3, "", #[], some (23, false)⟩, ⟨some 28, .binOp .geq 3 (.tmp 24) (.tmp 27) 3, 4, "", #[], some (23, false)⟩, o 29 (.pick (.tmp 23) (.const (.bool true)) (.tmp 28)) 4] false)
 (.cond (.tmp 29)
 (.seq (.region 8 #[o 30 (.build 30 #[]) 30, ⟨none, .store 30 (.tmp 4) (.tmp 30), 0, "", #[], none⟩, o 5 (.assign (.const (.int .i64 19))) 34] false)
 .ret)
 .skip))
 (.region 9 #[o 31 (.fieldAddr 30 (.tmp 2) 2) 0, o 32 (.load 28 (.tmp 31)) 28, m 33 8 3, o 34 (.indexAddr 28 (.tmp 32) (.tmp 33)) 0, o 35 (.load 30 (.tmp 34)) 30, ⟨none, .store 30 (.tmp 2) (.tmp 35), 0, "", #[], none⟩] false))))
 (.region 10 #[o 36 (.binOp .add 3 (.tmp 17) (.const (.int .i64 1)) 3) 3, m 17 36 3] false)))))))
 (.seq (.region 11 #[o 37 (.load 30 (.tmp 2)) 30, o 38 (.call { callee := .value (.func 74), args := #[.tmp 37], argTypes := #[30] }) 30, ⟨none, .store 30 (.tmp 4) (.tmp 38), 0, "", #[], none⟩, o 5 (.assign (.const (.int .i64 0))) 34] false)
 .ret))))
def fn25 : AFn := { ntmps := 39, results := [.cell 4 30, .tmp 5], body := c25, keep := fun | 0 => some [1, 2, 4] | 1 => some [1, 2, 4, 6] | 2 => some [1, 2, 4, 6, 12] | 3 => some [4, 5] | 4 => some [2, 4, 15, 16, 17] | 5 => some [2, 4, 15, 16, 17, 18] | 6 => some [2, 4, 8, 15, 16, 17] | 7 => some [2, 4, 8, 15, 16, 17, 29] | 8 => some [4, 5] | 9 => some [2, 4, 15, 16, 17] | 10 => some [2, 4, 15, 16, 17] | 11 => some [4, 5] | _ => none, head := fun | 5 => some [2, 4, 15, 16, 17] | _ => none, opn := fun _ => none, dyn := fun _ => [] }
def c26 : Code :=
  (.seq (.region 0 #[o 2 (.box 30 (.tmp 0)) 0, o 4 (.assign (.const (.int .i64 0))) 3] false)
 (.seq (.seq (.region 1 #[m 7 1 3, o 8 (.binOp .leq 3 (.tmp 7) (.const (.int .i64 0)) 3) 4] false)
 (.cond (.tmp 8)
 (.seq (.region 2 #[o 4 (.assign (.const (.int .i64 1))) 3] false)
 .ret)
 .skip))
 (.seq (.region 3 #[o 5 (.assign (.const (.int .i64 1))) 3] false)
 (.seq (.seq (.region 4 #[o 6 (.assign (.const (.int .i64 0))) 3] false)
 (.block 0 (.loop (.seq (.seq (.region 5 #[m 9 6 3, o 10 (.fieldAddr 30 (.tmp 2) 2) 0, o 11 (.load 28 (.tmp 10)) 28, o 12 (.call { callee := .builtin .len, args := #[.tmp 11], argTypes := #[28] }) 3, o 13 (.binOp .lss 3 (.tmp 9) (.tmp 12) 3) 4, m 14 13 4, ⟨some 15, .move (.tmp 5), 3, "", #[], some (14, true)⟩, ⟨some 16, .move (.tmp 1), 3, "", #[], some (14, true)⟩, ⟨some 17, .binOp .leq 3 (.tmp 15) (.tmp 16) 3, 4, "", #[], some (14, true)⟩, o 18 (.pick (.tmp 14) (.tmp 17) (.const (.bool false))) 4] false)
 (.cond (.tmp 18)
 .skip
 (.exit 0)))
 (.seq (.block 1 (.region 7 #[m 21 5 3, o 22 (.fieldAddr 30 (.tmp 2) 2) 0, o 23 (.load 28 (.tmp 22)) 28, m 24 6 3, o 25 (.indexAddr 28 (.tmp 23) (.tmp 24)) 0, o 26 (.load 30 (.tmp 25)) 30, m 27 1 3, m 28 5 3, o 29 (.binOp .sub 3 (.tmp 27) (.tmp 28) 3) 3, o 30 (.call { callee := .value (.func 26), args := #[.tmp 26, .tmp 29], argTypes := #[30, 3] }) 3, o 31 (.binOp .add 3 (.tmp 21) (.tmp 30) 3) 3, o 5 (.assign (.tmp 31)) 3] false))
 (.region 6 #[m 19 6 3, o 20 (.binOp .add 3 (.tmp 19) (.const (.int .i64 1)) 3) 3, o 6 (.assign (.tmp 20)) 3] false))))))
 (.seq (.region 8 #[m 32 5 3, o 4 (.assign (.tmp 32)) 3] false)
 .ret)))))
def fn26 : AFn := { ntmps := 33, results := [.tmp 4], body := c26, keep := fun | 0 => some [1, 2] | 1 => some [1, 2, 8] | 2 => some [4] | 3 => some [1, 2, 5] | 4 => some [1, 2, 5, 6] | 5 => some [1, 2, 5, 6, 18] | 6 => some [1, 2, 5, 6] | 7 => some [1, 2, 5, 6] | 8 => some [4] | _ => none, head := fun | 5 => some [1, 2, 5, 6] | _ => none, opn := fun _ => none, dyn := fun _ => [] }
def c27 : Code :=
  (.seq (.region 0 #[o 1 (.box 30 (.tmp 0)) 0, o 2 (.assign (.const (.bool false))) 4] false)
 (.seq (.seq (.region 1 #[o 4 (.fieldAddr 30 (.tmp 1) 1) 0, o 5 (.load 22 (.tmp 4)) 22, o 6 (.call { callee := .builtin .cap, args := #[.tmp 5], argTypes := #[22] }) 3, o 7 (.fieldAddr 30 (.tmp 1) 1) 0, o 8 (.load 22 (.tmp 7)) 22, o 9 (.call { callee := .builtin .len, args := #[.tmp 8], argTypes := #[22] }) 3, o 10 (.binOp .neq 3 (.tmp 6) (.tmp 9) 3) 4, m 11 10 4, ⟨some 12, .fieldAddr 30 (.tmp 1) 2, 0, "", #[], some (11, false)⟩, ⟨some 13, .load 28 (.tmp 12), 28, "", #[], some (11, false)⟩, ⟨some 14, .call { callee := .builtin .cap, args := #[.tmp 13], argTypes := #[28] }, 3, "", #[], some (11, false)⟩, ⟨some 15, .fieldAddr 30 (.tmp 1) 2, 0, "", #[], some (11, false)⟩, ⟨some 16, .load 28 (.tmp 15), 28, "", #[], some (11, false)⟩, ⟨some 17, .call { callee := .builtin .len, args := #[.tmp 16], argTypes := #[28] }, 3, "", #[], some (11, false)⟩, ⟨some 18, .binOp .neq 3 (.tmp 14) (.tmp 17) 3, 4, "", #[], some (11, false)⟩, o 19 (.pick (.tmp 11) (.const (.bool true)) (.tmp 18)) 4] false)
 (.cond (.tmp 19)
 (.seq (.region 2 #[o 2 (.assign (.const (.bool false))) 4] false)
 .ret)
 .skip))
 (.seq (.seq (.region 3 #[o 3 (.assign (.const (.int .i64 0))) 3] false)
 (.block 0 (.loop (.seq (.seq (.region 4 #[m 20 3 3, o 21 (.fieldAddr 30 (.tmp 1) 2) 0, o 22 (.load 28 (.tmp 21)) 28, o 23 (.call { callee := .builtin .len, args := #[.tmp 22], argTypes := #[28] }) 3, o 24 (.binOp .lss 3 (.tmp 20) (.tmp 23) 3) 4] false)
 (.cond (.tmp 24)
 .skip
 (.exit 0)))
 (.seq (.block 1 (.seq (.region 6 #[o 27 (.fieldAddr 30 (.tmp 1) 2) 0, o 28 (.load 28 (.tmp 27)) 28, m 29 3 3, o 30 (.indexAddr 28 (.tmp 28) (.tmp 29)) 0, o 31 (.load 30 (.tmp 30)) 30, o 32 (.call { callee := .value (.func 27), args := #[.tmp 31], argTypes := #[30] }) 4, o 33 (.unOp .not 4 (.tmp 32)) 4] false)
 (.cond (.tmp 33)
 (.seq (.region 7 #[o 2 (.assign (.const (.bool false))) 4] false)
 .ret)
 .skip)))
 (.region 5 #[m 25 3 3, o 26 (.binOp .add 3 (.tmp 25) (.const (.int .i64 1)) 3) 3, o 3 (.assign (.tmp 26)) 3] false))))))
 (.seq (.region 8 #[o 2 (.assign (.const (.bool true))) 4] false)
 .ret))))
def fn27 : AFn := { ntmps := 34, results := [.tmp 2], body := c27, keep := fun | 0 => some [1] | 1 => some [1, 19] | 2 => some [2] | 3 => some [1, 3] | 4 => some [1, 3, 24] | 5 => some [1, 3] | 6 => some [1, 3, 33] | 7 => some [2] | 8 => some [2] | _ => none, head := fun | 4 => some [1, 3] | _ => none, opn := fun _ => none, dyn := fun _ => [] }
def c28 : Code :=
  (.seq (.region 0 #[o 1 (.box 30 (.tmp 0)) 0, o 2 (.assign (.const (.int .i64 0))) 3] false)
 (.seq (.seq (.region 1 #[o 4 (.load 30 (.tmp 1)) 30, o 5 (.call { callee := .value (.func 32), args := #[.tmp 4], argTypes := #[30] }) 34, o 6 (.binOp .neq 34 (.tmp 5) (.const (.int .i64 0)) 34) 4] false)
 (.cond (.tmp 6)
 (.seq (.region 2 #[o 2 (.assign (.const (.int .i64 0))) 3] false)
 .ret)
 .skip))
 (.seq (.region 3 #[o 7 (.load 30 (.tmp 1)) 30, o 8 (.call { callee := .value (.func 69), args := #[.tmp 7], argTypes := #[30] }) 3, o 3 (.assign (.tmp 8)) 3] false)
 (.seq (.seq (.region 4 #[m 9 3 3, o 10 (.binOp .gtr 3 (.tmp 9) (.const (.int .i64 1048576)) 3) 4] false)
 (.cond (.tmp 10)
 (.seq (.region 5 #[o 2 (.assign (.const (.int .i64 0))) 3] false)
 .ret)
 .skip))
 (.seq (.region 6 #[m 11 3 3, o 2 (.assign (.tmp 11)) 3] false)
 .ret)))))
def fn28 : AFn := { ntmps := 12, results := [.tmp 2], body := c28, keep := fun | 0 => some [1] | 1 => some [1, 6] | 2 => some [2] | 3 => some [3] | 4 => some [3, 10] | 5 => some [2] | 6 => some [2] | _ => none, head := fun  | _ => none, opn := fun _ => none, dyn := fun _ => [] }
def c29 : Code :=
  (.seq (.region 0 #[o 1 (.box 30 (.tmp 0)) 0, o 2 (.assign (.const (.int .i64 0))) 3] false)
 (.seq (.region 1 #[o 7 (.load 30 (.tmp 1)) 30, o 8 (.call { callee := .value (.func 75), args := #[.tmp 7], argTypes := #[30] }) 116, m 6 8 116, o 9 (.extract (.tmp 6) 0) 34, o 10 (.extract (.tmp 6) 1) 3, o 11 (.extract (.tmp 6) 2) 3, o 3 (.assign (.tmp 9)) 34, o 4 (.assign (.tmp 10)) 3, o 5 (.assign (.tmp 11)) 3] false)
 (.seq (.region 2 #[m 12 4 3, o 2 (.assign (.tmp 12)) 3] false)
 .ret)))
def fn29 : AFn := { ntmps := 13, results := [.tmp 2], body := c29, keep := fun | 0 => some [1] | 1 => some [4] | 2 => some [2] | _ => none, head := fun  | _ => none, opn := fun _ => none, dyn := fun _ => [] }
def c30 : Code :=
  (.seq (.region 0 #[o 1 (.box 30 (.tmp 0)) 0, o 2 (.assign (.const (.int .i64 0))) 3] false)
 (.seq (.region 1 #[o 7 (.load 30 (.tmp 1)) 30, o 8 (.call { callee := .value (.func 75), args := #[.tmp 7], argTypes := #[30] }) 116, m 6 8 116, o 9 (.extract (.tmp 6) 0) 34, o 10 (.extract (.tmp 6) 1) 3, o 11 (.extract (.tmp 6) 2) 3, o 3 (.assign (.tmp 9)) 34, o 4 (.assign (.tmp 10)) 3, o 5 (.assign (.tmp 11)) 3] false)
 (.seq (.region 2 #[m 12 5 3, o 2 (.assign (.tmp 12)) 3] false)
 .ret)))
def fn30 : AFn := { ntmps := 13, results := [.tmp 2], body := c30, keep := fun | 0 => some [1] | 1 => some [5] | 2 => some [2] | _ => none, head := fun  | _ => none, opn := fun _ => none, dyn := fun _ => [] }
def c32 : Code :=
  (.seq (.region 0 #[o 1 (.box 30 (.tmp 0)) 0, o 2 (.assign (.const (.int .i64 0))) 34] false)
 (.seq (.region 1 #[o 7 (.load 30 (.tmp 1)) 30, o 8 (.call { callee := .value (.func 75), args := #[.tmp 7], argTypes := #[30] }) 116, m 6 8 116, o 9 (.extract (.tmp 6) 0) 34, o 10 (.extract (.tmp 6) 1) 3, o 11 (.extract (.tmp 6) 2) 3, o 3 (.assign (.tmp 9)) 34, o 4 (.assign (.tmp 10)) 3, o 5 (.assign (.tmp 11)) 3] false)
 (.seq (.region 2 #[m 12 3 34, o 2 (.assign (.tmp 12)) 34] false)
 .ret)))
def fn32 : AFn := { ntmps := 13, results := [.tmp 2], body := c32, keep := fun | 0 => some [1] | 1 => some [3] | 2 => some [2] | _ => none, head := fun  | _ => none, opn := fun _ => none, dyn := fun _ => [] }
def c34 : Code :=
  (.seq (.region 0 #[o 2 (.alloc 30) 0, o 3 (.assign (.const (.int .i64 0))) 3, o 4 (.assign (.const (.int .i64 0))) 34] false)
 (.seq (.region 1 #[m 7 0 22, o 8 (.call { callee := .value (.func 23), args := #[.tmp 7], argTypes := #[22] }) 43, m 6 8 43, o 9 (.extract (.tmp 6) 0) 30, o 10 (.extract (.tmp 6) 1) 3, o 11 (.extract (.tmp 6) 2) 3, o 12 (.extract (.tmp 6) 3) 34, ⟨none, .store 30 (.tmp 2) (.tmp 9), 0, "", #[], none⟩, o 5 (.assign (.tmp 10)) 3, o 3 (.assign (.tmp 11)) 3, o 4 (.assign (.tmp 12)) 34] false)
 (.seq (.block 0 (.seq (.region 2 #[m 14 4 34, o 15 (.binOp .neq 34 (.tmp 14) (.const (.int .i64 0)) 34) 4, o 13 (.assign (.tmp 15)) 4] false)
 (.cond (.tmp 13)
 (.seq (.region 3 #[o 16 (.build 30 #[]) 30, m 17 3 3, m 18 4 34, ⟨none, .store 30 (.tmp 2) (.tmp 16), 0, "", #[], none⟩, o 3 (.assign (.tmp 17)) 3, o 4 (.assign (.tmp 18)) 34] false)
 .ret)
 (.seq (.region 4 #[m 20 5 3, m 21 0 22, o 22 (.call { callee := .builtin .len, args := #[.tmp 21], argTypes := #[22] }) 3, o 23 (.binOp .lss 3 (.tmp 20) (.tmp 22) 3) 4, o 19 (.assign (.tmp 23)) 4] false)
 (.cond (.tmp 19)
 (.seq (.region 5 #[o 24 (.build 30 #[]) 30, m 25 5 3, ⟨none, .store 30 (.tmp 2) (.tmp 24), 0, "", #[], none⟩, o 3 (.assign (.tmp 25)) 3, o 4 (.assign (.const (.int .i64 8))) 34] false)
 .ret)
 .skip)))))
 (.seq (.region 6 #[o 26 (.load 30 (.tmp 2)) 30, ⟨none, .store 30 (.tmp 2) (.tmp 26), 0, "", #[], none⟩, o 3 (.assign (.const (.int .i64 0))) 3, o 4 (.assign (.const (.int .i64 0))) 34] false)
 .ret))))
def fn34 : AFn := { ntmps := 27, results := [.cell 2 30, .tmp 3, .tmp 4], body := c34, keep := fun | 0 => some [0, 2] | 1 => some [0, 2, 3, 4, 5] | 2 => some [0, 2, 3, 4, 5, 13] | 3 => some [2, 3, 4] | 4 => some [2, 5, 19] | 5 => some [2, 3, 4] | 6 => some [2, 3, 4] | _ => none, head := fun  | _ => none, opn := fun _ => none, dyn := fun _ => [] }
def c35 : Code :=
  (.seq (.region 0 #[o 1 (.box 30 (.tmp 0)) 0, o 2 (.assign (.const (.slice none 0 0))) 22] false)
 (.seq (.region 1 #[o 5 (.buildSlice 22 0 #[]) 22, o 6 (.fieldAddr 30 (.tmp 1) 1) 0, o 7 (.load 22 (.tmp 6)) 22, o 8 (.call { callee := .builtin .append, args := #[.tmp 5, .tmp 7], argTypes := #[22, 22] }) 22, o 3 (.assign (.tmp 8)) 22] false)
 (.seq (.seq (.region 2 #[o 4 (.assign (.const (.int .i64 0))) 3] false)
 (.block 0 (.loop (.seq (.seq (.region 3 #[m 9 4 3, o 10 (.fieldAddr 30 (.tmp 1) 2) 0, o 11 (.load 28 (.tmp 10)) 28, o 12 (.call { callee := .builtin .len, args := #[.tmp 11], argTypes := #[28] }) 3, o 13 (.binOp .lss 3 (.tmp 9) (.tmp 12) 3) 4] false)
 (.cond (.tmp 13)
 .skip
 (.exit 0)))
 (.seq (.block 1 (.region 5 #[m 16 3 22, o 17 (.fieldAddr 30 (.tmp 1) 2) 0, o 18 (.load 28 (.tmp 17)) 28, m 19 4 3, o 20 (.indexAddr 28 (.tmp 18) (.tmp 19)) 0, o 21 (.load 30 (.tmp 20)) 30, o 22 (.call { callee := .value (.func 35), args := #[.tmp 21], argTypes := #[30] }) 22, o 23 (.call { callee := .builtin .append, args := #[.tmp 16, .tmp 22], argTypes := #[22, 22] }) 22, o 3 (.assign (.tmp 23)) 22] false))
 (.region 4 #[m 14 4 3, o 15 (.binOp .add 3 (.tmp 14) (.const (.int .i64 1)) 3) 3, o 4 (.assign (.tmp 15)) 3] false))))))
 (.seq (.region 6 #[o 24 (.fieldAddr 30 (.tmp 1) 0) 0, o 25 (.load 27 (.tmp 24)) 27, o 26 (.call { callee := .value (.func 76), args := #[.tmp 25], argTypes := #[27] }) 22, m 27 3 22, o 28 (.call { callee := .builtin .len, args := #[.tmp 27], argTypes := #[22] }) 3, o 29 (.call { callee := .value (.func 77), args := #[.tmp 28], argTypes := #[3] }) 22, o 30 (.call { callee := .builtin .append, args := #[.tmp 26, .tmp 29], argTypes := #[22, 22] }) 22, m 31 3 22, o 32 (.call { callee := .builtin .append, args := #[.tmp 30, .tmp 31], argTypes := #[22, 22] }) 22, o 2 (.assign (.tmp 32)) 22] false)
 .ret))))
def fn35 : AFn := { ntmps := 33, results := [.tmp 2], body := c35, keep := fun | 0 => some [1] | 1 => some [1, 3] | 2 => some [1, 3, 4] | 3 => some [1, 3, 4, 13] | 4 => some [1, 3, 4] | 5 => some [1, 3, 4] | 6 => some [2] | _ => none, head := fun | 3 => some [1, 3, 4] | _ => none, opn := opnT, dyn := fun _ => [] }
def c36 : Code :=
  (.seq (.region 0 #[o 2 (.box 30 (.tmp 0)) 0, o 3 (.box 30 (.tmp 1)) 0, o 4 (.assign (.const (.bool false))) 4] false)
 (.seq (.region 1 #[o 5 (.load 30 (.tmp 2)) 30, o 6 (.call { callee := .value (.func 32), args := #[.tmp 5], argTypes := #[30] }) 34, o 7 (.binOp .eql 34 (.tmp 6) (.const (.int .i64 0)) 34) 4, m 8 7 4, ⟨some 9, .load 30 (.tmp 3), 30, "", #[], some (8, true)⟩, ⟨some 10, .call { callee := .value (.func 32), args := #[.tmp 9], argTypes := #[30] }, 34, "", #[], some (8, true)⟩, ⟨some 11, .binOp .eql 34 (.tmp 10) (.const (.int .i64 0)) 34, 4, "", #[], some (8, true)⟩, o 12 (.pick (.tmp 8) (.tmp 11) (.const (.bool false))) 4, m 13 12 4, ⟨some 14, .load 30 (.tmp 2), 30, "", #[], some (13, true)⟩, ⟨some 15, .load 30 (.tmp 3), 30, "", #[], some (13, true)⟩, ⟨some 16, .call { callee := .value (.func 78), args := #[.tmp 14, .tmp 15], argTypes := #[30, 30] }, 4, "", #[], some (13, true)⟩, o 17 (.pick (.tmp 13) (.tmp 16) (.const (.bool false))) 4, o 4 (.assign (.tmp 17)) 4] false)
 .ret))
def fn36 : AFn := { ntmps := 18, results := [.tmp 4], body := c36, keep := fun | 0 => some [2, 3] | 1 => some [4] | _ => none, head := fun  | _ => none, opn := fun _ => none, dyn := fun _ => [] }
def c37 : Code :=
  (.seq (.region 0 #[o 2 (.box 30 (.tmp 0)) 0, o 3 (.box 30 (.tmp 1)) 0, o 4 (.assign (.const (.int .i64 0))) 3] false)
 (.seq (.region 1 #[o 10 (.load 30 (.tmp 2)) 30, o 11 (.call { callee := .value (.func 21), args := #[.tmp 10], argTypes := #[30] }) 35, m 9 11 35, o 12 (.extract (.tmp 9) 0) 22, o 13 (.extract (.tmp 9) 1) 34, o 5 (.assign (.tmp 12)) 22, o 6 (.assign (.tmp 13)) 34] false)
 (.seq (.region 2 #[o 15 (.load 30 (.tmp 3)) 30, o 16 (.call { callee := .value (.func 21), args := #[.tmp 15], argTypes := #[30] }) 35, m 14 16 35, o 17 (.extract (.tmp 14) 0) 22, o 18 (.extract (.tmp 14) 1) 34, o 7 (.assign (.tmp 17)) 22, o 8 (.assign (.tmp 18)) 34] false)
 (.seq (.region 3 #[m 19 5 22, m 20 7 22, o 21 (.call { callee := .value (.func 79), args := #[.tmp 19, .tmp 20], argTypes := #[22, 22] }) 3, o 4 (.assign (.tmp 21)) 3] false)
 .ret))))
def fn37 : AFn := { ntmps := 22, results := [.tmp 4], body := c37, keep := fun | 0 => some [2, 3] | 1 => some [3, 5] | 2 => some [5, 7] | 3 => some [4] | _ => none, head := fun  | _ => none, opn := fun _ => none, dyn := fun _ => [] }
def c38 : Code :=
  (.seq (.region 0 #[o 1 (.box 30 (.tmp 0)) 0, o 2 (.assign (.const (.int .i64 0))) 3] false)
 (.seq (.seq (.region 1 #[o 4 (.load 30 (.tmp 1)) 30, o 5 (.call { callee := .value (.func 26), args := #[.tmp 4, .const (.int .i64 60)], argTypes := #[30, 3] }) 3, o 6 (.binOp .gtr 3 (.tmp 5) (.const (.int .i64 60)) 3) 4] false)
 (.cond (.tmp 6)
 (.seq (.region 2 #[o 2 (.assign (.const (.int .i64 0))) 3] false)
 .ret)
 .skip))
 (.seq (.seq (.region 3 #[o 7 (.fieldAddr 30 (.tmp 1) 1) 0, o 8 (.load 22 (.tmp 7)) 22, o 9 (.call { callee := .builtin .len, args := #[.tmp 8], argTypes := #[22] }) 3, o 10 (.binOp .gtr 3 (.tmp 9) (.const (.int .i64 200)) 3) 4] false)
 (.cond (.tmp 10)
 (.seq (.region 4 #[o 2 (.assign (.const (.int .i64 0))) 3] false)
 .ret)
 .skip))
 (.seq (.seq (.region 5 #[o 3 (.assign (.const (.int .i64 0))) 3] false)
 (.block 0 (.loop (.seq (.seq (.region 6 #[m 11 3 3, o 12 (.fieldAddr 30 (.tmp 1) 2) 0, o 13 (.load 28 (.tmp 12)) 28, o 14 (.call { callee := .builtin .len, args := #[.tmp 13], argTypes := #[28] }) 3, o 15 (.binOp .lss 3 (.tmp 11) (.tmp 14) 3) 4] false)
 (.cond (.tmp 15)
 .skip
 (.exit 0)))
 (.seq (.block 1 (.seq (.region 8 #[o 18 (.fieldAddr 30 (.tmp 1) 2) 0, o 19 (.load 28 (.tmp 18)) 28, m 20 3 3, o 21 (.indexAddr 28 (.tmp 19) (.tmp 20)) 0, o 22 (.load 30 (.tmp 21)) 30, o 23 (.call { callee := .value (.func 38), args := #[.tmp 22], argTypes := #[30] }) 3, o 24 (.binOp .eql 3 (.tmp 23) (.const (.int .i64 0)) 3) 4] false)
 (.cond (.tmp 24)
 (.seq (.region 9 #[o 2 (.assign (.const (.int .i64 0))) 3] false)
 .ret)
 .skip)))
 (.region 7 #[m 16 3 3, o 17 (.binOp .add 3 (.tmp 16) (.const (.int .i64 1)) 3) 3, o 3 (.assign (.tmp 17)) 3] false))))))
 (.seq (.region 10 #[o 2 (.assign (.const (.int .i64 1))) 3] false)
 .ret)))))
def fn38 : AFn := { ntmps := 25, results := [.tmp 2], body := c38, keep := fun | 0 => some [1] | 1 => some [1, 6] | 2 => some [2] | 3 => some [1, 10] | 4 => some [2] | 5 => some [1, 3] | 6 => some [1, 3, 15] | 7 => some [1, 3] | 8 => some [1, 3, 24] | 9 => some [2] | 10 => some [2] | _ => none, head := fun | 6 => some [1, 3] | _ => none, opn := fun _ => none, dyn := fun _ => [] }
def c39 : Code :=
  (.seq (.region 0 #[o 3 (.box 30 (.tmp 0)) 0, o 6 (.assign (.const (.int .i64 0))) 3, o 7 (.assign (.const (.int .i64 0))) 3] false)
 (.seq (.seq (.region 1 #[o 13 (.fieldAddr 30 (.tmp 3) 0) 0, o 14 (.load 27 (.tmp 13)) 27, o 15 (.call { callee := .value (.func 80), args := #[.tmp 14], argTypes := #[27] }) 3, o 8 (.assign (.tmp 15)) 3] false)
 (.seq (.region 2 #[m 16 8 3, o 17 (.binOp .neq 3 (.tmp 16) (.const (.int .i64 0)) 3) 4] false)
 (.cond (.tmp 17)
 (.seq (.region 3 #[m 18 8 3, o 6 (.assign (.tmp 18)) 3, o 7 (.assign (.const (.int .i64 0))) 3] false)
 .ret)
 .skip)))
 (.seq (.seq (.region 4 #[o 19 (.fieldAddr 30 (.tmp 3) 0) 0, o 20 (.fieldAddr 27 (.tmp 19) 1) 0, o 21 (.load 4 (.tmp 20)) 4, m 22 21 4, ⟨some 23, .fieldAddr 30 (.tmp 3) 1, 0, "", #[], some (22, true)⟩, ⟨some 24, .load 22 (.tmp 23), 22, "", #[], some (22, true)⟩, ⟨some 25, .call { callee := .builtin .len, args := #[.tmp 24], argTypes := #[22] }, 3, "", #[], some (22, true)⟩, ⟨some 26, .binOp .gtr 3 (.tmp 25) (.const (.int .i64 0)) 3, 4, "", #[], some (22, true)⟩, o 27 (.pick (.tmp 22) (.tmp 26) (.const (.bool false))) 4, m 28 27 4, ⟨some 29, .fieldAddr 30 (.tmp 3) 0, 0, "", #[], some (28, false)⟩, ⟨some 30, .fieldAddr 27 (.tmp 29) 1, 0, "", #[], some (28, false)⟩, ⟨some 31, .load 4 (.tmp 30), 4, "", #[], some (28, false)⟩, ⟨some 32, .unOp .not 4 (.tmp 31), 4, "", #[], some (28, false)⟩, ⟨some 33, .move (.tmp 32), 4, "", #[], some (28, false)⟩, ⟨some 34, .fieldAddr 30 (.tmp 3) 2, 0, "", #[], some (33, true)⟩, ⟨some 35, .load 28 (.tmp 34), 28, "", #[], some (33, true)⟩, ⟨some 36, .call { callee := .builtin .len, args := #[.tmp 35], argTypes := #[28] }, 3, "", #[], some (33, true)⟩, ⟨some 37, .binOp .gtr 3 (.tmp 36) (.const (.int .i64 0)) 3, 4, "", #[], some (33, true)⟩, ⟨some 38, .pick (.tmp 33) (.tmp 37) (.const (.bool false)), 4, "", #[], some (28, false)⟩, o 39 (.pick (.tmp 28) (.const (.bool true)) (.tmp 38)) 4] false)
 (.cond (.tmp 39)
 (.seq (.region 5 #[o 6 (.assign (.const (.int .i64 1))) 3, o 7 (.assign (.const (.int .i64 0))) 3] false)
 .ret)
 .skip))
 (.seq (.seq (.region 6 #[m 40 1 3, o 41 (.binOp .gtr 3 (.tmp 40) (.const (.int .i64 16)) 3) 4] false)
 (.cond (.tmp 41)
 (.seq (.region 7 #[o 6 (.assign (.const (.int .i64 12))) 3, o 7 (.assign (.const (.int .i64 0))) 3] false)
 .ret)
 .skip))
 (.seq (.seq (.region 8 #[m 42 2 3, o 43 (.binOp .geq 3 (.tmp 42) (.const (.int .i64 8192)) 3) 4] false)
 (.cond (.tmp 43)
 (.seq (.region 9 #[o 6 (.assign (.const (.int .i64 3))) 3, o 7 (.assign (.const (.int .i64 0))) 3] false)
 .ret)
 .skip))
 (.seq (.region 10 #[m 44 2 3, o 45 (.binOp .add 3 (.tmp 44) (.const (.int .i64 1)) 3) 3, o 9 (.assign (.tmp 45)) 3] false)
 (.seq (.seq (.region 11 #[o 10 (.assign (.const (.int .i64 0))) 3] false)
 (.block 0 (.loop (.seq (.seq (.region 12 #[m 46 10 3, o 47 (.fieldAddr 30 (.tmp 3) 2) 0, o 48 (.load 28 (.tmp 47)) 28, o 49 (.call { callee := .builtin .len, args := #[.tmp 48], argTypes := #[28] }) 3, o 50 (.binOp .lss 3 (.tmp 46) (.tmp 49) 3) 4] false)
 (.cond (.tmp 50)
 .skip
 (.exit 0)))
 (.seq (.block 1 (.seq (.region 14 #[o 54 (.fieldAddr 30 (.tmp 3) 2) 0, o 55 (.load 28 (.tmp 54)) 28, m 56 10 3, o 57 (.indexAddr 28 (.tmp 55) (.tmp 56)) 0, o 58 (.load 30 (.tmp 57)) 30, m 59 1 3, o 60 (.binOp .add 3 (.tmp 59) (.const (.int .i64 1)) 3) 3, m 61 9 3, o 62 (.call { callee := .value (.func 39), args := #[.tmp 58, .tmp 60, .tmp 61], argTypes := #[30, 3, 3] }) 62, m 53 62 62, o 63 (.extract (.tmp 53) 0) 3, o 64 (.extract (.tmp 53) 1) 3, o 11 (.assign (.tmp 63)) 3, o 12 (.assign (.tmp 64)) 3] false)
 (.seq (.seq (.region 15 #[m 65 11 3, o 66 (.binOp .neq 3 (.tmp 65) (.const (.int .i64 0)) 3) 4] false)
 (.cond (.tmp 66)
 (.seq (.region 16 #[m 67 11 3, o 6 (.assign (.tmp 67)) 3, o 7 (.assign (.const (.int .i64 0))) 3] false)
 .ret)
 .skip))
 (.region 17 #[m 68 12 3, o 9 (.assign (.tmp 68)) 3] false))))
 (.region 13 #[m 51 10 3, o 52 (.binOp .add 3 (.tmp 51) (.const (.int .i64 1)) 3) 3, o 10 (.assign (.tmp 52)) 3] false))))))
 (.seq (.region 18 #[m 69 9 3, o 6 (.assign (.const (.int .i64 0))) 3, o 7 (.assign (.tmp 69)) 3] false)
 .ret))))))))
def fn39 : AFn := { ntmps := 70, results := [.tmp 6, .tmp 7], body := c39, keep := fun | 0 => some [1, 2, 3] | 1 => some [1, 2, 3, 8] | 2 => some [1, 2, 3, 8, 17] | 3 => some [6, 7] | 4 => some [1, 2, 3, 39] | 5 => some [6, 7] | 6 => some [1, 2, 3, 41] | 7 => some [6, 7] | 8 => some [1, 2, 3, 43] | 9 => some [6, 7] | 10 => some [1, 3, 9] | 11 => some [1, 3, 9, 10] | 12 => some [1, 3, 9, 10, 50] | 13 => some [1, 3, 9, 10] | 14 => some [1, 3, 10, 11, 12] | 15 => some [1, 3, 10, 11, 12, 66] | 16 => some [6, 7] | 17 => some [1, 3, 9, 10] | 18 => some [6, 7] | _ => none, head := fun | 12 => some [1, 3, 9, 10] | _ => none, opn := fun _ => none, dyn := fun _ => [] }
def c40 : Code :=
  (.seq (.region 0 #[o 1 (.box 30 (.tmp 0)) 0, o 2 (.assign (.const (.int .i64 0))) 3] false)
 (.seq (.region 1 #[o 3 (.assign (.const (.int .i64 0))) 3] false)
 (.seq (.seq (.region 2 #[o 4 (.assign (.const (.int .i64 0))) 3] false)
 (.block 0 (.loop (.seq (.seq (.region 3 #[m 5 4 3, o 6 (.fieldAddr 30 (.tmp 1) 2) 0, o 7 (.load 28 (.tmp 6)) 28, o 8 (.call { callee := .builtin .len, args := #[.tmp 7], argTypes := #[28] }) 3, o 9 (.binOp .lss 3 (.tmp 5) (.tmp 8) 3) 4] false)
 (.cond (.tmp 9)
 .skip
 (.exit 0)))
 (.seq (.block 1 (.region 5 #[m 12 3 3, o 13 (.fieldAddr 30 (.tmp 1) 2) 0, o 14 (.load 28 (.tmp 13)) 28, m 15 4 3, o 16 (.indexAddr 28 (.tmp 14) (.tmp 15)) 0, o 17 (.load 30 (.tmp 16)) 30, o 18 (.call { callee := .value (.func 40), args := #[.tmp 17], argTypes := #[30] }) 3, o 19 (.call { callee := .builtin .max, args := #[.tmp 12, .tmp 18], argTypes := #[3, 3] }) 3, o 3 (.assign (.tmp 19)) 3] false))
 (.region 4 #[m 10 4 3, o 11 (.binOp .add 3 (.tmp 10) (.const (.int .i64 1)) 3) 3, o 4 (.assign (.tmp 11)) 3] false))))))
 (.seq (.region 6 #[m 20 3 3, o 21 (.binOp .add 3 (.tmp 20) (.const (.int .i64 1)) 3) 3, o 2 (.assign (.tmp 21)) 3] false)
 .ret))))
def fn40 : AFn := { ntmps := 22, results := [.tmp 2], body := c40, keep := fun | 0 => some [1] | 1 => some [1, 3] | 2 => some [1, 3, 4] | 3 => some [1, 3, 4, 9] | 4 => some [1, 3, 4] | 5 => some [1, 3, 4] | 6 => some [2] | _ => none, head := fun | 3 => some [1, 3, 4] | _ => none, opn := fun _ => none, dyn := fun _ => [] }
def c41 : Code :=
  (.seq (.region 0 #[o 0 (.alloc 30) 0] false)
 (.seq (.region 1 #[o 1 (.build 27 #[(1, .const (.bool true)), (2, .const (.int .u32 16))]) 27, o 2 (.build 27 #[(2, .const (.int .u32 2))]) 27, o 3 (.buildSlice 22 1 #[(0, .const (.int .u8 7))]) 22, o 4 (.build 30 #[(0, .tmp 2), (1, .tmp 3)]) 30, o 5 (.build 27 #[(2, .const (.int .u32 5))]) 27, o 6 (.build 30 #[(0, .tmp 5)]) 30, o 7 (.buildSlice 28 2 #[(0, .tmp 4), (1, .tmp 6)]) 28, o 8 (.build 30 #[(0, .tmp 1), (2, .tmp 7)]) 30, ⟨none, .store 30 (.tmp 0) (.tmp 8), 0, "", #[], none⟩] false)
 .ret))
def fn41 : AFn := { ntmps := 9, results := [.cell 0 30], body := c41, keep := fun | 0 => some [0] | 1 => some [0] | _ => none, head := fun  | _ => none, opn := fun _ => none, dyn := fun _ => [] }
def c68 : Code :=
  (.seq (.region 0 #[o 10 (.alloc 30) 0, o 11 (.assign (.const (.int .i64 0))) 3, o 12 (.assign (.const (.int .i64 0))) 3, o 13 (.assign (.const (.int .i64 0))) 3] false)
 (.seq (.region 1 #[m 28 0 22, m 29 1 3, m 30 2 3, o 31 (.slice 22 (.tmp 28) (some (.tmp 29)) (some (.tmp 30)) none) 22, o 32 (.call { callee := .value (.func 88), args := #[.tmp 31], argTypes := #[22] }) 129, m 27 32 129, o 33 (.extract (.tmp 27) 0) 27, o 34 (.extract (.tmp 27) 1) 3, o 35 (.extract (.tmp 27) 2) 3, o 14 (.alloc 27) 0, ⟨none, .store 27 (.tmp 14) (.tmp 33), 0, "", #[], none⟩, o 15 (.assign (.tmp 34)) 3, o 16 (.assign (.tmp 35)) 3] false)
 (.seq (.seq (.region 2 #[m 36 16 3, o 37 (.binOp .eql 3 (.tmp 36) (.const (.int .i64 7)) 3) 4] false)
 (.cond (.tmp 37)
 (.seq (.region 3 #[o 38 (.build 30 #[]) 30, m 39 2 3, ⟨none, .store 30 (.tmp 10) (.tmp 38), 0, "", #[], none⟩, o 11 (.assign (.tmp 39)) 3, o 12 (.assign (.const (.int .i64 0))) 3, o 13 (.assign (.const (.int .i64 7))) 3] false)
 .ret)
 .skip))
 (.seq (.seq (.region 4 #[m 40 16 3, o 41 (.binOp .neq 3 (.tmp 40) (.const (.int .i64 0)) 3) 4] false)
 (.cond (.tmp 41)
 (.seq (.region 5 #[o 42 (.build 30 #[]) 30, m 43 1 3, m 44 16 3, ⟨none, .store 30 (.tmp 10) (.tmp 42), 0, "", #[], none⟩, o 11 (.assign (.tmp 43)) 3, o 12 (.assign (.const (.int .i64 0))) 3, o 13 (.assign (.tmp 44)) 3] false)
 .ret)
 .skip))
 (.seq (.seq (.region 6 #[m 45 3 3, o 46 (.binOp .gtr 3 (.tmp 45) (.const (.int .i64 16)) 3) 4] false)
 (.cond (.tmp 46)
 (.seq (.region 7 #[o 47 (.build 30 #[]) 30, m 48 1 3, ⟨none, .store 30 (.tmp 10) (.tmp 47), 0, "", #[], none⟩, o 11 (.assign (.tmp 48)) 3, o 12 (.assign (.const (.int .i64 0))) 3, o 13 (.assign (.const (.int .i64 12))) 3] false)
 .ret)
 .skip))
 (.seq (.seq (.region 8 #[m 49 4 3, o 50 (.binOp .geq 3 (.tmp 49) (.const (.int .i64 8192)) 3) 4] false)
 (.cond (.tmp 50)
 (.seq (.region 9 #[o 51 (.build 30 #[]) 30, m 52 1 3, ⟨none, .store 30 (.tmp 10) (.tmp 51), 0, "", #[], none⟩, o 11 (.assign (.tmp 52)) 3, o 12 (.assign (.const (.int .i64 0))) 3, o 13 (.assign (.const (.int .i64 3))) 3] false)
 .ret)
 .skip))
 (.seq (.region 10 #[m 54 0 22, m 55 1 3, m 56 15 3, o 57 (.binOp .add 3 (.tmp 55) (.tmp 56) 3) 3, m 58 2 3, o 59 (.slice 22 (.tmp 54) (some (.tmp 57)) (some (.tmp 58)) none) 22, o 60 (.call { callee := .value (.func 89), args := #[.tmp 59], argTypes := #[22] }) 131, m 53 60 131, o 61 (.extract (.tmp 53) 0) 3, o 62 (.extract (.tmp 53) 1) 3, o 63 (.extract (.tmp 53) 2) 3, o 17 (.assign (.tmp 61)) 3, o 18 (.assign (.tmp 62)) 3, o 16 (.assign (.tmp 63)) 3] false)
 (.seq (.seq (.region 11 #[m 64 16 3, o 65 (.binOp .eql 3 (.tmp 64) (.const (.int .i64 7)) 3) 4, m 66 65 4, ⟨some 67, .move (.tmp 16), 3, "", #[], some (66, false)⟩, ⟨some 68, .binOp .eql 3 (.tmp 67) (.const (.int .i64 0)) 3, 4, "", #[], some (66, false)⟩, ⟨some 69, .move (.tmp 68), 4, "", #[], some (66, false)⟩, ⟨some 70, .move (.tmp 17), 3, "", #[], some (69, true)⟩, ⟨some 71, .move (.tmp 2), 3, "", #[], some (69, true)⟩, ⟨some 72, .move (.tmp 1), 3, "", #[], some (69, true)⟩, ⟨some 73, .binOp .sub 3 (.tmp 71) (.tmp 72) 3, 3, "", #[], some (69, true)⟩, ⟨some 74, .move (.tmp 15), 3, "", #[], some (69, true)⟩, ⟨some 75, .binOp .sub 3 (.tmp 73) (.tmp 74) 3, 3, "", #[], some (69, true)⟩, ⟨some 76, .move (.tmp 18), 3, "", #[], some (69, true)⟩, ⟨some 77, .binOp .sub 3 (.tmp 75) (.tmp 76) 3, 3, "", #[], some (69, true)⟩, ⟨some 78, .binOp .gtr 3 (.tmp 70) (.tmp 77) 3, 4, "", #[], some (69, true)⟩, ⟨some 79, .pick (.tmp 69) (.tmp 78) (.const (.bool false)), 4, "", #[], some (66, false)⟩, o 80 (.pick (.tmp 66) (.const (.bool true)) (.tmp 79)) 4] false)
 (.cond (.tmp 80)
 (.seq (.region 12 #[o 81 (.build 30 #[]) 30, m 82 2 3, ⟨none, .store 30 (.tmp 10) (.tmp 81), 0, "", #[], none⟩, o 11 (.assign (.tmp 82)) 3, o 12 (.assign (.const (.int .i64 0))) 3, o 13 (.assign (.const (.int .i64 7))) 3] false)
 .ret)
 .skip))
 (.seq (.seq (.region 13 #[m 83 16 3, o 84 (.binOp .neq 3 (.tmp 83) (.const (.int .i64 0)) 3) 4] false)
 (.cond (.tmp 84)
 (.seq (.region 14 #[o 85 (.build 30 #[]) 30, m 86 1 3, m 87 15 3, o 88 (.binOp .add 3 (.tmp 86) (.tmp 87) 3) 3, m 89 16 3, ⟨none, .store 30 (.tmp 10) (.tmp 85), 0, "", #[], none⟩, o 11 (.assign (.tmp 88)) 3, o 12 (.assign (.const (.int .i64 0))) 3, o 13 (.assign (.tmp 89)) 3] false)
 .ret)
 .skip))
 (.seq (.region 15 #[m 90 1 3, m 91 15 3, o 92 (.binOp .add 3 (.tmp 90) (.tmp 91) 3) 3, m 93 18 3, o 94 (.binOp .add 3 (.tmp 92) (.tmp 93) 3) 3, o 19 (.assign (.tmp 94)) 3] false)
 (.seq (.region 16 #[m 95 19 3, m 96 17 3, o 97 (.binOp .add 3 (.tmp 95) (.tmp 96) 3) 3, o 20 (.assign (.tmp 97)) 3] false)
 (.seq (.region 17 #[o 98 (.load 27 (.tmp 14)) 27, o 99 (.build 30 #[(0, .tmp 98)]) 30, o 21 (.alloc 30) 0, ⟨none, .store 30 (.tmp 21) (.tmp 99), 0, "", #[], none⟩] false)
 (.seq (.region 18 #[m 100 4 3, o 101 (.binOp .add 3 (.tmp 100) (.const (.int .i64 1)) 3) 3, o 22 (.assign (.tmp 101)) 3] false)
 (.seq (.seq (.region 19 #[o 102 (.fieldAddr 27 (.tmp 14) 1) 0, o 103 (.load 4 (.tmp 102)) 4, o 104 (.unOp .not 4 (.tmp 103)) 4] false)
 (.cond (.tmp 104)
 (.seq (.region 20 #[o 105 (.fieldAddr 30 (.tmp 21) 1) 0, o 106 (.load 22 (.tmp 105)) 22, m 107 0 22, m 108 19 3, m 109 20 3, o 110 (.slice 22 (.tmp 107) (some (.tmp 108)) (some (.tmp 109)) none) 22, ⟨some 111, .call { callee := .builtin .append, args := #[.tmp 106, .tmp 110], argTypes := #[22, 22] }, 22, "", fz, none⟩, o 112 (.fieldAddr 30 (.tmp 21) 1) 0, ⟨none, .store 22 (.tmp 112) (.tmp 111), 0, "", #[], none⟩] true)
 (.seq (.region 21 #[o 113 (.load 30 (.tmp 21)) 30, m 114 20 3, m 115 22 3, ⟨none, .store 30 (.tmp 10) (.tmp 113), 0, "", #[], none⟩, o 11 (.assign (.tmp 114)) 3, o 12 (.assign (.tmp 115)) 3, o 13 (.assign (.const (.int .i64 0))) 3] false)
 .ret))
 .skip))
 (.seq (.block 0 (.loop (.seq (.seq (.region 22 #[m 116 19 3, m 117 20 3, o 118 (.binOp .lss 3 (.tmp 116) (.tmp 117) 3) 4] false)
 (.cond (.tmp 118)
 .skip
 (.exit 0)))
 (.block 1 (.seq (.region 23 #[m 120 0 22, m 121 19 3, m 122 20 3, m 123 3 3, o 124 (.binOp .add 3 (.tmp 123) (.const (.int .i64 1)) 3) 3, m 125 22 3, o 126 (.call { callee := .value (.func 68), args := #[.tmp 120, .tmp 121, .tmp 122, .tmp 124, .tmp 125], argTypes := #[22, 3, 3, 3, 3] }) 101, m 119 126 101, o 127 (.extract (.tmp 119) 0) 30, o 128 (.extract (.tmp 119) 1) 3, o 129 (.extract (.tmp 119) 2) 3, o 130 (.extract (.tmp 119) 3) 3, o 23 (.alloc 30) 0, ⟨none, .store 30 (.tmp 23) (.tmp 127), 0, "", #[], none⟩, o 24 (.assign (.tmp 128)) 3, o 25 (.assign (.tmp 129)) 3, o 26 (.assign (.tmp 130)) 3] false)
 (.seq (.seq (.region 24 #[m 131 26 3, o 132 (.binOp .neq 3 (.tmp 131) (.const (.int .i64 0)) 3) 4] false)
 (.cond (.tmp 132)
 (.seq (.region 25 #[o 133 (.build 30 #[]) 30, m 134 24 3, m 135 26 3, ⟨none, .store 30 (.tmp 10) (.tmp 133), 0, "", #[], none⟩, o 11 (.assign (.tmp 134)) 3, o 12 (.assign (.const (.int .i64 0))) 3, o 13 (.assign (.tmp 135)) 3] false)
 .ret)
 .skip))
 (.seq (.region 26 #[o 136 (.fieldAddr 30 (.tmp 21) 2) 0, o 137 (.load 28 (.tmp 136)) 28, o 138 (.load 30 (.tmp 23)) 30, o 139 (.buildSlice 28 1 #[(0, .tmp 138)]) 28, o 140 (.call { callee := .builtin .append, args := #[.tmp 137, .tmp 139], argTypes := #[28, 28] }) 28, o 141 (.fieldAddr 30 (.tmp 21) 2) 0, ⟨none, .store 28 (.tmp 141) (.tmp 140), 0, "", #[], none⟩] false)
 (.seq (.region 27 #[m 142 24 3, o 19 (.assign (.tmp 142)) 3] false)
 (.region 28 #[m 143 25 3, o 22 (.assign (.tmp 143)) 3] false)))))))))
 (.seq (.region 29 #[o 144 (.load 30 (.tmp 21)) 30, m 145 20 3, m 146 22 3, ⟨none, .store 30 (.tmp 10) (.tmp 144), 0, "", #[], none⟩, o 11 (.assign (.tmp 145)) 3, o 12 (.assign (.tmp 146)) 3, o 13 (.assign (.const (.int .i64 0))) 3] false)
 .ret))))))))))))))))
def fn68 : AFn := { ntmps := 147, results := [.cell 10 30, .tmp 11, .tmp 12, .tmp 13], body := c68, keep := fun | 0 => some [0, 1, 2, 3, 4, 10] | 1 => some [0, 1, 2, 3, 4, 10, 14, 15, 16] | 2 => some [0, 1, 2, 3, 4, 10, 14, 15, 16, 37] | 3 => some [10, 11, 12, 13] | 4 => some [0, 1, 2, 3, 4, 10, 14, 15, 16, 41] | 5 => some [10, 11, 12, 13] | 6 => some [0, 1, 2, 3, 4, 10, 14, 15, 46] | 7 => some [10, 11, 12, 13] | 8 => some [0, 1, 2, 3, 4, 10, 14, 15, 50] | 9 => some [10, 11, 12, 13] | 10 => some [0, 1, 2, 3, 4, 10, 14, 15, 16, 17, 18] | 11 => some [0, 1, 2, 3, 4, 10, 14, 15, 16, 17, 18, 80] | 12 => some [10, 11, 12, 13] | 13 => some [0, 1, 3, 4, 10, 14, 15, 16, 17, 18, 84] | 14 => some [10, 11, 12, 13] | 15 => some [0, 3, 4, 10, 14, 17, 19] | 16 => some [0, 3, 4, 10, 14, 19, 20] | 17 => some [0, 3, 4, 10, 14, 19, 20, 21] | 18 => some [0, 3, 10, 14, 19, 20, 21, 22] | 19 => some [0, 3, 10, 19, 20, 21, 22, 104] | 20 => some [10, 20, 21, 22] | 21 => some [10, 11, 12, 13] | 22 => some [0, 3, 10, 19, 20, 21, 22, 118] | 23 => some [0, 3, 10, 20, 21, 23, 24, 25, 26] | 24 => some [0, 3, 10, 20, 21, 23, 24, 25, 26, 132] | 25 => some [10, 11, 12, 13] | 26 => some [0, 3, 10, 20, 21, 24, 25] | 27 => some [0, 3, 10, 19, 20, 21, 25] | 28 => some [0, 3, 10, 19, 20, 21, 22] | 29 => some [10, 11, 12, 13] | _ => none, head := fun | 22 => some [0, 3, 10, 19, 20, 21, 22] | _ => none, opn := fun _ => none, dyn := fun _ => [] }
def c69 : Code :=
  (.seq (.region 0 #[o 1 (.box 30 (.tmp 0)) 0, o 2 (.assign (.const (.int .i64 0))) 3] false)
 (.seq (.region 1 #[o 4 (.load 30 (.tmp 1)) 30, o 5 (.call { callee := .value (.func 90), args := #[.tmp 4], argTypes := #[30] }) 3, o 3 (.assign (.tmp 5)) 3] false)
 (.seq (.seq (.region 2 #[m 6 3 3, o 7 (.binOp .gtr 3 (.tmp 6) (.const (.int .i64 1048576)) 3) 4] false)
 (.cond (.tmp 7)
 (.seq (.region 3 #[m 8 3 3, o 2 (.assign (.tmp 8)) 3] false)
 .ret)
 .skip))
 (.seq (.region 4 #[o 9 (.fieldAddr 30 (.tmp 1) 0) 0, o 10 (.load 27 (.tmp 9)) 27, o 11 (.call { callee := .value (.func 92), args := #[.tmp 10], argTypes := #[27] }) 3, m 12 3 3, o 13 (.call { callee := .value (.func 91), args := #[.tmp 11, .tmp 12], argTypes := #[3, 3] }) 3, o 2 (.assign (.tmp 13)) 3] false)
 .ret))))
def fn69 : AFn := { ntmps := 14, results := [.tmp 2], body := c69, keep := fun | 0 => some [1] | 1 => some [1, 3] | 2 => some [1, 3, 7] | 3 => some [2] | 4 => some [2] | _ => none, head := fun  | _ => none, opn := fun _ => none, dyn := fun _ => [] }
def c70 : Code :=
  (.seq (.region 0 #[o 3 (.box 30 (.tmp 1)) 0, o 4 (.assign (.const (.slice none 0 0))) 22] false)
 (.seq (.region 1 #[o 12 (.fieldAddr 30 (.tmp 3) 0) 0, o 13 (.load 27 (.tmp 12)) 27, o 14 (.call { callee := .value (.func 93), args := #[.tmp 13], argTypes := #[27] }) 35, m 11 14 35, o 15 (.extract (.tmp 11) 0) 22, o 16 (.extract (.tmp 11) 1) 34, o 5 (.assign (.tmp 15)) 22, o 6 (.assign (.tmp 16)) 34] false)
 (.seq (.region 2 #[o 18 (.load 30 (.tmp 3)) 30, o 19 (.call { callee := .value (.func 90), args := #[.tmp 18], argTypes := #[30] }) 3, o 20 (.call { callee := .value (.func 94), args := #[.tmp 19], argTypes := #[3] }) 35, m 17 20 35, o 21 (.extract (.tmp 17) 0) 22, o 22 (.extract (.tmp 17) 1) 34, o 7 (.assign (.tmp 21)) 22, o 8 (.assign (.tmp 22)) 34] false)
 (.seq (.region 3 #[m 23 0 22, m 24 5 22, o 25 (.call { callee := .builtin .append, args := #[.tmp 23, .tmp 24], argTypes := #[22, 22] }) 22, m 26 7 22, o 27 (.call { callee := .builtin .append, args := #[.tmp 25, .tmp 26], argTypes := #[22, 22] }) 22, o 0 (.assign (.tmp 27)) 22] false)
 (.seq (.region 4 #[m 28 0 22, o 29 (.fieldAddr 30 (.tmp 3) 1) 0, o 30 (.load 22 (.tmp 29)) 22, o 31 (.call { callee := .builtin .append, args := #[.tmp 28, .tmp 30], argTypes := #[22, 22] }) 22, o 0 (.assign (.tmp 31)) 22] false)
 (.seq (.seq (.region 5 #[o 32 (.fieldAddr 30 (.tmp 3) 2) 0, o 33 (.load 28 (.tmp 32)) 28, o 34 (.call { callee := .builtin .len, args := #[.tmp 33], argTypes := #[28] }) 3, o 35 (.move (.const (.int .i64 0))) 3] false)
 (.block 0 (.loop (.seq (.region 6 #[o 36 (.binOp .lss 3 (.tmp 35) (.tmp 34) 3) 0] false)
 (.seq (.cond (.tmp 36)
 .skip
 (.exit 0))
 (.seq (.block 1 (.seq (.region 7 #[o 37 (.indexAddr 28 (.tmp 33) (.tmp 35)) 0, o 38 (.load 30 (.tmp 37)) 30, o 10 (.alloc 30) 0, ⟨none, .store 30 (.tmp 10) (.tmp 38), 0, "", #[], none⟩] false)
 (.region 8 #[m 39 0 22, o 40 (.load 30 (.tmp 10)) 30, o 41 (.call { callee := .value (.func 70), args := #[.tmp 39, .tmp 40], argTypes := #[22, 30] }) 22, o 0 (.assign (.tmp 41)) 22] false)))
 (.region 9 #[o 42 (.binOp .add 3 (.tmp 35) (.const (.int .i64 1)) 3) 3, m 35 42 3] false)))))))
 (.seq (.region 10 #[m 43 0 22, o 4 (.assign (.tmp 43)) 22] false)
 .ret)))))))
def fn70 : AFn := { ntmps := 44, results := [.tmp 4], body := c70, keep := fun | 0 => some [0, 3] | 1 => some [0, 3, 5] | 2 => some [0, 3, 5, 7] | 3 => some [0, 3] | 4 => some [0, 3] | 5 => some [0, 33, 34, 35] | 6 => some [0, 33, 34, 35, 36] | 7 => some [0, 10, 33, 34, 35] | 8 => some [0, 33, 34, 35] | 9 => some [0, 33, 34, 35] | 10 => some [4] | _ => none, head := fun | 6 => some [0, 33, 34, 35] | _ => none, opn := opnT, dyn := fun _ => [] }
def c71 : Code :=
  (.seq (.region 0 #[o 1 (.box 105 (.tmp 0)) 0, o 2 (.alloc 27) 0] false)
 (.seq (.region 1 #[o 4 (.fieldAddr 105 (.tmp 1) 0) 0, o 5 (.load 5 (.tmp 4)) 5, o 6 (.binOp .rem 5 (.tmp 5) (.const (.int .u8 4)) 5) 5, o 7 (.fieldAddr 105 (.tmp 1) 1) 0, o 8 (.load 5 (.tmp 7)) 5, o 9 (.binOp .rem 5 (.tmp 8) (.const (.int .u8 2)) 5) 5, o 10 (.binOp .eql 5 (.tmp 9) (.const (.int .u8 1)) 5) 4, o 11 (.fieldAddr 105 (.tmp 1) 2) 0, o 12 (.load 25 (.tmp 11)) 25, o 13 (.binOp .rem 25 (.tmp 12) (.const (.int .u32 268435456)) 25) 25, o 14 (.build 27 #[(0, .tmp 6), (1, .tmp 10), (2, .tmp 13)]) 27, o 3 (.alloc 27) 0, ⟨none, .store 27 (.tmp 3) (.tmp 14), 0, "", #[], none⟩] false)
 (.seq (.seq (.region 2 #[o 15 (.load 27 (.tmp 3)) 27, o 16 (.call { callee := .value (.func 80), args := #[.tmp 15], argTypes := #[27] }) 3, o 17 (.binOp .neq 3 (.tmp 16) (.const (.int .i64 0)) 3) 4] false)
 (.cond (.tmp 17)
 (.region 3 #[o 18 (.fieldAddr 27 (.tmp 3) 2) 0, ⟨none, .store 25 (.tmp 18) (.const (.int .u32 4)), 0, "", #[], none⟩] false)
 .skip))
 (.seq (.region 4 #[o 19 (.load 27 (.tmp 3)) 27, ⟨none, .store 27 (.tmp 2) (.tmp 19), 0, "", #[], none⟩] false)
 .ret))))
def fn71 : AFn := { ntmps := 20, results := [.cell 2 27], body := c71, keep := fun | 0 => some [1, 2] | 1 => some [2, 3] | 2 => some [2, 3, 17] | 3 => some [2, 3] | 4 => some [2] | _ => none, head := fun  | _ => none, opn := fun _ => none, dyn := fun _ => [] }
def c72 : Code :=
  (.seq (.region 0 #[o 7 (.call { callee := .builtin .recover, args := #[], argTypes := #[] }) 20, o 4 (.assign (.tmp 7)) 20] false)
 (.seq (.region 1 #[m 8 4 20, o 9 (.binOp .neq 20 (.tmp 8) (.const .nilIface) 20) 4] false)
 (.cond (.tmp 9)
 (.seq (.region 2 #[m 11 4 20, o 12 (.typeAssert (.tmp 11) 20 110 true) 111, m 10 12 111, o 13 (.extract (.tmp 10) 0) 110, o 14 (.extract (.tmp 10) 1) 4, o 5 (.alloc 110) 0, ⟨none, .store 110 (.tmp 5) (.tmp 13), 0, "", #[], none⟩, o 6 (.assign (.tmp 14)) 4] false)
 (.seq (.seq (.region 3 #[m 15 6 4, o 16 (.unOp .not 4 (.tmp 15)) 4] false)
 (.cond (.tmp 16)
 (.region 4 #[m 17 4 20, ⟨none, .panic (.tmp 17), 0, "", #[], none⟩] false)
 .skip))
 (.region 5 #[o 18 (.build 30 #[]) 30, o 19 (.fieldAddr 110 (.tmp 5) 0) 0, o 20 (.load 3 (.tmp 19)) 3, o 21 (.fieldAddr 110 (.tmp 5) 1) 0, o 22 (.load 34 (.tmp 21)) 34, ⟨none, .store 30 (.tmp 0) (.tmp 18), 0, "", #[], none⟩, ⟨none, .store 3 (.tmp 1) (.const (.int .i64 0)), 0, "", #[], none⟩, ⟨none, .store 3 (.tmp 2) (.tmp 20), 0, "", #[], none⟩, ⟨none, .store 34 (.tmp 3) (.tmp 22), 0, "", #[], none⟩] true)))
 .skip)))
def fn72 : AFn := { ntmps := 23, results := [], body := c72, keep := fun | 0 => some [0, 1, 2, 3, 4] | 1 => some [0, 1, 2, 3, 4, 9] | 2 => some [0, 1, 2, 3, 4, 5, 6] | 3 => some [0, 1, 2, 3, 4, 5, 16] | 4 => some [0, 1, 2, 3, 5] | 5 => some [] | _ => none, head := fun  | _ => none, opn := fun _ => none, dyn := fun | 5 => [(2, 5), (4, 5), (2, 6), (4, 6), (4, 7)] | _ => [] }
def c73 : Code :=
  (.seq (.region 0 #[o 8 (.alloc 30) 0, o 9 (.assign (.const (.int .i64 0))) 3] false)
 (.seq (.region 1 #[m 17 0 136, o 18 (.nilCheck (.tmp 17)) 0, o 19 (.fieldAddr 113 (.tmp 18) 0) 0, o 20 (.load 22 (.tmp 19)) 22, m 21 1 3, m 22 2 3, o 23 (.slice 22 (.tmp 20) (some (.tmp 21)) (some (.tmp 22)) none) 22, o 24 (.call { callee := .value (.func 95), args := #[.tmp 23], argTypes := #[22] }) 137, m 16 24 137, o 25 (.extract (.tmp 16) 0) 27, o 26 (.extract (.tmp 16) 1) 3, o 27 (.extract (.tmp 16) 2) 34, o 10 (.alloc 27) 0, ⟨none, .store 27 (.tmp 10) (.tmp 25), 0, "", #[], none⟩, o 11 (.assign (.tmp 26)) 3, o 12 (.assign (.tmp 27)) 34] false)
 (.seq (.block 0 (.seq (.region 2 #[m 29 12 34, o 30 (.binOp .eql 34 (.tmp 29) (.const (.int .i64 7)) 34) 4, o 28 (.assign (.tmp 30)) 4] false)
 (.cond (.tmp 28)
 (.region 3 #[m 31 2 3, m 32 12 34, o 33 (.build 110 #[(0, .tmp 31), (1, .tmp 32)]) 110, o 34 (.makeInterface 110 (.tmp 33)) 20, ⟨none, .panic (.tmp 34), 0, "", #[], none⟩] false)
 (.seq (.region 4 #[m 36 12 34, o 37 (.binOp .neq 34 (.tmp 36) (.const (.int .i64 0)) 34) 4, o 35 (.assign (.tmp 37)) 4] false)
 (.cond (.tmp 35)
 (.region 5 #[m 38 1 3, m 39 12 34, o 40 (.build 110 #[(0, .tmp 38), (1, .tmp 39)]) 110, o 41 (.makeInterface 110 (.tmp 40)) 20, ⟨none, .panic (.tmp 41), 0, "", #[], none⟩] false)
 (.seq (.region 6 #[m 43 3 3, o 44 (.binOp .gtr 3 (.tmp 43) (.const (.int .i64 16)) 3) 4, o 42 (.assign (.tmp 44)) 4] false)
 (.cond (.tmp 42)
 (.region 7 #[m 45 1 3, o 46 (.build 110 #[(0, .tmp 45), (1, .const (.int .i64 12))]) 110, o 47 (.makeInterface 110 (.tmp 46)) 20, ⟨none, .panic (.tmp 47), 0, "", #[], none⟩] false)
 (.seq (.region 8 #[m 49 0 136, o 50 (.nilCheck (.tmp 49)) 0, o 51 (.fieldAddr 113 (.tmp 50) 1) 0, o 52 (.load 3 (.tmp 51)) 3, o 53 (.binOp .eql 3 (.tmp 52) (.const (.int .i64 8192)) 3) 4, o 48 (.assign (.tmp 53)) 4] false)
 (.cond (.tmp 48)
 (.region 9 #[m 54 1 3, o 55 (.build 110 #[(0, .tmp 54), (1, .const (.int .i64 3))]) 110, o 56 (.makeInterface 110 (.tmp 55)) 20, ⟨none, .panic (.tmp 56), 0, "", #[], none⟩] false)
 .skip)))))))))
 (.seq (.region 10 #[m 57 0 136, o 58 (.nilCheck (.tmp 57)) 0, o 59 (.fieldAddr 113 (.tmp 58) 1) 0, o 60 (.load 3 (.tmp 59)) 3, o 61 (.binOp .add 3 (.tmp 60) (.const (.int .i64 1)) 3) 3, o 62 (.nilCheck (.tmp 57)) 0, o 63 (.fieldAddr 113 (.tmp 62) 1) 0, ⟨none, .store 3 (.tmp 63) (.tmp 61), 0, "", #[], none⟩] false)
 (.seq (.region 11 #[m 64 1 3, m 65 11 3, o 66 (.binOp .add 3 (.tmp 64) (.tmp 65) 3) 3, o 1 (.assign (.tmp 66)) 3] false)
 (.seq (.region 12 #[m 68 0 136, o 69 (.nilCheck (.tmp 68)) 0, o 70 (.fieldAddr 113 (.tmp 69) 0) 0, o 71 (.load 22 (.tmp 70)) 22, m 72 1 3, m 73 2 3, o 74 (.slice 22 (.tmp 71) (some (.tmp 72)) (some (.tmp 73)) none) 22, o 75 (.call { callee := .value (.func 96), args := #[.tmp 74], argTypes := #[22] }) 139, m 67 75 139, o 76 (.extract (.tmp 67) 0) 3, o 77 (.extract (.tmp 67) 1) 3, o 78 (.extract (.tmp 67) 2) 34, o 13 (.assign (.tmp 76)) 3, o 11 (.assign (.tmp 77)) 3, o 12 (.assign (.tmp 78)) 34] false)
 (.seq (.block 1 (.seq (.region 13 #[m 80 12 34, o 81 (.binOp .eql 34 (.tmp 80) (.const (.int .i64 7)) 34) 4, o 79 (.assign (.tmp 81)) 4] false)
 (.cond (.tmp 79)
 (.region 14 #[m 82 2 3, m 83 12 34, o 84 (.build 110 #[(0, .tmp 82), (1, .tmp 83)]) 110, o 85 (.makeInterface 110 (.tmp 84)) 20, ⟨none, .panic (.tmp 85), 0, "", #[], none⟩] false)
 (.seq (.region 15 #[m 87 12 34, o 88 (.binOp .neq 34 (.tmp 87) (.const (.int .i64 0)) 34) 4, o 86 (.assign (.tmp 88)) 4] false)
 (.cond (.tmp 86)
 (.region 16 #[m 89 1 3, m 90 12 34, o 91 (.build 110 #[(0, .tmp 89), (1, .tmp 90)]) 110, o 92 (.makeInterface 110 (.tmp 91)) 20, ⟨none, .panic (.tmp 92), 0, "", #[], none⟩] false)
 (.seq (.region 17 #[m 94 13 3, m 95 2 3, m 96 1 3, o 97 (.binOp .sub 3 (.tmp 95) (.tmp 96) 3) 3, m 98 11 3, o 99 (.binOp .sub 3 (.tmp 97) (.tmp 98) 3) 3, o 100 (.binOp .gtr 3 (.tmp 94) (.tmp 99) 3) 4, o 93 (.assign (.tmp 100)) 4] false)
 (.cond (.tmp 93)
 (.region 18 #[m 101 2 3, o 102 (.build 110 #[(0, .tmp 101), (1, .const (.int .i64 7))]) 110, o 103 (.makeInterface 110 (.tmp 102)) 20, ⟨none, .panic (.tmp 103), 0, "", #[], none⟩] false)
 .skip)))))))
 (.seq (.region 19 #[m 104 1 3, m 105 11 3, o 106 (.binOp .add 3 (.tmp 104) (.tmp 105) 3) 3, o 1 (.assign (.tmp 106)) 3] false)
 (.seq (.region 20 #[m 107 1 3, m 108 13 3, o 109 (.binOp .add 3 (.tmp 107) (.tmp 108) 3) 3, o 2 (.assign (.tmp 109)) 3] false)
 (.seq (.region 21 #[o 110 (.load 27 (.tmp 10)) 27, o 111 (.build 30 #[(0, .tmp 110)]) 30, o 14 (.alloc 30) 0, ⟨none, .store 30 (.tmp 14) (.tmp 111), 0, "", #[], none⟩] false)
 (.seq (.seq (.region 22 #[o 112 (.fieldAddr 27 (.tmp 10) 1) 0, o 113 (.load 4 (.tmp 112)) 4, o 114 (.unOp .not 4 (.tmp 113)) 4] false)
 (.cond (.tmp 114)
 (.seq (.region 23 #[m 115 0 136, o 116 (.nilCheck (.tmp 115)) 0, o 117 (.fieldAddr 113 (.tmp 116) 0) 0, o 118 (.load 22 (.tmp 117)) 22, m 119 1 3, m 120 2 3, o 121 (.slice 22 (.tmp 118) (some (.tmp 119)) (some (.tmp 120)) none) 22, o 122 (.call { callee := .value (.func 98), args := #[.tmp 121], argTypes := #[22] }) 22, o 123 (.call { callee := .value (.func 97), args := #[.tmp 122], argTypes := #[22] }) 22, o 124 (.fieldAddr 30 (.tmp 14) 1) 0, ⟨none, .store 22 (.tmp 124) (.tmp 123), 0, "", #[], none⟩] false)
 (.seq (.region 24 #[o 125 (.load 30 (.tmp 14)) 30, m 126 2 3, ⟨none, .store 30 (.tmp 8) (.tmp 125), 0, "", #[], none⟩, o 9 (.assign (.tmp 126)) 3] false)
 .ret))
 .skip))
 (.seq (.block 2 (.loop (.seq (.seq (.region 25 #[m 127 1 3, m 128 2 3, o 129 (.binOp .lss 3 (.tmp 127) (.tmp 128) 3) 4] false)
 (.cond (.tmp 129)
 .skip
 (.exit 2)))
 (.block 3 (.seq (.region 26 #[o 15 (.alloc 30) 0] false)
 (.seq (.region 27 #[m 131 0 136, m 132 1 3, m 133 2 3, m 134 3 3, o 135 (.binOp .add 3 (.tmp 134) (.const (.int .i64 1)) 3) 3, o 136 (.call { callee := .value (.func 73), args := #[.tmp 131, .tmp 132, .tmp 133, .tmp 135], argTypes := #[136, 3, 3, 3] }) 114, m 130 136 114, o 137 (.extract (.tmp 130) 0) 30, o 138 (.extract (.tmp 130) 1) 3, ⟨none, .store 30 (.tmp 15) (.tmp 137), 0, "", #[], none⟩, o 1 (.assign (.tmp 138)) 3] false)
 (.region 28 #[o 139 (.fieldAddr 30 (.tmp 14) 2) 0, o 140 (.load 28 (.tmp 139)) 28, o 141 (.load 30 (.tmp 15)) 30, o 142 (.buildSlice 28 1 #[(0, .tmp 141)]) 28, o 143 (.call { callee := .builtin .append, args := #[.tmp 140, .tmp 142], argTypes := #[28, 28] }) 28, o 144 (.fieldAddr 30 (.tmp 14) 2) 0, ⟨none, .store 28 (.tmp 144) (.tmp 143), 0, "", #[], none⟩] false)))))))
 (.seq (.region 29 #[o 145 (.fieldAddr 30 (.tmp 14) 2) 0, o 146 (.load 28 (.tmp 145)) 28, o 147 (.call { callee := .value (.func 99), args := #[.tmp 146], argTypes := #[28] }) 28, o 148 (.fieldAddr 30 (.tmp 14) 2) 0, ⟨none, .store 28 (.tmp 148) (.tmp 147), 0, "", #[], none⟩] false)
 (.seq (.region 30 #[o 149 (.load 30 (.tmp 14)) 30, m 150 2 3, ⟨none, .store 30 (.tmp 8) (.tmp 149), 0, "", #[], none⟩, o 9 (.assign (.tmp 150)) 3] false)
 .ret))))))))))))))
def fn73 : AFn := { ntmps := 151, results := [.cell 8 30, .tmp 9], body := c73, keep := fun | 0 => some [0, 1, 2, 3, 8] | 1 => some [0, 1, 2, 3, 8, 10, 11, 12] | 2 => some [0, 1, 2, 3, 8, 10, 11, 12, 28] | 3 => some [0, 1, 2, 3, 8, 10, 11] | 4 => some [0, 1, 2, 3, 8, 10, 11, 12, 35] | 5 => some [0, 1, 2, 3, 8, 10, 11] | 6 => some [0, 1, 2, 3, 8, 10, 11, 42] | 7 => some [0, 1, 2, 3, 8, 10, 11] | 8 => some [0, 1, 2, 3, 8, 10, 11, 48] | 9 => some [0, 1, 2, 3, 8, 10, 11] | 10 => some [0, 1, 2, 3, 8, 10, 11] | 11 => some [0, 1, 2, 3, 8, 10] | 12 => some [0, 1, 2, 3, 8, 10, 11, 12, 13] | 13 => some [0, 1, 2, 3, 8, 10, 11, 12, 13, 79] | 14 => some [0, 1, 3, 8, 10, 11, 13] | 15 => some [0, 1, 2, 3, 8, 10, 11, 12, 13, 86] | 16 => some [0, 1, 3, 8, 10, 11, 13] | 17 => some [0, 1, 2, 3, 8, 10, 11, 13, 93] | 18 => some [0, 1, 3, 8, 10, 11, 13] | 19 => some [0, 1, 3, 8, 10, 13] | 20 => some [0, 1, 2, 3, 8, 10] | 21 => some [0, 1, 2, 3, 8, 10, 14] | 22 => some [0, 1, 2, 3, 8, 14, 114] | 23 => some [2, 8, 14] | 24 => some [8, 9] | 25 => some [0, 1, 2, 3, 8, 14, 129] | 26 => some [0, 1, 2, 3, 8, 14, 15] | 27 => some [0, 1, 2, 3, 8, 14, 15] | 28 => some [0, 1, 2, 3, 8, 14] | 29 => some [2, 8, 14] | 30 => some [8, 9] | _ => none, head := fun | 25 => some [0, 1, 2, 3, 8, 14] | _ => none, opn := opnT, dyn := fun _ => [] }
def c74 : Code :=
  (.seq (.region 0 #[o 1 (.box 30 (.tmp 0)) 0, o 2 (.alloc 30) 0] false)
 (.seq (.region 1 #[o 6 (.fieldAddr 30 (.tmp 1) 0) 0, o 7 (.load 27 (.tmp 6)) 27, o 8 (.fieldAddr 30 (.tmp 1) 1) 0, o 9 (.load 22 (.tmp 8)) 22, o 10 (.call { callee := .value (.func 98), args := #[.tmp 9], argTypes := #[22] }) 22, o 11 (.call { callee := .value (.func 97), args := #[.tmp 10], argTypes := #[22] }) 22, o 12 (.build 30 #[(0, .tmp 7), (1, .tmp 11)]) 30, o 3 (.alloc 30) 0, ⟨none, .store 30 (.tmp 3) (.tmp 12), 0, "", #[], none⟩] true)
 (.seq (.seq (.region 2 #[o 13 (.fieldAddr 30 (.tmp 1) 2) 0, o 14 (.load 28 (.tmp 13)) 28, o 15 (.call { callee := .builtin .len, args := #[.tmp 14], argTypes := #[28] }) 3, o 16 (.binOp .gtr 3 (.tmp 15) (.const (.int .i64 0)) 3) 4] false)
 (.cond (.tmp 16)
 (.region 3 #[o 17 (.fieldAddr 30 (.tmp 1) 2) 0, o 18 (.load 28 (.tmp 17)) 28, o 19 (.call { callee := .builtin .len, args := #[.tmp 18], argTypes := #[28] }) 3, o 20 (.makeSlice 28 (.tmp 19) (.tmp 19)) 28, o 21 (.fieldAddr 30 (.tmp 3) 2) 0, ⟨none, .store 28 (.tmp 21) (.tmp 20), 0, "", #[], none⟩] false)
 .skip))
 (.seq (.seq (.region 4 #[o 22 (.fieldAddr 30 (.tmp 1) 2) 0, o 23 (.load 28 (.tmp 22)) 28, o 24 (.call { callee := .builtin .len, args := #[.tmp 23], argTypes := #[28] }) 3, o 25 (.move (.const (.int .i64 0))) 3] false)
 (.block 0 (.loop (.seq (.region 5 #[o 26 (.binOp .lss 3 (.tmp 25) (.tmp 24) 3) 0] false)
 (.seq (.cond (.tmp 26)
 .skip
 (.exit 0))
 (.seq (.block 1 (.seq (.region 6 #[m 27 25 3, o 28 (.indexAddr 28 (.tmp 23) (.tmp 25)) 0, o 29 (.load 30 (.tmp 28)) 30, o 5 (.alloc 30) 0, o 4 (.assign (.tmp 27)) 3, ⟨none, .store 30 (.tmp 5) (.tmp 29), 0, "", #[], none⟩] false)
 (.region 7 #[o 30 (.fieldAddr 30 (.tmp 3) 2) 0, o 31 (.load 28 (.tmp 30)) 28, m 32 4 3, o 33 (.load 30 (.tmp 5)) 30, o 34 (.call { callee := .value (.func 74), args := #[.tmp 33], argTypes := #[30] }) 30, o 35 (.indexAddr 28 (.tmp 31) (.tmp 32)) 0, ⟨none, .store 30 (.tmp 35) (.tmp 34), 0, "", #[], none⟩] true)))
 (.region 8 #[o 36 (.binOp .add 3 (.tmp 25) (.const (.int .i64 1)) 3) 3, m 25 36 3] false)))))))
 (.seq (.region 9 #[o 37 (.load 30 (.tmp 3)) 30, ⟨none, .store 30 (.tmp 2) (.tmp 37), 0, "", #[], none⟩] false)
 .ret)))))
def fn74 : AFn := { ntmps := 38, results := [.cell 2 30], body := c74, keep := fun | 0 => some [1, 2] | 1 => some [1, 2, 3] | 2 => some [1, 2, 3, 16] | 3 => some [1, 2, 3] | 4 => some [2, 3, 23, 24, 25] | 5 => some [2, 3, 23, 24, 25, 26] | 6 => some [2, 3, 4, 5, 23, 24, 25] | 7 => some [2, 3, 23, 24, 25] | 8 => some [2, 3, 23, 24, 25] | 9 => some [2] | _ => none, head := fun | 5 => some [2, 3, 23, 24, 25] | _ => none, opn := fun _ => none, dyn := fun _ => [] }
def c75 : Code :=
  (.seq (.region 0 #[o 1 (.box 30 (.tmp 0)) 0, o 2 (.assign (.const (.int .i64 0))) 34, o 3 (.alloc 3) 0, o 4 (.alloc 3) 0] false)
 (.seq (.region 1 #[o 5 (.load 30 (.tmp 1)) 30, o 6 (.makeFunc (.func 101) #[] #[.tmp 3, .tmp 4]) 145, o 7 (.call { callee := .value (.func 100), args := #[.tmp 5, .tmp 6], argTypes := #[30, 145] }) 34, o 2 (.assign (.tmp 7)) 34] false)
 (.seq (.seq (.region 2 #[m 8 2 34, o 9 (.binOp .neq 34 (.tmp 8) (.const (.int .i64 0)) 34) 4] false)
 (.cond (.tmp 9)
 (.seq (.region 3 #[m 10 2 34, o 2 (.assign (.tmp 10)) 34, ⟨none, .store 3 (.tmp 3) (.const (.int .i64 0)), 0, "", #[], none⟩, ⟨none, .store 3 (.tmp 4) (.const (.int .i64 0)), 0, "", #[], none⟩] false)
 .ret)
 .skip))
 (.seq (.region 4 #[o 11 (.load 3 (.tmp 3)) 3, o 12 (.load 3 (.tmp 4)) 3, o 2 (.assign (.const (.int .i64 0))) 34, ⟨none, .store 3 (.tmp 3) (.tmp 11), 0, "", #[], none⟩, ⟨none, .store 3 (.tmp 4) (.tmp 12), 0, "", #[], none⟩] true)
 .ret))))
def fn75 : AFn := { ntmps := 13, results := [.tmp 2, .cell 3 3, .cell 4 3], body := c75, keep := fun | 0 => some [1, 3, 4] | 1 => some [2, 3, 4] | 2 => some [2, 3, 4, 9] | 3 => some [2, 3, 4] | 4 => some [2, 3, 4] | _ => none, head := fun  | _ => none, opn := opnT, dyn := fun | 4 => [(1, 3)] | _ => [] }
def c76 : Code :=
  (.seq (.region 0 #[o 1 (.box 27 (.tmp 0)) 0, o 2 (.assign (.const (.slice none 0 0))) 22] false)
 (.seq (.region 1 #[o 4 (.fieldAddr 27 (.tmp 1) 0) 0, o 5 (.load 24 (.tmp 4)) 24, o 6 (.convert 24 3 (.tmp 5)) 3, o 7 (.binOp .mul 3 (.const (.int .i64 64)) (.tmp 6) 3) 3, o 3 (.assign (.tmp 7)) 3] false)
 (.seq (.seq (.region 2 #[o 8 (.fieldAddr 27 (.tmp 1) 1) 0, o 9 (.load 4 (.tmp 8)) 4] false)
 (.cond (.tmp 9)
 (.region 3 #[m 10 3 3, o 11 (.binOp .add 3 (.tmp 10) (.const (.int .i64 32)) 3) 3, o 3 (.assign (.tmp 11)) 3] false)
 .skip))
 (.seq (.seq (.region 4 #[o 12 (.fieldAddr 27 (.tmp 1) 2) 0, o 13 (.load 25 (.tmp 12)) 25, o 14 (.binOp .lss 25 (.tmp 13) (.const (.int .u32 31)) 25) 4] false)
 (.cond (.tmp 14)
 (.seq (.region 5 #[m 15 3 3, o 16 (.fieldAddr 27 (.tmp 1) 2) 0, o 17 (.load 25 (.tmp 16)) 25, o 18 (.convert 25 3 (.tmp 17)) 3, o 19 (.binOp .add 3 (.tmp 15) (.tmp 18) 3) 3, o 20 (.convert 3 5 (.tmp 19)) 5, o 21 (.buildSlice 22 1 #[(0, .tmp 20)]) 22, o 2 (.assign (.tmp 21)) 22] false)
 .ret)
 .skip))
 (.seq (.region 6 #[m 22 3 3, o 23 (.binOp .add 3 (.tmp 22) (.const (.int .i64 31)) 3) 3, o 24 (.convert 3 5 (.tmp 23)) 5, o 25 (.buildSlice 22 1 #[(0, .tmp 24)]) 22, o 26 (.fieldAddr 27 (.tmp 1) 2) 0, o 27 (.load 25 (.tmp 26)) 25, o 28 (.convert 25 3 (.tmp 27)) 3, o 29 (.call { callee := .value (.func 103), args := #[.tmp 28], argTypes := #[3] }) 22, o 30 (.call { callee := .builtin .append, args := #[.tmp 25, .tmp 29], argTypes := #[22, 22] }) 22, o 2 (.assign (.tmp 30)) 22] false)
 .ret)))))
def fn76 : AFn := { ntmps := 31, results := [.tmp 2], body := c76, keep := fun | 0 => some [1] | 1 => some [1, 3] | 2 => some [1, 3, 9] | 3 => some [1, 3] | 4 => some [1, 3, 14] | 5 => some [2] | 6 => some [2] | _ => none, head := fun  | _ => none, opn := fun _ => none, dyn := fun _ => [] }
def c77 : Code :=
  (.seq (.region 0 #[o 2 (.assign (.const (.slice none 0 0))) 22] false)
 (.seq (.seq (.region 1 #[m 4 0 3, o 5 (.binOp .lss 3 (.tmp 4) (.const (.int .i64 128)) 3) 4] false)
 (.cond (.tmp 5)
 (.seq (.region 2 #[m 6 0 3, o 7 (.convert 3 5 (.tmp 6)) 5, o 8 (.buildSlice 22 1 #[(0, .tmp 7)]) 22, o 2 (.assign (.tmp 8)) 22] false)
 .ret)
 .skip))
 (.seq (.region 3 #[o 3 (.assign (.const (.slice none 0 0))) 22] false)
 (.seq (.block 0 (.loop (.seq (.seq (.region 4 #[m 9 0 3, o 10 (.binOp .gtr 3 (.tmp 9) (.const (.int .i64 0)) 3) 4] false)
 (.cond (.tmp 10)
 .skip
 (.exit 0)))
 (.block 1 (.seq (.region 5 #[m 11 0 3, o 12 (.binOp .rem 3 (.tmp 11) (.const (.int .i64 256)) 3) 3, o 13 (.convert 3 5 (.tmp 12)) 5, o 14 (.buildSlice 22 1 #[(0, .tmp 13)]) 22, m 15 3 22, o 16 (.call { callee := .builtin .append, args := #[.tmp 14, .tmp 15], argTypes := #[22, 22] }) 22, o 3 (.assign (.tmp 16)) 22] false)
 (.region 6 #[m 17 0 3, o 18 (.binOp .quo 3 (.tmp 17) (.const (.int .i64 256)) 3) 3, o 0 (.assign (.tmp 18)) 3] false))))))
 (.seq (.region 7 #[m 19 3 22, o 20 (.call { callee := .builtin .len, args := #[.tmp 19], argTypes := #[22] }) 3, o 21 (.binOp .add 3 (.const (.int .i64 128)) (.tmp 20) 3) 3, o 22 (.convert 3 5 (.tmp 21)) 5, o 23 (.buildSlice 22 1 #[(0, .tmp 22)]) 22, m 24 3 22, o 25 (.call { callee := .builtin .append, args := #[.tmp 23, .tmp 24], argTypes := #[22, 22] }) 22, o 2 (.assign (.tmp 25)) 22] false)
 .ret)))))
def fn77 : AFn := { ntmps := 26, results := [.tmp 2], body := c77, keep := fun | 0 => some [0] | 1 => some [0, 5] | 2 => some [2] | 3 => some [0, 3] | 4 => some [0, 3, 10] | 5 => some [0, 3] | 6 => some [0, 3] | 7 => some [2] | _ => none, head := fun | 4 => some [0, 3] | _ => none, opn := fun _ => none, dyn := fun _ => [] }
def c78 : Code :=
  (.seq (.region 0 #[o 2 (.box 30 (.tmp 0)) 0, o 3 (.box 30 (.tmp 1)) 0, o 4 (.assign (.const (.bool false))) 4] false)
 (.seq (.region 1 #[o 5 (.fieldAddr 30 (.tmp 2) 0) 0, o 6 (.load 27 (.tmp 5)) 27, o 7 (.fieldAddr 30 (.tmp 3) 0) 0, o 8 (.load 27 (.tmp 7)) 27, o 9 (.binOp .eql 27 (.tmp 6) (.tmp 8) 27) 4, m 10 9 4, ⟨some 11, .fieldAddr 30 (.tmp 2) 1, 0, "", #[], some (10, true)⟩, ⟨some 12, .load 22 (.tmp 11), 22, "", #[], some (10, true)⟩, ⟨some 13, .fieldAddr 30 (.tmp 3) 1, 0, "", #[], some (10, true)⟩, ⟨some 14, .load 22 (.tmp 13), 22, "", #[], some (10, true)⟩, ⟨some 15, .call { callee := .value (.func 104), args := #[.tmp 12, .tmp 14], argTypes := #[22, 22] }, 4, "", #[], some (10, true)⟩, o 16 (.pick (.tmp 10) (.tmp 15) (.const (.bool false))) 4, m 17 16 4, ⟨some 18, .fieldAddr 30 (.tmp 2) 2, 0, "", #[], some (17, true)⟩, ⟨some 19, .load 28 (.tmp 18), 28, "", #[], some (17, true)⟩, ⟨some 20, .fieldAddr 30 (.tmp 3) 2, 0, "", #[], some (17, true)⟩, ⟨some 21, .load 28 (.tmp 20), 28, "", #[], some (17, true)⟩, ⟨some 22, .call { callee := .value (.func 105), args := #[.tmp 19, .tmp 21, .func 78], argTypes := #[28, 28, 45] }, 4, "", #[], some (17, true)⟩, o 23 (.pick (.tmp 17) (.tmp 22) (.const (.bool false))) 4, o 4 (.assign (.tmp 23)) 4] false)
 .ret))
def fn78 : AFn := { ntmps := 24, results := [.tmp 4], body := c78, keep := fun | 0 => some [2, 3] | 1 => some [4] | _ => none, head := fun  | _ => none, opn := opnT, dyn := fun _ => [] }
def c79 : Code :=
  (.seq (.region 0 #[o 4 (.assign (.const (.int .i64 0))) 3] false)
 (.seq (.region 1 #[m 5 0 22, m 6 1 22, o 7 (.call { callee := .value (.func 106), args := #[.tmp 5, .tmp 6], argTypes := #[22, 22] }) 3, o 4 (.assign (.tmp 7)) 3] false)
 .ret))
def fn79 : AFn := { ntmps := 8, results := [.tmp 4], body := c79, keep := fun | 0 => some [0, 1] | 1 => some [4] | _ => none, head := fun  | _ => none, opn := fun _ => none, dyn := fun _ => [] }
def c80 : Code :=
  (.seq (.region 0 #[o 1 (.box 27 (.tmp 0)) 0, o 2 (.assign (.const (.int .i64 0))) 3] false)
 (.seq (.seq (.region 1 #[o 3 (.fieldAddr 27 (.tmp 1) 0) 0, o 4 (.load 24 (.tmp 3)) 24, o 5 (.binOp .gtr 24 (.tmp 4) (.const (.int .u8 3)) 24) 4, m 6 5 4, ⟨some 7, .fieldAddr 27 (.tmp 1) 2, 0, "", #[], some (6, false)⟩, ⟨some 8, .load 25 (.tmp 7), 25, "", #[], some (6, false)⟩, ⟨some 9, .binOp .gtr 25 (.tmp 8) (.const (.int .u32 268435455)) 25, 4, "", #[], some (6, false)⟩, o 10 (.pick (.tmp 6) (.const (.bool true)) (.tmp 9)) 4] false)
 (.cond (.tmp 10)
 (.seq (.region 2 #[o 2 (.assign (.const (.int .i64 1))) 3] false)
 .ret)
 .skip))
 (.seq (.seq (.region 3 #[o 11 (.fieldAddr 27 (.tmp 1) 0) 0, o 12 (.load 24 (.tmp 11)) 24, o 13 (.binOp .eql 24 (.tmp 12) (.const (.int .u8 0)) 24) 4, m 14 13 4, ⟨some 15, .fieldAddr 27 (.tmp 1) 2, 0, "", #[], some (14, true)⟩, ⟨some 16, .load 25 (.tmp 15), 25, "", #[], some (14, true)⟩, ⟨some 17, .binOp .eql 25 (.tmp 16) (.const (.int .u32 0)) 25, 4, "", #[], some (14, true)⟩, ⟨some 18, .move (.tmp 17), 4, "", #[], some (14, true)⟩, ⟨some 19, .fieldAddr 27 (.tmp 1) 1, 0, "", #[], some (18, false)⟩, ⟨some 20, .load 4 (.tmp 19), 4, "", #[], some (18, false)⟩, ⟨some 21, .unOp .not 4 (.tmp 20), 4, "", #[], some (18, false)⟩, ⟨some 22, .move (.tmp 21), 4, "", #[], some (18, false)⟩, ⟨some 23, .fieldAddr 27 (.tmp 1) 2, 0, "", #[], some (22, true)⟩, ⟨some 24, .load 25 (.tmp 23), 25, "", #[], some (22, true)⟩, ⟨some 25, .binOp .eql 25 (.tmp 24) (.const (.int .u32 16)) 25, 4, "", #[], some (22, true)⟩, ⟨some 26, .move (.tmp 25), 4, "", #[], some (22, true)⟩, ⟨some 27, .fieldAddr 27 (.tmp 1) 2, 0, "", #[], some (26, false)⟩, ⟨some 28, .load 25 (.tmp 27), 25, "", #[], some (26, false)⟩, ⟨some 29, .binOp .eql 25 (.tmp 28) (.const (.int .u32 17)) 25, 4, "", #[], some (26, false)⟩, ⟨some 30, .pick (.tmp 26) (.const (.bool true)) (.tmp 29), 4, "", #[], some (22, true)⟩, ⟨some 31, .pick (.tmp 22) (.tmp 30) (.const (.bool false)), 4, "", #[], some (18, false)⟩, ⟨some 32, .pick (.tmp 18) (.const (.bool true)) (.tmp 31), 4, "", #[], some (14, true)⟩, o 33 (.pick (.tmp 14) (.tmp 32) (.const (.bool false))) 4] false)
 (.cond (.tmp 33)
 (.seq (.region 4 #[o 2 (.assign (.const (.int .i64 9))) 3] false)
 .ret)
 .skip))
 (.seq (.region 5 #[o 2 (.assign (.const (.int .i64 0))) 3] false)
 .ret))))
def fn80 : AFn := { ntmps := 34, results := [.tmp 2], body := c80, keep := fun | 0 => some [1] | 1 => some [1, 10] | 2 => some [2] | 3 => some [33] | 4 => some [2] | 5 => some [2] | _ => none, head := fun  | _ => none, opn := fun _ => none, dyn := fun _ => [] }
def c88 : Code :=
  (.seq (.region 0 #[o 2 (.alloc 27) 0, o 3 (.assign (.const (.int .i64 0))) 3, o 4 (.assign (.const (.int .i64 0))) 3] false)
 (.seq (.seq (.region 1 #[m 9 0 22, o 10 (.call { callee := .builtin .len, args := #[.tmp 9], argTypes := #[22] }) 3, o 11 (.binOp .eql 3 (.tmp 10) (.const (.int .i64 0)) 3) 4] false)
 (.cond (.tmp 11)
 (.seq (.region 2 #[o 12 (.build 27 #[]) 27, ⟨none, .store 27 (.tmp 2) (.tmp 12), 0, "", #[], none⟩, o 3 (.assign (.const (.int .i64 0))) 3, o 4 (.assign (.const (.int .i64 7))) 3] false)
 .ret)
 .skip))
 (.seq (.region 3 #[m 13 0 22, o 14 (.indexAddr 22 (.tmp 13) (.const (.int .i64 0))) 0, o 15 (.load 5 (.tmp 14)) 5, o 16 (.binOp .quo 5 (.tmp 15) (.const (.int .u8 64)) 5) 5, m 17 0 22, o 18 (.indexAddr 22 (.tmp 17) (.const (.int .i64 0))) 0, o 19 (.load 5 (.tmp 18)) 5, o 20 (.binOp .quo 5 (.tmp 19) (.const (.int .u8 32)) 5) 5, o 21 (.binOp .rem 5 (.tmp 20) (.const (.int .u8 2)) 5) 5, o 22 (.binOp .eql 5 (.tmp 21) (.const (.int .u8 1)) 5) 4, m 23 0 22, o 24 (.indexAddr 22 (.tmp 23) (.const (.int .i64 0))) 0, o 25 (.load 5 (.tmp 24)) 5, o 26 (.binOp .rem 5 (.tmp 25) (.const (.int .u8 32)) 5) 5, o 27 (.convert 5 25 (.tmp 26)) 25, o 28 (.build 27 #[(0, .tmp 16), (1, .tmp 22), (2, .tmp 27)]) 27, o 5 (.alloc 27) 0, ⟨none, .store 27 (.tmp 5) (.tmp 28), 0, "", #[], none⟩] true)
 (.seq (.region 4 #[o 6 (.assign (.const (.int .i64 1))) 3] false)
 (.seq (.seq (.region 5 #[o 29 (.fieldAddr 27 (.tmp 5) 2) 0, o 30 (.load 25 (.tmp 29)) 25, o 31 (.binOp .eql 25 (.tmp 30) (.const (.int .u32 31)) 25) 4] false)
 (.cond (.tmp 31)
 (.seq (.region 6 #[o 7 (.assign (.const (.int .i64 0))) 3] false)
 (.seq (.block 0 (.loop (.block 1 (.seq (.seq (.region 7 #[m 32 6 3, m 33 0 22, o 34 (.call { callee := .builtin .len, args := #[.tmp 33], argTypes := #[22] }) 3, o 35 (.binOp .eql 3 (.tmp 32) (.tmp 34) 3) 4] false)
 (.cond (.tmp 35)
 (.seq (.region 8 #[o 36 (.build 27 #[]) 27, ⟨none, .store 27 (.tmp 2) (.tmp 36), 0, "", #[], none⟩, o 3 (.assign (.const (.int .i64 0))) 3, o 4 (.assign (.const (.int .i64 7))) 3] false)
 .ret)
 .skip))
 (.seq (.seq (.region 9 #[m 37 6 3, o 38 (.binOp .eql 3 (.tmp 37) (.const (.int .i64 1)) 3) 4, m 39 38 4, ⟨some 40, .move (.tmp 0), 22, "", #[], some (39, true)⟩, ⟨some 41, .indexAddr 22 (.tmp 40) (.const (.int .i64 1)), 0, "", #[], some (39, true)⟩, ⟨some 42, .load 5 (.tmp 41), 5, "", #[], some (39, true)⟩, ⟨some 43, .binOp .eql 5 (.tmp 42) (.const (.int .u8 128)) 5, 4, "", #[], some (39, true)⟩, o 44 (.pick (.tmp 39) (.tmp 43) (.const (.bool false))) 4, m 45 44 4, ⟨some 46, .move (.tmp 6), 3, "", #[], some (45, false)⟩, ⟨some 47, .binOp .eql 3 (.tmp 46) (.const (.int .i64 4)) 3, 4, "", #[], some (45, false)⟩, ⟨some 48, .move (.tmp 47), 4, "", #[], some (45, false)⟩, ⟨some 49, .move (.tmp 0), 22, "", #[], some (48, true)⟩, ⟨some 50, .indexAddr 22 (.tmp 49) (.const (.int .i64 4)), 0, "", #[], some (48, true)⟩, ⟨some 51, .load 5 (.tmp 50), 5, "", #[], some (48, true)⟩, ⟨some 52, .binOp .gtr 5 (.tmp 51) (.const (.int .u8 127)) 5, 4, "", #[], some (48, true)⟩, ⟨some 53, .pick (.tmp 48) (.tmp 52) (.const (.bool false)), 4, "", #[], some (45, false)⟩, o 54 (.pick (.tmp 45) (.const (.bool true)) (.tmp 53)) 4] false)
 (.cond (.tmp 54)
 (.seq (.region 10 #[o 55 (.build 27 #[]) 27, ⟨none, .store 27 (.tmp 2) (.tmp 55), 0, "", #[], none⟩, o 3 (.assign (.const (.int .i64 0))) 3, o 4 (.assign (.const (.int .i64 9))) 3] false)
 .ret)
 .skip))
 (.seq (.region 11 #[m 56 7 3, o 57 (.binOp .mul 3 (.const (.int .i64 128)) (.tmp 56) 3) 3, m 58 0 22, m 59 6 3, o 60 (.indexAddr 22 (.tmp 58) (.tmp 59)) 0, o 61 (.load 5 (.tmp 60)) 5, o 62 (.binOp .rem 5 (.tmp 61) (.const (.int .u8 128)) 5) 5, o 63 (.convert 5 3 (.tmp 62)) 3, o 64 (.binOp .add 3 (.tmp 57) (.tmp 63) 3) 3, o 7 (.assign (.tmp 64)) 3] false)
 (.seq (.region 12 #[m 65 6 3, o 66 (.binOp .add 3 (.tmp 65) (.const (.int .i64 1)) 3) 3, o 6 (.assign (.tmp 66)) 3] false)
 (.seq (.region 13 #[m 67 0 22, m 68 6 3, o 69 (.binOp .sub 3 (.tmp 68) (.const (.int .i64 1)) 3) 3, o 70 (.indexAddr 22 (.tmp 67) (.tmp 69)) 0, o 71 (.load 5 (.tmp 70)) 5, o 72 (.binOp .lss 5 (.tmp 71) (.const (.int .u8 128)) 5) 4] false)
 (.cond (.tmp 72)
 (.exit 0)
 .skip)))))))))
 (.seq (.seq (.region 14 #[m 73 7 3, o 74 (.binOp .lss 3 (.tmp 73) (.const (.int .i64 31)) 3) 4] false)
 (.cond (.tmp 74)
 (.seq (.region 15 #[o 75 (.build 27 #[]) 27, ⟨none, .store 27 (.tmp 2) (.tmp 75), 0, "", #[], none⟩, o 3 (.assign (.const (.int .i64 0))) 3, o 4 (.assign (.const (.int .i64 9))) 3] false)
 .ret)
 .skip))
 (.region 16 #[m 76 7 3, o 77 (.convert 3 25 (.tmp 76)) 25, o 78 (.fieldAddr 27 (.tmp 5) 2) 0, ⟨none, .store 25 (.tmp 78) (.tmp 77), 0, "", #[], none⟩] false))))
 .skip))
 (.seq (.seq (.region 17 #[o 79 (.load 27 (.tmp 5)) 27, o 80 (.call { callee := .value (.func 80), args := #[.tmp 79], argTypes := #[27] }) 3, o 8 (.assign (.tmp 80)) 3] false)
 (.seq (.region 18 #[m 81 8 3, o 82 (.binOp .neq 3 (.tmp 81) (.const (.int .i64 0)) 3) 4] false)
 (.cond (.tmp 82)
 (.seq (.region 19 #[o 83 (.build 27 #[]) 27, m 84 8 3, ⟨none, .store 27 (.tmp 2) (.tmp 83), 0, "", #[], none⟩, o 3 (.assign (.const (.int .i64 0))) 3, o 4 (.assign (.tmp 84)) 3] false)
 .ret)
 .skip)))
 (.seq (.region 20 #[o 85 (.load 27 (.tmp 5)) 27, m 86 6 3, ⟨none, .store 27 (.tmp 2) (.tmp 85), 0, "", #[], none⟩, o 3 (.assign (.tmp 86)) 3, o 4 (.assign (.const (.int .i64 0))) 3] false)
 .ret)))))))
def fn88 : AFn := { ntmps := 87, results := [.cell 2 27, .tmp 3, .tmp 4], body := c88, keep := fun | 0 => some [0, 2] | 1 => some [0, 2, 11] | 2 => some [2, 3, 4] | 3 => some [0, 2, 5] | 4 => some [0, 2, 5, 6] | 5 => some [0, 2, 5, 6, 31] | 6 => some [0, 2, 5, 6, 7] | 7 => some [0, 2, 5, 6, 7, 35] | 8 => some [2, 3, 4] | 9 => some [0, 2, 5, 6, 7, 54] | 10 => some [2, 3, 4] | 11 => some [0, 2, 5, 6, 7] | 12 => some [0, 2, 5, 6, 7] | 13 => some [0, 2, 5, 6, 7, 72] | 14 => some [2, 5, 6, 7, 74] | 15 => some [2, 3, 4] | 16 => some [2, 5, 6] | 17 => some [2, 5, 6, 8] | 18 => some [2, 5, 6, 8, 82] | 19 => some [2, 3, 4] | 20 => some [2, 3, 4] | _ => none, head := fun | 7 => some [0, 2, 5, 6, 7] | _ => none, opn := fun _ => none, dyn := fun _ => [] }
def c89 : Code :=
  (.seq (.region 0 #[o 2 (.assign (.const (.int .i64 0))) 3, o 3 (.assign (.const (.int .i64 0))) 3, o 4 (.assign (.const (.int .i64 0))) 3] false)
 (.seq (.seq (.region 1 #[m 8 0 22, o 9 (.call { callee := .builtin .len, args := #[.tmp 8], argTypes := #[22] }) 3, o 10 (.binOp .eql 3 (.tmp 9) (.const (.int .i64 0)) 3) 4] false)
 (.cond (.tmp 10)
 (.seq (.region 2 #[o 2 (.assign (.const (.int .i64 0))) 3, o 3 (.assign (.const (.int .i64 0))) 3, o 4 (.assign (.const (.int .i64 7))) 3] false)
 .ret)
 .skip))
 (.seq (.seq (.region 3 #[m 11 0 22, o 12 (.indexAddr 22 (.tmp 11) (.const (.int .i64 0))) 0, o 13 (.load 5 (.tmp 12)) 5, o 14 (.binOp .lss 5 (.tmp 13) (.const (.int .u8 128)) 5) 4] false)
 (.cond (.tmp 14)
 (.seq (.region 4 #[m 15 0 22, o 16 (.indexAddr 22 (.tmp 15) (.const (.int .i64 0))) 0, o 17 (.load 5 (.tmp 16)) 5, o 18 (.convert 5 3 (.tmp 17)) 3, o 2 (.assign (.tmp 18)) 3, o 3 (.assign (.const (.int .i64 1))) 3, o 4 (.assign (.const (.int .i64 0))) 3] false)
 .ret)
 .skip))
 (.seq (.region 5 #[m 19 0 22, o 20 (.indexAddr 22 (.tmp 19) (.const (.int .i64 0))) 0, o 21 (.load 5 (.tmp 20)) 5, o 22 (.convert 5 3 (.tmp 21)) 3, o 23 (.binOp .sub 3 (.tmp 22) (.const (.int .i64 128)) 3) 3, o 5 (.assign (.tmp 23)) 3] false)
 (.seq (.seq (.region 6 #[m 24 5 3, o 25 (.binOp .lss 3 (.tmp 24) (.const (.int .i64 1)) 3) 4, m 26 25 4, ⟨some 27, .move (.tmp 5), 3, "", #[], some (26, false)⟩, ⟨some 28, .binOp .gtr 3 (.tmp 27) (.const (.int .i64 3)) 3, 4, "", #[], some (26, false)⟩, o 29 (.pick (.tmp 26) (.const (.bool true)) (.tmp 28)) 4] false)
 (.cond (.tmp 29)
 (.seq (.region 7 #[o 2 (.assign (.const (.int .i64 0))) 3, o 3 (.assign (.const (.int .i64 0))) 3, o 4 (.assign (.const (.int .i64 10))) 3] false)
 .ret)
 .skip))
 (.seq (.seq (.region 8 #[m 30 0 22, o 31 (.call { callee := .builtin .len, args := #[.tmp 30], argTypes := #[22] }) 3, m 32 5 3, o 33 (.binOp .add 3 (.tmp 32) (.const (.int .i64 1)) 3) 3, o 34 (.binOp .lss 3 (.tmp 31) (.tmp 33) 3) 4] false)
 (.cond (.tmp 34)
 (.seq (.region 9 #[o 2 (.assign (.const (.int .i64 0))) 3, o 3 (.assign (.const (.int .i64 0))) 3, o 4 (.assign (.const (.int .i64 7))) 3] false)
 .ret)
 .skip))
 (.seq (.region 10 #[o 6 (.assign (.const (.int .i64 0))) 3] false)
 (.seq (.seq (.region 11 #[o 7 (.assign (.const (.int .i64 1))) 3] false)
 (.block 0 (.loop (.seq (.seq (.region 12 #[m 35 7 3, m 36 5 3, o 37 (.binOp .leq 3 (.tmp 35) (.tmp 36) 3) 4] false)
 (.cond (.tmp 37)
 .skip
 (.exit 0)))
 (.seq (.block 1 (.region 14 #[m 40 6 3, o 41 (.binOp .mul 3 (.const (.int .i64 256)) (.tmp 40) 3) 3, m 42 0 22, m 43 7 3, o 44 (.indexAddr 22 (.tmp 42) (.tmp 43)) 0, o 45 (.load 5 (.tmp 44)) 5, o 46 (.convert 5 3 (.tmp 45)) 3, o 47 (.binOp .add 3 (.tmp 41) (.tmp 46) 3) 3, o 6 (.assign (.tmp 47)) 3] false))
 (.region 13 #[m 38 7 3, o 39 (.binOp .add 3 (.tmp 38) (.const (.int .i64 1)) 3) 3, o 7 (.assign (.tmp 39)) 3] false))))))
 (.seq (.seq (.region 15 #[m 48 0 22, o 49 (.indexAddr 22 (.tmp 48) (.const (.int .i64 1))) 0, o 50 (.load 5 (.tmp 49)) 5, o 51 (.binOp .eql 5 (.tmp 50) (.const (.int .u8 0)) 5) 4, m 52 51 4, ⟨some 53, .move (.tmp 6), 3, "", #[], some (52, false)⟩, ⟨some 54, .binOp .lss 3 (.tmp 53) (.const (.int .i64 128)) 3, 4, "", #[], some (52, false)⟩, o 55 (.pick (.tmp 52) (.const (.bool true)) (.tmp 54)) 4] false)
 (.cond (.tmp 55)
 (.seq (.region 16 #[o 2 (.assign (.const (.int .i64 0))) 3, o 3 (.assign (.const (.int .i64 0))) 3, o 4 (.assign (.const (.int .i64 10))) 3] false)
 .ret)
 .skip))
 (.seq (.region 17 #[m 56 6 3, m 57 5 3, o 58 (.binOp .add 3 (.tmp 57) (.const (.int .i64 1)) 3) 3, o 2 (.assign (.tmp 56)) 3, o 3 (.assign (.tmp 58)) 3, o 4 (.assign (.const (.int .i64 0))) 3] false)
 .ret))))))))))
def fn89 : AFn := { ntmps := 59, results := [.tmp 2, .tmp 3, .tmp 4], body := c89, keep := fun | 0 => some [0] | 1 => some [0, 10] | 2 => some [2, 3, 4] | 3 => some [0, 14] | 4 => some [2, 3, 4] | 5 => some [0, 5] | 6 => some [0, 5, 29] | 7 => some [2, 3, 4] | 8 => some [0, 5, 34] | 9 => some [2, 3, 4] | 10 => some [0, 5, 6] | 11 => some [0, 5, 6, 7] | 12 => some [0, 5, 6, 7, 37] | 13 => some [0, 5, 6, 7] | 14 => some [0, 5, 6, 7] | 15 => some [5, 6, 55] | 16 => some [2, 3, 4] | 17 => some [2, 3, 4] | _ => none, head := fun | 12 => some [0, 5, 6, 7] | _ => none, opn := fun _ => none, dyn := fun _ => [] }
def c90 : Code :=
  (.seq (.region 0 #[o 1 (.box 30 (.tmp 0)) 0, o 2 (.assign (.const (.int .i64 0))) 3] false)
 (.seq (.seq (.region 1 #[o 6 (.fieldAddr 30 (.tmp 1) 0) 0, o 7 (.fieldAddr 27 (.tmp 6) 1) 0, o 8 (.load 4 (.tmp 7)) 4, o 9 (.unOp .not 4 (.tmp 8)) 4] false)
 (.cond (.tmp 9)
 (.seq (.region 2 #[o 10 (.fieldAddr 30 (.tmp 1) 1) 0, o 11 (.load 22 (.tmp 10)) 22, o 12 (.call { callee := .builtin .len, args := #[.tmp 11], argTypes := #[22] }) 3, o 2 (.assign (.tmp 12)) 3] false)
 .ret)
 .skip))
 (.seq (.region 3 #[o 3 (.assign (.const (.int .i64 0))) 3] false)
 (.seq (.seq (.region 4 #[o 13 (.fieldAddr 30 (.tmp 1) 2) 0, o 14 (.load 28 (.tmp 13)) 28, o 15 (.call { callee := .builtin .len, args := #[.tmp 14], argTypes := #[28] }) 3, o 16 (.move (.const (.int .i64 0))) 3] false)
 (.block 0 (.loop (.seq (.region 5 #[o 17 (.binOp .lss 3 (.tmp 16) (.tmp 15) 3) 0] false)
 (.seq (.cond (.tmp 17)
 .skip
 (.exit 0))
 (.seq (.block 1 (.seq (.region 6 #[o 18 (.indexAddr 28 (.tmp 14) (.tmp 16)) 0, o 19 (.load 30 (.tmp 18)) 30, o 5 (.alloc 30) 0, ⟨none, .store 30 (.tmp 5) (.tmp 19), 0, "", #[], none⟩] false)
 (.region 7 #[m 20 3 3, o 21 (.load 30 (.tmp 5)) 30, o 22 (.call { callee := .value (.func 69), args := #[.tmp 21], argTypes := #[30] }) 3, o 23 (.binOp .add 3 (.tmp 20) (.tmp 22) 3) 3, o 24 (.call { callee := .builtin .min, args := #[.tmp 23, .const (.int .i64 1048577)], argTypes := #[3, 3] }) 3, o 3 (.assign (.tmp 24)) 3] false)))
 (.region 8 #[o 25 (.binOp .add 3 (.tmp 16) (.const (.int .i64 1)) 3) 3, m 16 25 3] false)))))))
 (.seq (.region 9 #[m 26 3 3, o 2 (.assign (.tmp 26)) 3] false)
 .ret)))))
def fn90 : AFn := { ntmps := 27, results := [.tmp 2], body := c90, keep := fun | 0 => some [1] | 1 => some [1, 9] | 2 => some [2] | 3 => some [1, 3] | 4 => some [3, 14, 15, 16] | 5 => some [3, 14, 15, 16, 17] | 6 => some [3, 5, 14, 15, 16] | 7 => some [3, 14, 15, 16] | 8 => some [3, 14, 15, 16] | 9 => some [2] | _ => none, head := fun | 5 => some [3, 14, 15, 16] | _ => none, opn := fun _ => none, dyn := fun _ => [] }
def c91 : Code :=
  (.seq (.region 0 #[o 4 (.assign (.const (.int .i64 0))) 3] false)
 (.seq (.seq (.region 1 #[m 5 0 3, o 6 (.binOp .lss 3 (.tmp 5) (.const (.int .i64 1)) 3) 4, m 7 6 4, ⟨some 8, .move (.tmp 0), 3, "", #[], some (7, false)⟩, ⟨some 9, .binOp .gtr 3 (.tmp 8) (.const (.int .i64 5)) 3, 4, "", #[], some (7, false)⟩, o 10 (.pick (.tmp 7) (.const (.bool true)) (.tmp 9)) 4, m 11 10 4, ⟨some 12, .move (.tmp 1), 3, "", #[], some (11, false)⟩, ⟨some 13, .call { callee := .value (.func 110), args := #[.tmp 12], argTypes := #[3] }, 3, "", #[], some (11, false)⟩, ⟨some 14, .binOp .eql 3 (.tmp 13) (.const (.int .i64 0)) 3, 4, "", #[], some (11, false)⟩, o 15 (.pick (.tmp 11) (.const (.bool true)) (.tmp 14)) 4] false)
 (.cond (.tmp 15)
 (.seq (.region 2 #[o 4 (.assign (.const (.int .i64 0))) 3] false)
 .ret)
 .skip))
 (.seq (.region 3 #[m 16 0 3, m 17 1 3, o 18 (.call { callee := .value (.func 110), args := #[.tmp 17], argTypes := #[3] }) 3, o 19 (.binOp .add 3 (.tmp 16) (.tmp 18) 3) 3, m 20 1 3, o 21 (.binOp .add 3 (.tmp 19) (.tmp 20) 3) 3, o 4 (.assign (.tmp 21)) 3] false)
 .ret)))
def fn91 : AFn := { ntmps := 22, results := [.tmp 4], body := c91, keep := fun | 0 => some [0, 1] | 1 => some [0, 1, 15] | 2 => some [4] | 3 => some [4] | _ => none, head := fun  | _ => none, opn := fun _ => none, dyn := fun _ => [] }
def c92 : Code :=
  (.seq (.region 0 #[o 1 (.box 27 (.tmp 0)) 0, o 2 (.assign (.const (.int .i64 0))) 3] false)
 (.seq (.region 1 #[o 6 (.load 27 (.tmp 1)) 27, o 7 (.call { callee := .value (.func 93), args := #[.tmp 6], argTypes := #[27] }) 35, m 5 7 35, o 8 (.extract (.tmp 5) 0) 22, o 9 (.extract (.tmp 5) 1) 34, o 3 (.assign (.tmp 8)) 22, o 4 (.assign (.tmp 9)) 34] false)
 (.seq (.region 2 #[m 10 3 22, o 11 (.call { callee := .builtin .len, args := #[.tmp 10], argTypes := #[22] }) 3, o 2 (.assign (.tmp 11)) 3] false)
 .ret)))
def fn92 : AFn := { ntmps := 12, results := [.tmp 2], body := c92, keep := fun | 0 => some [1] | 1 => some [3] | 2 => some [2] | _ => none, head := fun  | _ => none, opn := fun _ => none, dyn := fun _ => [] }
def c93 : Code :=
  (.seq (.region 0 #[o 1 (.box 27 (.tmp 0)) 0, o 2 (.assign (.const (.slice none 0 0))) 22, o 3 (.assign (.const (.int .i64 0))) 34] false)
 (.seq (.seq (.region 1 #[o 8 (.load 27 (.tmp 1)) 27, o 9 (.call { callee := .value (.func 102), args := #[.tmp 8], argTypes := #[27] }) 34, o 4 (.assign (.tmp 9)) 34] false)
 (.seq (.region 2 #[m 10 4 34, o 11 (.binOp .neq 34 (.tmp 10) (.const (.int .i64 0)) 34) 4] false)
 (.cond (.tmp 11)
 (.seq (.region 3 #[m 12 4 34, o 2 (.assign (.const (.slice none 0 0))) 22, o 3 (.assign (.tmp 12)) 34] false)
 .ret)
 .skip)))
 (.seq (.region 4 #[o 13 (.fieldAddr 27 (.tmp 1) 0) 0, o 14 (.load 24 (.tmp 13)) 24, o 15 (.binOp .shl 5 (.tmp 14) (.const (.int .u64 6)) 151) 5, o 5 (.assign (.tmp 15)) 5] false)
 (.seq (.seq (.region 5 #[o 16 (.fieldAddr 27 (.tmp 1) 1) 0, o 17 (.load 4 (.tmp 16)) 4] false)
 (.cond (.tmp 17)
 (.region 6 #[m 18 5 5, o 19 (.binOp .or 5 (.tmp 18) (.const (.int .u8 32)) 5) 5, o 5 (.assign (.tmp 19)) 5] false)
 .skip))
 (.seq (.seq (.region 7 #[o 20 (.fieldAddr 27 (.tmp 1) 2) 0, o 21 (.load 25 (.tmp 20)) 25, o 22 (.binOp .lss 25 (.tmp 21) (.const (.int .u32 31)) 25) 4] false)
 (.cond (.tmp 22)
 (.seq (.region 8 #[m 23 5 5, o 24 (.fieldAddr 27 (.tmp 1) 2) 0, o 25 (.load 25 (.tmp 24)) 25, o 26 (.convert 25 5 (.tmp 25)) 5, o 27 (.binOp .or 5 (.tmp 23) (.tmp 26) 5) 5, o 28 (.buildSlice 22 1 #[(0, .tmp 27)]) 22, o 2 (.assign (.tmp 28)) 22, o 3 (.assign (.const (.int .i64 0))) 34] false)
 .ret)
 .skip))
 (.seq (.region 9 #[m 29 5 5, o 30 (.binOp .or 5 (.tmp 29) (.const (.int .u8 31)) 5) 5, o 31 (.buildSlice 22 1 #[(0, .tmp 30)]) 22, o 6 (.alloc 22) 0, ⟨none, .store 22 (.tmp 6) (.tmp 31), 0, "", #[], none⟩] false)
 (.seq (.seq (.region 10 #[o 32 (.fieldAddr 27 (.tmp 1) 2) 0, o 33 (.load 25 (.tmp 32)) 25, o 34 (.call { callee := .value (.func 111), args := #[.tmp 33], argTypes := #[25] }) 153] false)
 (.block 0 (.refuse "")))
 (.seq (.region 13 #[o 40 (.load 22 (.tmp 6)) 22, o 41 (.call { callee := .value (.func 97), args := #[.tmp 40], argTypes := #[22] }) 22, o 2 (.assign (.tmp 41)) 22, o 3 (.assign (.const (.int .i64 0))) 34] false)
 .ret))))))))
def fn93 : AFn := { ntmps := 42, results := [.tmp 2, .tmp 3], body := c93, keep := fun | 0 => some [1, 35] | 1 => some [1, 4, 35] | 2 => some [1, 4, 11, 35] | 3 => some [2, 3] | 4 => some [1, 5, 35] | 5 => some [1, 5, 17, 35] | 6 => some [1, 5, 35] | 7 => some [1, 5, 22, 35] | 8 => some [2, 3] | 9 => some [1, 6, 35] | 10 => some [6, 34, 35] | 11 => some [6, 7, 35] | 12 => some [6, 35] | 13 => some [2, 3] | _ => none, head := fun  | _ => none, opn := fun _ => none, dyn := fun _ => [] }
def c94 : Code :=
  (.seq (.region 0 #[o 2 (.assign (.const (.slice none 0 0))) 22, o 3 (.assign (.const (.int .i64 0))) 34] false)
 (.seq (.block 0 (.seq (.region 1 #[m 6 0 3, o 7 (.binOp .lss 3 (.tmp 6) (.const (.int .i64 0)) 3) 4, o 5 (.assign (.tmp 7)) 4] false)
 (.cond (.tmp 5)
 (.seq (.region 2 #[o 2 (.assign (.const (.slice none 0 0))) 22, o 3 (.assign (.const (.int .i64 1))) 34] false)
 .ret)
 (.seq (.region 3 #[m 9 0 3, o 10 (.binOp .gtr 3 (.tmp 9) (.const (.int .i64 16777215)) 3) 4, o 8 (.assign (.tmp 10)) 4] false)
 (.cond (.tmp 8)
 (.seq (.region 4 #[o 2 (.assign (.const (.slice none 0 0))) 22, o 3 (.assign (.const (.int .i64 3))) 34] false)
 .ret)
 (.seq (.region 5 #[m 12 0 3, o 13 (.binOp .leq 3 (.tmp 12) (.const (.int .i64 127)) 3) 4, o 11 (.assign (.tmp 13)) 4] false)
 (.cond (.tmp 11)
 (.seq (.region 6 #[m 14 0 3, o 15 (.convert 3 5 (.tmp 14)) 5, o 16 (.buildSlice 22 1 #[(0, .tmp 15)]) 22, o 2 (.assign (.tmp 16)) 22, o 3 (.assign (.const (.int .i64 0))) 34] false)
 .ret)
 .skip)))))))
 (.seq (.region 7 #[o 17 (.buildSlice 22 1 #[(0, .const (.int .u8 0))]) 22, o 4 (.assign (.tmp 17)) 22] false)
 (.seq (.block 1 (.seq (.block 4 (.seq (.block 3 (.seq (.block 2 (.seq (.seq (.seq (.region 8 #[m 19 0 3, o 20 (.binOp .gtr 3 (.tmp 19) (.const (.int .i64 65535)) 3) 4, o 18 (.assign (.tmp 20)) 4] false)
 (.cond (.tmp 18)
 (.exit 2)
 .skip))
 (.seq (.region 9 #[m 22 0 3, o 23 (.binOp .gtr 3 (.tmp 22) (.const (.int .i64 255)) 3) 4, o 21 (.assign (.tmp 23)) 4] false)
 (.cond (.tmp 21)
 (.exit 3)
 .skip)))
 (.exit 4)))
 (.region 10 #[m 24 4 22, m 25 0 3, o 26 (.binOp .shr 3 (.tmp 25) (.const (.int .u64 16)) 151) 3, o 27 (.convert 3 5 (.tmp 26)) 5, o 28 (.buildSlice 22 1 #[(0, .tmp 27)]) 22, o 29 (.call { callee := .builtin .append, args := #[.tmp 24, .tmp 28], argTypes := #[22, 22] }) 22, o 4 (.assign (.tmp 29)) 22] false)))
 (.region 11 #[m 30 4 22, m 31 0 3, o 32 (.binOp .shr 3 (.tmp 31) (.const (.int .u64 8)) 151) 3, o 33 (.convert 3 5 (.tmp 32)) 5, o 34 (.buildSlice 22 1 #[(0, .tmp 33)]) 22, o 35 (.call { callee := .builtin .append, args := #[.tmp 30, .tmp 34], argTypes := #[22, 22] }) 22, o 4 (.assign (.tmp 35)) 22] false)))
 (.seq (.region 12 #[m 36 4 22, m 37 0 3, o 38 (.convert 3 5 (.tmp 37)) 5, o 39 (.buildSlice 22 1 #[(0, .tmp 38)]) 22, o 40 (.call { callee := .builtin .append, args := #[.tmp 36, .tmp 39], argTypes := #[22, 22] }) 22, o 4 (.assign (.tmp 40)) 22] false)
 (.exit 1))))
 (.seq (.region 13 #[m 41 4 22, m 42 4 22, o 43 (.call { callee := .builtin .len, args := #[.tmp 42], argTypes := #[22] }) 3, o 44 (.binOp .sub 3 (.tmp 43) (.const (.int .i64 1)) 3) 3, o 45 (.convert 3 5 (.tmp 44)) 5, o 46 (.binOp .add 5 (.const (.int .u8 128)) (.tmp 45) 5) 5, o 47 (.indexAddr 22 (.tmp 41) (.const (.int .i64 0))) 0, ⟨none, .store 5 (.tmp 47) (.tmp 46), 0, "", #[], none⟩] false)
 (.seq (.region 14 #[m 48 4 22, o 49 (.call { callee := .value (.func 97), args := #[.tmp 48], argTypes := #[22] }) 22, o 2 (.assign (.tmp 49)) 22, o 3 (.assign (.const (.int .i64 0))) 34] false)
 .ret))))))
def fn94 : AFn := { ntmps := 50, results := [.tmp 2, .tmp 3], body := c94, keep := fun | 0 => some [0] | 1 => some [0, 5] | 2 => some [2, 3] | 3 => some [0, 8] | 4 => some [2, 3] | 5 => some [0, 11] | 6 => some [2, 3] | 7 => some [0, 4] | 8 => some [0, 4, 18] | 9 => some [0, 4, 21] | 10 => some [0, 4] | 11 => some [0, 4] | 12 => some [4] | 13 => some [4] | 14 => some [2, 3] | _ => none, head := fun  | _ => none, opn := fun _ => none, dyn := fun _ => [] }
def c95 : Code :=
  (.seq (.region 0 #[o 2 (.alloc 27) 0, o 3 (.assign (.const (.int .i64 0))) 3, o 4 (.assign (.const (.int .i64 0))) 34] false)
 (.seq (.seq (.region 1 #[m 5 0 22, o 6 (.call { callee := .builtin .len, args := #[.tmp 5], argTypes := #[22] }) 3, o 7 (.binOp .eql 3 (.tmp 6) (.const (.int .i64 0)) 3) 4] false)
 (.cond (.tmp 7)
 (.seq (.region 2 #[o 8 (.build 27 #[]) 27, ⟨none, .store 27 (.tmp 2) (.tmp 8), 0, "", #[], none⟩, o 3 (.assign (.const (.int .i64 0))) 3, o 4 (.assign (.const (.int .i64 7))) 34] false)
 .ret)
 .skip))
 (.seq (.region 3 #[m 9 0 22, o 10 (.indexAddr 22 (.tmp 9) (.const (.int .i64 0))) 0, o 11 (.load 5 (.tmp 10)) 5, o 12 (.binOp .shr 5 (.tmp 11) (.const (.int .u64 6)) 151) 5, m 13 0 22, o 14 (.indexAddr 22 (.tmp 13) (.const (.int .i64 0))) 0, o 15 (.load 5 (.tmp 14)) 5, o 16 (.binOp .and 5 (.tmp 15) (.const (.int .u8 32)) 5) 5, o 17 (.binOp .neq 5 (.tmp 16) (.const (.int .u8 0)) 5) 4, m 18 0 22, o 19 (.indexAddr 22 (.tmp 18) (.const (.int .i64 0))) 0, o 20 (.load 5 (.tmp 19)) 5, o 21 (.binOp .and 5 (.tmp 20) (.const (.int .u8 31)) 5) 5, o 22 (.convert 5 25 (.tmp 21)) 25, o 23 (.build 27 #[(0, .tmp 12), (1, .tmp 17), (2, .tmp 22)]) 27, ⟨none, .store 27 (.tmp 2) (.tmp 23), 0, "", #[], none⟩] true)
 (.seq (.region 4 #[o 3 (.assign (.const (.int .i64 1))) 3] false)
 (.seq (.seq (.region 5 #[o 24 (.fieldAddr 27 (.tmp 2) 2) 0, o 25 (.load 25 (.tmp 24)) 25, o 26 (.binOp .eql 25 (.tmp 25) (.const (.int .u32 31)) 25) 4] false)
 (.cond (.tmp 26)
 (.region 6 #[m 28 0 22, o 29 (.call { callee := .value (.func 112), args := #[.tmp 28], argTypes := #[22] }) 155, m 27 29 155, o 30 (.extract (.tmp 27) 0) 25, o 31 (.extract (.tmp 27) 1) 3, o 32 (.extract (.tmp 27) 2) 34, o 33 (.fieldAddr 27 (.tmp 2) 2) 0, ⟨none, .store 25 (.tmp 33) (.tmp 30), 0, "", #[], none⟩, o 3 (.assign (.tmp 31)) 3, o 4 (.assign (.tmp 32)) 34] false)
 .skip))
 (.seq (.seq (.region 7 #[m 34 4 34, o 35 (.binOp .eql 34 (.tmp 34) (.const (.int .i64 0)) 34) 4] false)
 (.cond (.tmp 35)
 (.region 8 #[o 36 (.load 27 (.tmp 2)) 27, o 37 (.call { callee := .value (.func 102), args := #[.tmp 36], argTypes := #[27] }) 34, o 4 (.assign (.tmp 37)) 34] false)
 .skip))
 (.seq (.seq (.region 9 #[m 38 4 34, o 39 (.binOp .neq 34 (.tmp 38) (.const (.int .i64 0)) 34) 4] false)
 (.cond (.tmp 39)
 (.seq (.region 10 #[o 40 (.build 27 #[]) 27, m 41 4 34, ⟨none, .store 27 (.tmp 2) (.tmp 40), 0, "", #[], none⟩, o 3 (.assign (.const (.int .i64 0))) 3, o 4 (.assign (.tmp 41)) 34] false)
 .ret)
 .skip))
 (.seq (.region 11 #[o 42 (.load 27 (.tmp 2)) 27, m 43 3 3, ⟨none, .store 27 (.tmp 2) (.tmp 42), 0, "", #[], none⟩, o 3 (.assign (.tmp 43)) 3, o 4 (.assign (.const (.int .i64 0))) 34] false)
 .ret))))))))
def fn95 : AFn := { ntmps := 44, results := [.cell 2 27, .tmp 3, .tmp 4], body := c95, keep := fun | 0 => some [0, 2, 4] | 1 => some [0, 2, 4, 7] | 2 => some [2, 3, 4] | 3 => some [0, 2, 4] | 4 => some [0, 2, 3, 4] | 5 => some [0, 2, 3, 4, 26] | 6 => some [2, 3, 4] | 7 => some [2, 3, 4, 35] | 8 => some [2, 3, 4] | 9 => some [2, 3, 4, 39] | 10 => some [2, 3, 4] | 11 => some [2, 3, 4] | _ => none, head := fun  | _ => none, opn := fun _ => none, dyn := fun _ => [] }
def c96 : Code :=
  (.seq (.region 0 #[o 2 (.assign (.const (.int .i64 0))) 3, o 3 (.assign (.const (.int .i64 0))) 3, o 4 (.assign (.const (.int .i64 0))) 34] false)
 (.seq (.seq (.region 1 #[m 7 0 22, o 8 (.call { callee := .builtin .len, args := #[.tmp 7], argTypes := #[22] }) 3, o 9 (.binOp .eql 3 (.tmp 8) (.const (.int .i64 0)) 3) 4] false)
 (.cond (.tmp 9)
 (.seq (.region 2 #[o 2 (.assign (.const (.int .i64 0))) 3, o 3 (.assign (.const (.int .i64 0))) 3, o 4 (.assign (.const (.int .i64 7))) 34] false)
 .ret)
 .skip))
 (.seq (.seq (.region 3 #[m 10 0 22, o 11 (.indexAddr 22 (.tmp 10) (.const (.int .i64 0))) 0, o 12 (.load 5 (.tmp 11)) 5, o 13 (.binOp .leq 5 (.tmp 12) (.const (.int .u8 127)) 5) 4] false)
 (.cond (.tmp 13)
 (.seq (.region 4 #[m 14 0 22, o 15 (.indexAddr 22 (.tmp 14) (.const (.int .i64 0))) 0, o 16 (.load 5 (.tmp 15)) 5, o 17 (.convert 5 3 (.tmp 16)) 3, o 2 (.assign (.tmp 17)) 3, o 3 (.assign (.const (.int .i64 1))) 3, o 4 (.assign (.const (.int .i64 0))) 34] false)
 .ret)
 .skip))
 (.seq (.region 5 #[o 5 (.alloc 158) 0] false)
 (.seq (.region 6 #[m 18 0 22, o 19 (.indexAddr 22 (.tmp 18) (.const (.int .i64 0))) 0, o 20 (.load 5 (.tmp 19)) 5, o 21 (.convert 5 3 (.tmp 20)) 3, o 22 (.binOp .sub 3 (.tmp 21) (.const (.int .i64 128)) 3) 3, o 6 (.assign (.tmp 22)) 3] false)
 (.seq (.block 0 (.seq (.region 7 #[m 24 6 3, o 25 (.binOp .eql 3 (.tmp 24) (.const (.int .i64 0)) 3) 4, m 26 25 4, ⟨some 27, .move (.tmp 6), 3, "", #[], some (26, false)⟩, ⟨some 28, .binOp .gtr 3 (.tmp 27) (.const (.int .i64 3)) 3, 4, "", #[], some (26, false)⟩, o 29 (.pick (.tmp 26) (.const (.bool true)) (.tmp 28)) 4, o 23 (.assign (.tmp 29)) 4] false)
 (.cond (.tmp 23)
 (.seq (.region 8 #[o 2 (.assign (.const (.int .i64 0))) 3, o 3 (.assign (.const (.int .i64 0))) 3, o 4 (.assign (.const (.int .i64 10))) 34] false)
 .ret)
 (.seq (.region 9 #[m 31 0 22, o 32 (.call { callee := .builtin .len, args := #[.tmp 31], argTypes := #[22] }) 3, m 33 6 3, o 34 (.binOp .leq 3 (.tmp 32) (.tmp 33) 3) 4, o 30 (.assign (.tmp 34)) 4] false)
 (.cond (.tmp 30)
 (.seq (.region 10 #[o 2 (.assign (.const (.int .i64 0))) 3, o 3 (.assign (.const (.int .i64 0))) 3, o 4 (.assign (.const (.int .i64 7))) 34] false)
 .ret)
 .skip)))))
 (.seq (.region 11 #[m 35 6 3, o 36 (.binOp .sub 3 (.const (.int .i64 3)) (.tmp 35) 3) 3, o 37 (.slice 158 (.tmp 5) (some (.tmp 36)) none none) 22, m 38 0 22, o 39 (.slice 22 (.tmp 38) (some (.const (.int .i64 1))) none none) 22, o 40 (.call { callee := .builtin .copy, args := #[.tmp 37, .tmp 39], argTypes := #[22, 22] }) 3] true)
 (.seq (.region 12 #[o 41 (.indexAddr 158 (.tmp 5) (.const (.int .i64 0))) 0, o 42 (.load 5 (.tmp 41)) 5, o 43 (.convert 5 3 (.tmp 42)) 3, o 44 (.binOp .shl 3 (.tmp 43) (.const (.int .u64 16)) 151) 3, o 45 (.indexAddr 158 (.tmp 5) (.const (.int .i64 1))) 0, o 46 (.load 5 (.tmp 45)) 5, o 47 (.convert 5 3 (.tmp 46)) 3, o 48 (.binOp .shl 3 (.tmp 47) (.const (.int .u64 8)) 151) 3, o 49 (.binOp .or 3 (.tmp 44) (.tmp 48) 3) 3, o 50 (.indexAddr 158 (.tmp 5) (.const (.int .i64 2))) 0, o 51 (.load 5 (.tmp 50)) 5, o 52 (.convert 5 3 (.tmp 51)) 3, o 53 (.binOp .or 3 (.tmp 49) (.tmp 52) 3) 3, o 2 (.assign (.tmp 53)) 3] false)
 (.seq (.seq (.region 13 #[m 54 0 22, o 55 (.indexAddr 22 (.tmp 54) (.const (.int .i64 1))) 0, o 56 (.load 5 (.tmp 55)) 5, o 57 (.binOp .eql 5 (.tmp 56) (.const (.int .u8 0)) 5) 4, m 58 57 4, ⟨some 59, .move (.tmp 2), 3, "", #[], some (58, false)⟩, ⟨some 60, .binOp .leq 3 (.tmp 59) (.const (.int .i64 127)) 3, 4, "", #[], some (58, false)⟩, o 61 (.pick (.tmp 58) (.const (.bool true)) (.tmp 60)) 4] false)
 (.cond (.tmp 61)
 (.seq (.region 14 #[o 2 (.assign (.const (.int .i64 0))) 3, o 3 (.assign (.const (.int .i64 0))) 3, o 4 (.assign (.const (.int .i64 10))) 34] false)
 .ret)
 .skip))
 (.seq (.region 15 #[m 62 2 3, m 63 6 3, o 64 (.binOp .add 3 (.tmp 63) (.const (.int .i64 1)) 3) 3, o 2 (.assign (.tmp 62)) 3, o 3 (.assign (.tmp 64)) 3, o 4 (.assign (.const (.int .i64 0))) 34] false)
 .ret))))))))))
def fn96 : AFn := { ntmps := 65, results := [.tmp 2, .tmp 3, .tmp 4], body := c96, keep := fun | 0 => some [0] | 1 => some [0, 9] | 2 => some [2, 3, 4] | 3 => some [0, 13] | 4 => some [2, 3, 4] | 5 => some [0, 5] | 6 => some [0, 5, 6] | 7 => some [0, 5, 6, 23] | 8 => some [2, 3, 4] | 9 => some [0, 5, 6, 30] | 10 => some [2, 3, 4] | 11 => some [0, 5, 6] | 12 => some [0, 2, 6] | 13 => some [2, 6, 61] | 14 => some [2, 3, 4] | 15 => some [2, 3, 4] | _ => none, head := fun  | _ => none, opn := fun _ => none, dyn := fun _ => [] }
def c97 : Code :=
  (.seq (.region 0 #[o 2 (.assign (.const (.slice none 0 0))) 22] false)
 (.seq (.region 1 #[m 3 0 22, m 4 0 22, o 5 (.call { callee := .builtin .len, args := #[.tmp 4], argTypes := #[22] }) 3, m 6 0 22, o 7 (.call { callee := .builtin .len, args := #[.tmp 6], argTypes := #[22] }) 3, o 8 (.slice 22 (.tmp 3) none (some (.tmp 5)) (some (.tmp 7))) 22, o 2 (.assign (.tmp 8)) 22] false)
 .ret))
def fn97 : AFn := { ntmps := 9, results := [.tmp 2], body := c97, keep := fun | 0 => some [0] | 1 => some [2] | _ => none, head := fun  | _ => none, opn := fun _ => none, dyn := fun _ => [] }
def c98 : Code :=
  (.seq (.region 0 #[o 2 (.assign (.const (.slice none 0 0))) 22] false)
 (.seq (.seq (.region 1 #[m 3 0 22, o 4 (.binOp .eql 22 (.tmp 3) (.const (.slice none 0 0)) 22) 4] false)
 (.cond (.tmp 4)
 (.seq (.region 2 #[o 2 (.assign (.const (.slice none 0 0))) 22] false)
 .ret)
 .skip))
 (.seq (.region 3 #[o 5 (.buildSlice 22 0 #[]) 22, m 6 0 22, o 7 (.call { callee := .builtin .append, args := #[.tmp 5, .tmp 6], argTypes := #[22, 22] }) 22, o 2 (.assign (.tmp 7)) 22] false)
 .ret)))
def fn98 : AFn := { ntmps := 8, results := [.tmp 2], body := c98, keep := fun | 0 => some [0] | 1 => some [0, 4] | 2 => some [2] | 3 => some [2] | _ => none, head := fun  | _ => none, opn := fun _ => none, dyn := fun _ => [] }
def c99 : Code :=
  (.seq (.region 0 #[o 2 (.assign (.const (.slice none 0 0))) 28] false)
 (.seq (.region 1 #[m 3 0 28, m 4 0 28, o 5 (.call { callee := .builtin .len, args := #[.tmp 4], argTypes := #[28] }) 3, m 6 0 28, o 7 (.call { callee := .builtin .len, args := #[.tmp 6], argTypes := #[28] }) 3, o 8 (.slice 28 (.tmp 3) none (some (.tmp 5)) (some (.tmp 7))) 28, o 2 (.assign (.tmp 8)) 28] false)
 .ret))
def fn99 : AFn := { ntmps := 9, results := [.tmp 2], body := c99, keep := fun | 0 => some [0] | 1 => some [2] | _ => none, head := fun  | _ => none, opn := fun _ => none, dyn := fun _ => [] }
def c100 : Code :=
  (.seq (.region 0 #[o 2 (.box 30 (.tmp 0)) 0, o 3 (.box 145 (.tmp 1)) 0, o 4 (.assign (.const (.int .i64 0))) 34] false)
 (.seq (.region 1 #[o 5 (.alloc 145) 0] false)
 (.seq (.region 2 #[o 6 (.makeFunc (.func 113) #[] #[.tmp 3, .tmp 5]) 145, ⟨none, .store 145 (.tmp 5) (.tmp 6), 0, "", #[], none⟩] false)
 (.seq (.region 3 #[o 7 (.load 145 (.tmp 5)) 145, o 8 (.load 30 (.tmp 2)) 30, o 9 (.call { callee := .value (.tmp 7), args := #[.tmp 8, .const (.int .i64 1)], argTypes := #[30, 3] }) 34, o 4 (.assign (.tmp 9)) 34] false)
 .ret))))
def fn100 : AFn := { ntmps := 10, results := [.tmp 4], body := c100, keep := fun | 0 => some [2, 3] | 1 => some [2, 3, 5] | 2 => some [2, 5] | 3 => some [4] | _ => none, head := fun  | _ => none, opn := opnT, dyn := fun _ => [] }
def c101 : Code :=
  (.seq (.region 0 #[o 4 (.box 30 (.tmp 0)) 0, o 6 (.assign (.const (.int .i64 0))) 34] false)
 (.seq (.seq (.region 1 #[o 8 (.fieldAddr 30 (.tmp 4) 0) 0, o 9 (.load 27 (.tmp 8)) 27, o 10 (.call { callee := .value (.func 102), args := #[.tmp 9], argTypes := #[27] }) 34, o 7 (.assign (.tmp 10)) 34] false)
 (.seq (.region 2 #[m 11 7 34, o 12 (.binOp .neq 34 (.tmp 11) (.const (.int .i64 0)) 34) 4] false)
 (.cond (.tmp 12)
 (.seq (.region 3 #[m 13 7 34, o 6 (.assign (.tmp 13)) 34] false)
 .ret)
 .skip)))
 (.seq (.block 0 (.seq (.region 4 #[o 15 (.fieldAddr 30 (.tmp 4) 0) 0, o 16 (.fieldAddr 27 (.tmp 15) 1) 0, o 17 (.load 4 (.tmp 16)) 4, m 18 17 4, ⟨some 19, .fieldAddr 30 (.tmp 4) 1, 0, "", #[], some (18, true)⟩, ⟨some 20, .load 22 (.tmp 19), 22, "", #[], some (18, true)⟩, ⟨some 21, .call { callee := .builtin .len, args := #[.tmp 20], argTypes := #[22] }, 3, "", #[], some (18, true)⟩, ⟨some 22, .binOp .gtr 3 (.tmp 21) (.const (.int .i64 0)) 3, 4, "", #[], some (18, true)⟩, o 23 (.pick (.tmp 18) (.tmp 22) (.const (.bool false))) 4, m 24 23 4, ⟨some 25, .fieldAddr 30 (.tmp 4) 0, 0, "", #[], some (24, false)⟩, ⟨some 26, .fieldAddr 27 (.tmp 25) 1, 0, "", #[], some (24, false)⟩, ⟨some 27, .load 4 (.tmp 26), 4, "", #[], some (24, false)⟩, ⟨some 28, .unOp .not 4 (.tmp 27), 4, "", #[], some (24, false)⟩, ⟨some 29, .move (.tmp 28), 4, "", #[], some (24, false)⟩, ⟨some 30, .fieldAddr 30 (.tmp 4) 2, 0, "", #[], some (29, true)⟩, ⟨some 31, .load 28 (.tmp 30), 28, "", #[], some (29, true)⟩, ⟨some 32, .call { callee := .builtin .len, args := #[.tmp 31], argTypes := #[28] }, 3, "", #[], some (29, true)⟩, ⟨some 33, .binOp .gtr 3 (.tmp 32) (.const (.int .i64 0)) 3, 4, "", #[], some (29, true)⟩, ⟨some 34, .pick (.tmp 29) (.tmp 33) (.const (.bool false)), 4, "", #[], some (24, false)⟩, o 35 (.pick (.tmp 24) (.const (.bool true)) (.tmp 34)) 4, o 14 (.assign (.tmp 35)) 4] false)
 (.cond (.tmp 14)
 (.seq (.region 5 #[o 6 (.assign (.const (.int .i64 1))) 34] false)
 .ret)
 (.seq (.region 6 #[m 37 1 3, o 38 (.binOp .gtr 3 (.tmp 37) (.const (.int .i64 16)) 3) 4, o 36 (.assign (.tmp 38)) 4] false)
 (.cond (.tmp 36)
 (.seq (.region 7 #[o 6 (.assign (.const (.int .i64 12))) 34] false)
 .ret)
 (.seq (.region 8 #[o 40 (.load 3 (.tmp 2)) 3, o 41 (.binOp .eql 3 (.tmp 40) (.const (.int .i64 8192)) 3) 4, o 39 (.assign (.tmp 41)) 4] false)
 (.cond (.tmp 39)
 (.seq (.region 9 #[o 6 (.assign (.const (.int .i64 3))) 34] false)
 .ret)
 .skip)))))))
 (.seq (.region 10 #[o 42 (.load 3 (.tmp 2)) 3, o 43 (.binOp .add 3 (.tmp 42) (.const (.int .i64 1)) 3) 3, ⟨none, .store 3 (.tmp 2) (.tmp 43), 0, "", #[], none⟩] false)
 (.seq (.region 11 #[o 44 (.load 3 (.tmp 3)) 3, m 45 1 3, o 46 (.call { callee := .builtin .max, args := #[.tmp 44, .tmp 45], argTypes := #[3, 3] }) 3, ⟨none, .store 3 (.tmp 3) (.tmp 46), 0, "", #[], none⟩] false)
 (.seq (.region 12 #[o 6 (.assign (.const (.int .i64 0))) 34] false)
 .ret))))))
def fn101 : AFn := { ntmps := 47, results := [.tmp 6], body := c101, keep := fun | 0 => some [1, 2, 3, 4] | 1 => some [1, 2, 3, 4, 7] | 2 => some [1, 2, 3, 4, 7, 12] | 3 => some [6] | 4 => some [1, 2, 3, 14] | 5 => some [6] | 6 => some [1, 2, 3, 36] | 7 => some [6] | 8 => some [1, 2, 3, 39] | 9 => some [6] | 10 => some [1, 3] | 11 => some [] | 12 => some [6] | _ => none, head := fun  | _ => none, opn := fun _ => none, dyn := fun _ => [] }
def c102 : Code :=
  (.seq (.region 0 #[o 1 (.box 27 (.tmp 0)) 0, o 2 (.assign (.const (.int .i64 0))) 34] false)
 (.seq (.seq (.region 1 #[o 3 (.fieldAddr 27 (.tmp 1) 0) 0, o 4 (.load 24 (.tmp 3)) 24, o 5 (.binOp .gtr 24 (.tmp 4) (.const (.int .u8 3)) 24) 4, m 6 5 4, ⟨some 7, .fieldAddr 27 (.tmp 1) 2, 0, "", #[], some (6, false)⟩, ⟨some 8, .load 25 (.tmp 7), 25, "", #[], some (6, false)⟩, ⟨some 9, .binOp .gtr 25 (.tmp 8) (.const (.int .u32 268435455)) 25, 4, "", #[], some (6, false)⟩, o 10 (.pick (.tmp 6) (.const (.bool true)) (.tmp 9)) 4] false)
 (.cond (.tmp 10)
 (.seq (.region 2 #[o 2 (.assign (.const (.int .i64 1))) 34] false)
 .ret)
 .skip))
 (.seq (.seq (.region 3 #[o 11 (.fieldAddr 27 (.tmp 1) 0) 0, o 12 (.load 24 (.tmp 11)) 24, o 13 (.binOp .neq 24 (.tmp 12) (.const (.int .u8 0)) 24) 4] false)
 (.cond (.tmp 13)
 (.seq (.region 4 #[o 2 (.assign (.const (.int .i64 0))) 34] false)
 .ret)
 .skip))
 (.seq (.seq (.region 5 #[o 14 (.fieldAddr 27 (.tmp 1) 2) 0, o 15 (.load 25 (.tmp 14)) 25] false)
 (.block 0 (.seq (.region 6 #[o 17 (.binOp .eql 25 (.tmp 15) (.const (.int .u32 0)) 25) 4, o 16 (.assign (.tmp 17)) 4] false)
 (.cond (.tmp 16)
 (.seq (.region 7 #[o 2 (.assign (.const (.int .i64 9))) 34] false)
 .ret)
 (.seq (.seq (.region 8 #[o 19 (.binOp .eql 25 (.tmp 15) (.const (.int .u32 16)) 25) 4, o 18 (.assign (.tmp 19)) 4] false)
 (.cond (.tmp 18)
 .skip
 (.region 9 #[o 20 (.binOp .eql 25 (.tmp 15) (.const (.int .u32 17)) 25) 4, o 18 (.assign (.tmp 20)) 4] false)))
 (.cond (.tmp 18)
 (.seq (.region 10 #[o 21 (.fieldAddr 27 (.tmp 1) 1) 0, o 22 (.load 4 (.tmp 21)) 4, o 23 (.unOp .not 4 (.tmp 22)) 4] false)
 (.cond (.tmp 23)
 (.seq (.region 11 #[o 2 (.assign (.const (.int .i64 9))) 34] false)
 .ret)
 .skip))
 .skip))))))
 (.seq (.region 12 #[o 2 (.assign (.const (.int .i64 0))) 34] false)
 .ret)))))
def fn102 : AFn := { ntmps := 24, results := [.tmp 2], body := c102, keep := fun | 0 => some [1] | 1 => some [1, 10] | 2 => some [2] | 3 => some [1, 13] | 4 => some [2] | 5 => some [1, 15] | 6 => some [1, 15, 16] | 7 => some [2] | 8 => some [1, 15, 18] | 9 => some [1, 18] | 10 => some [23] | 11 => some [2] | 12 => some [2] | _ => none, head := fun  | _ => none, opn := fun _ => none, dyn := fun _ => [] }
def c103 : Code :=
  (.seq (.region 0 #[o 2 (.assign (.const (.slice none 0 0))) 22] false)
 (.seq (.region 1 #[m 4 0 3, o 5 (.binOp .rem 3 (.tmp 4) (.const (.int .i64 128)) 3) 3, o 6 (.convert 3 5 (.tmp 5)) 5, o 7 (.buildSlice 22 1 #[(0, .tmp 6)]) 22, o 3 (.assign (.tmp 7)) 22] false)
 (.seq (.seq (.region 2 #[m 8 0 3, o 9 (.binOp .quo 3 (.tmp 8) (.const (.int .i64 128)) 3) 3, o 0 (.assign (.tmp 9)) 3] false)
 (.block 0 (.loop (.seq (.seq (.region 3 #[m 10 0 3, o 11 (.binOp .gtr 3 (.tmp 10) (.const (.int .i64 0)) 3) 4] false)
 (.cond (.tmp 11)
 .skip
 (.exit 0)))
 (.seq (.block 1 (.region 5 #[m 14 0 3, o 15 (.binOp .rem 3 (.tmp 14) (.const (.int .i64 128)) 3) 3, o 16 (.binOp .add 3 (.const (.int .i64 128)) (.tmp 15) 3) 3, o 17 (.convert 3 5 (.tmp 16)) 5, o 18 (.buildSlice 22 1 #[(0, .tmp 17)]) 22, m 19 3 22, o 20 (.call { callee := .builtin .append, args := #[.tmp 18, .tmp 19], argTypes := #[22, 22] }) 22, o 3 (.assign (.tmp 20)) 22] false))
 (.region 4 #[m 12 0 3, o 13 (.binOp .quo 3 (.tmp 12) (.const (.int .i64 128)) 3) 3, o 0 (.assign (.tmp 13)) 3] false))))))
 (.seq (.region 6 #[m 21 3 22, o 2 (.assign (.tmp 21)) 22] false)
 .ret))))
def fn103 : AFn := { ntmps := 22, results := [.tmp 2], body := c103, keep := fun | 0 => some [0] | 1 => some [0, 3] | 2 => some [0, 3] | 3 => some [0, 3, 11] | 4 => some [0, 3] | 5 => some [0, 3] | 6 => some [2] | _ => none, head := fun | 3 => some [0, 3] | _ => none, opn := fun _ => none, dyn := fun _ => [] }
def c104 : Code :=
  (.seq (.region 0 #[o 4 (.assign (.const (.bool false))) 4] false)
 (.seq (.region 1 #[m 5 0 22, o 6 (.convert 22 9 (.tmp 5)) 9, m 7 1 22, o 8 (.convert 22 9 (.tmp 7)) 9, o 9 (.binOp .eql 9 (.tmp 6) (.tmp 8) 9) 4, o 4 (.assign (.tmp 9)) 4] false)
 .ret))
def fn104 : AFn := { ntmps := 10, results := [.tmp 4], body := c104, keep := fun | 0 => some [0, 1] | 1 => some [4] | _ => none, head := fun  | _ => none, opn := fun _ => none, dyn := fun _ => [] }
def c105 : Code :=
  (.seq (.region 0 #[o 6 (.assign (.const (.bool false))) 4] false)
 (.seq (.seq (.region 1 #[m 10 0 28, o 11 (.call { callee := .builtin .len, args := #[.tmp 10], argTypes := #[28] }) 3, m 12 1 28, o 13 (.call { callee := .builtin .len, args := #[.tmp 12], argTypes := #[28] }) 3, o 14 (.binOp .neq 3 (.tmp 11) (.tmp 13) 3) 4] false)
 (.cond (.tmp 14)
 (.seq (.region 2 #[o 6 (.assign (.const (.bool false))) 4] false)
 .ret)
 .skip))
 (.seq (.seq (.region 3 #[m 15 0 28, o 16 (.call { callee := .builtin .len, args := #[.tmp 15], argTypes := #[28] }) 3, o 17 (.move (.const (.int .i64 0))) 3] false)
 (.block 0 (.loop (.seq (.region 4 #[o 18 (.binOp .lss 3 (.tmp 17) (.tmp 16) 3) 0] false)
 (.seq (.cond (.tmp 18)
 .skip
 (.exit 0))
 (.seq (.block 1 (.seq (.region 5 #[m 19 17 3, o 20 (.indexAddr 28 (.tmp 15) (.tmp 17)) 0, o 21 (.load 30 (.tmp 20)) 30, o 8 (.alloc 30) 0, o 7 (.assign (.tmp 19)) 3, ⟨none, .store 30 (.tmp 8) (.tmp 21), 0, "", #[], none⟩] false)
 (.seq (.region 6 #[m 22 1 28, m 23 7 3, o 24 (.indexAddr 28 (.tmp 22) (.tmp 23)) 0, o 25 (.load 30 (.tmp 24)) 30, o 9 (.alloc 30) 0, ⟨none, .store 30 (.tmp 9) (.tmp 25), 0, "", #[], none⟩] false)
 (.seq (.region 7 #[m 26 2 45, o 27 (.load 30 (.tmp 8)) 30, o 28 (.load 30 (.tmp 9)) 30, o 29 (.call { callee := .value (.tmp 26), args := #[.tmp 27, .tmp 28], argTypes := #[30, 30] }) 4, o 30 (.unOp .not 4 (.tmp 29)) 4] false)
 (.cond (.tmp 30)
 (.seq (.region 8 #[o 6 (.assign (.const (.bool false))) 4] false)
 .ret)
 .skip)))))
 (.region 9 #[o 31 (.binOp .add 3 (.tmp 17) (.const (.int .i64 1)) 3) 3, m 17 31 3] false)))))))
 (.seq (.region 10 #[o 6 (.assign (.const (.bool true))) 4] false)
 .ret))))
def fn105 : AFn := { ntmps := 32, results := [.tmp 6], body := c105, keep := fun | 0 => some [0, 1, 2] | 1 => some [0, 1, 2, 14] | 2 => some [6] | 3 => some [1, 2, 15, 16, 17] | 4 => some [1, 2, 15, 16, 17, 18] | 5 => some [1, 2, 7, 8, 15, 16, 17] | 6 => some [1, 2, 8, 9, 15, 16, 17] | 7 => some [1, 2, 15, 16, 17, 30] | 8 => some [6] | 9 => some [1, 2, 15, 16, 17] | 10 => some [6] | _ => none, head := fun | 4 => some [1, 2, 15, 16, 17] | _ => none, opn := opnT, dyn := fun _ => [] }
def c110 : Code :=
  (.seq (.region 0 #[o 2 (.assign (.const (.int .i64 0))) 3] false)
 (.seq (.region 1 #[m 6 0 3, o 7 (.call { callee := .value (.func 94), args := #[.tmp 6], argTypes := #[3] }) 35, m 5 7 35, o 8 (.extract (.tmp 5) 0) 22, o 9 (.extract (.tmp 5) 1) 34, o 3 (.assign (.tmp 8)) 22, o 4 (.assign (.tmp 9)) 34] false)
 (.seq (.region 2 #[m 10 3 22, o 11 (.call { callee := .builtin .len, args := #[.tmp 10], argTypes := #[22] }) 3, o 2 (.assign (.tmp 11)) 3] false)
 .ret)))
def fn110 : AFn := { ntmps := 12, results := [.tmp 2], body := c110, keep := fun | 0 => some [0] | 1 => some [3] | 2 => some [2] | _ => none, head := fun  | _ => none, opn := fun _ => none, dyn := fun _ => [] }
def c111 : Code :=
  (.seq (.region 0 #[o 1 (.box 25 (.tmp 0)) 0, o 2 (.assign (.const .nilFunc)) 153] false)
 (.seq (.region 1 #[o 3 (.makeFunc (.func 114) #[] #[.tmp 1]) 152, o 2 (.assign (.tmp 3)) 153] false)
 .ret))
def fn111 : AFn := { ntmps := 4, results := [.tmp 2], body := c111, keep := fun | 0 => some [1] | 1 => some [2] | _ => none, head := fun  | _ => none, opn := fun _ => none, dyn := fun _ => [] }
def c112 : Code :=
  (.seq (.region 0 #[o 2 (.assign (.const (.int .u32 0))) 25, o 3 (.assign (.const (.int .i64 0))) 3, o 4 (.assign (.const (.int .i64 0))) 34] false)
 (.seq (.seq (.region 1 #[o 3 (.assign (.const (.int .i64 1))) 3] false)
 (.block 0 (.loop (.seq (.block 1 (.seq (.seq (.region 3 #[m 8 3 3, m 9 0 22, o 10 (.call { callee := .builtin .len, args := #[.tmp 9], argTypes := #[22] }) 3, o 11 (.binOp .eql 3 (.tmp 8) (.tmp 10) 3) 4] false)
 (.cond (.tmp 11)
 (.seq (.region 4 #[o 2 (.assign (.const (.int .u32 0))) 25, o 3 (.assign (.const (.int .i64 0))) 3, o 4 (.assign (.const (.int .i64 7))) 34] false)
 .ret)
 .skip))
 (.seq (.region 5 #[m 12 0 22, m 13 3 3, o 14 (.indexAddr 22 (.tmp 12) (.tmp 13)) 0, o 15 (.load 5 (.tmp 14)) 5, o 5 (.assign (.tmp 15)) 5] false)
 (.seq (.seq (.region 6 #[m 16 3 3, o 17 (.binOp .eql 3 (.tmp 16) (.const (.int .i64 1)) 3) 4, m 18 17 4, ⟨some 19, .move (.tmp 5), 5, "", #[], some (18, true)⟩, ⟨some 20, .binOp .eql 5 (.tmp 19) (.const (.int .u8 128)) 5, 4, "", #[], some (18, true)⟩, o 21 (.pick (.tmp 18) (.tmp 20) (.const (.bool false))) 4, m 22 21 4, ⟨some 23, .move (.tmp 3), 3, "", #[], some (22, false)⟩, ⟨some 24, .binOp .eql 3 (.tmp 23) (.const (.int .i64 4)) 3, 4, "", #[], some (22, false)⟩, ⟨some 25, .move (.tmp 24), 4, "", #[], some (22, false)⟩, ⟨some 26, .move (.tmp 5), 5, "", #[], some (25, true)⟩, ⟨some 27, .binOp .geq 5 (.tmp 26) (.const (.int .u8 128)) 5, 4, "", #[], some (25, true)⟩, ⟨some 28, .pick (.tmp 25) (.tmp 27) (.const (.bool false)), 4, "", #[], some (22, false)⟩, o 29 (.pick (.tmp 22) (.const (.bool true)) (.tmp 28)) 4] false)
 (.cond (.tmp 29)
 (.seq (.region 7 #[o 2 (.assign (.const (.int .u32 0))) 25, o 3 (.assign (.const (.int .i64 0))) 3, o 4 (.assign (.const (.int .i64 9))) 34] false)
 .ret)
 .skip))
 (.seq (.region 8 #[m 30 2 25, o 31 (.binOp .shl 25 (.tmp 30) (.const (.int .u64 7)) 151) 25, m 32 5 5, o 33 (.binOp .and 5 (.tmp 32) (.const (.int .u8 127)) 5) 5, o 34 (.convert 5 25 (.tmp 33)) 25, o 35 (.binOp .or 25 (.tmp 31) (.tmp 34) 25) 25, o 2 (.assign (.tmp 35)) 25] false)
 (.seq (.region 9 #[m 36 5 5, o 37 (.binOp .lss 5 (.tmp 36) (.const (.int .u8 128)) 5) 4] false)
 (.cond (.tmp 37)
 (.exit 0)
 .skip)))))))
 (.region 2 #[m 6 3 3, o 7 (.binOp .add 3 (.tmp 6) (.const (.int .i64 1)) 3) 3, o 3 (.assign (.tmp 7)) 3] false)))))
 (.seq (.seq (.region 10 #[m 38 2 25, o 39 (.binOp .lss 25 (.tmp 38) (.const (.int .u32 31)) 25) 4] false)
 (.cond (.tmp 39)
 (.seq (.region 11 #[o 2 (.assign (.const (.int .u32 0))) 25, o 3 (.assign (.const (.int .i64 0))) 3, o 4 (.assign (.const (.int .i64 9))) 34] false)
 .ret)
 .skip))
 (.seq (.region 12 #[m 40 2 25, m 41 3 3, o 42 (.binOp .add 3 (.tmp 41) (.const (.int .i64 1)) 3) 3, o 2 (.assign (.tmp 40)) 25, o 3 (.assign (.tmp 42)) 3, o 4 (.assign (.const (.int .i64 0))) 34] false)
 .ret))))
def fn112 : AFn := { ntmps := 43, results := [.tmp 2, .tmp 3, .tmp 4], body := c112, keep := fun | 0 => some [0, 2] | 1 => some [0, 2, 3] | 2 => some [0, 2, 3] | 3 => some [0, 2, 3, 11] | 4 => some [2, 3, 4] | 5 => some [0, 2, 3, 5] | 6 => some [0, 2, 3, 5, 29] | 7 => some [2, 3, 4] | 8 => some [0, 2, 3, 5] | 9 => some [0, 2, 3, 37] | 10 => some [2, 3, 39] | 11 => some [2, 3, 4] | 12 => some [2, 3, 4] | _ => none, head := fun | 3 => some [0, 2, 3] | _ => none, opn := fun _ => none, dyn := fun _ => [] }
def c113 : Code :=
  (.seq (.region 0 #[o 4 (.box 30 (.tmp 0)) 0, o 6 (.assign (.const (.int .i64 0))) 34] false)
 (.seq (.seq (.region 1 #[o 11 (.load 145 (.tmp 2)) 145, o 12 (.load 30 (.tmp 4)) 30, m 13 1 3, o 14 (.call { callee := .value (.tmp 11), args := #[.tmp 12, .tmp 13], argTypes := #[30, 3] }) 34, o 7 (.assign (.tmp 14)) 34] false)
 (.seq (.region 2 #[m 15 7 34, o 16 (.binOp .neq 34 (.tmp 15) (.const (.int .i64 0)) 34) 4] false)
 (.cond (.tmp 16)
 (.seq (.region 3 #[m 17 7 34, o 6 (.assign (.tmp 17)) 34] false)
 .ret)
 .skip)))
 (.seq (.seq (.region 4 #[o 18 (.fieldAddr 30 (.tmp 4) 2) 0, o 19 (.load 28 (.tmp 18)) 28, o 20 (.call { callee := .builtin .len, args := #[.tmp 19], argTypes := #[28] }) 3, o 21 (.move (.const (.int .i64 0))) 3] false)
 (.block 0 (.loop (.seq (.region 5 #[o 22 (.binOp .lss 3 (.tmp 21) (.tmp 20) 3) 0] false)
 (.seq (.cond (.tmp 22)
 .skip
 (.exit 0))
 (.seq (.block 1 (.seq (.region 6 #[o 23 (.indexAddr 28 (.tmp 19) (.tmp 21)) 0, o 24 (.load 30 (.tmp 23)) 30, o 9 (.alloc 30) 0, ⟨none, .store 30 (.tmp 9) (.tmp 24), 0, "", #[], none⟩] false)
 (.seq (.region 7 #[o 25 (.load 145 (.tmp 3)) 145, o 26 (.load 30 (.tmp 9)) 30, m 27 1 3, o 28 (.binOp .add 3 (.tmp 27) (.const (.int .i64 1)) 3) 3, o 29 (.call { callee := .value (.tmp 25), args := #[.tmp 26, .tmp 28], argTypes := #[30, 3] }) 34, o 10 (.assign (.tmp 29)) 34] false)
 (.seq (.region 8 #[m 30 10 34, o 31 (.binOp .neq 34 (.tmp 30) (.const (.int .i64 0)) 34) 4] false)
 (.cond (.tmp 31)
 (.seq (.region 9 #[m 32 10 34, o 6 (.assign (.tmp 32)) 34] false)
 .ret)
 .skip)))))
 (.region 10 #[o 33 (.binOp .add 3 (.tmp 21) (.const (.int .i64 1)) 3) 3, m 21 33 3] false)))))))
 (.seq (.region 11 #[o 6 (.assign (.const (.int .i64 0))) 34] false)
 .ret))))
def fn113 : AFn := { ntmps := 34, results := [.tmp 6], body := c113, keep := fun | 0 => some [1, 2, 3, 4] | 1 => some [1, 3, 4, 7] | 2 => some [1, 3, 4, 7, 16] | 3 => some [6] | 4 => some [1, 3, 19, 20, 21] | 5 => some [1, 3, 19, 20, 21, 22] | 6 => some [1, 3, 9, 19, 20, 21] | 7 => some [1, 3, 10, 19, 20, 21] | 8 => some [1, 3, 10, 19, 20, 21, 31] | 9 => some [6] | 10 => some [1, 3, 19, 20, 21] | 11 => some [6] | _ => none, head := fun | 5 => some [1, 3, 19, 20, 21] | _ => none, opn := opnT, dyn := fun _ => [] }
def c114 : Code :=
  (.seq (.region 0 #[o 3 (.assign (.const (.int .i64 0))) 3] false)
 (.seq (.block 0 (.loop (.seq (.seq (.region 1 #[o 5 (.load 25 (.tmp 1)) 25, m 6 3 3, o 7 (.binOp .add 3 (.tmp 6) (.const (.int .i64 7)) 3) 3, o 8 (.binOp .shr 25 (.tmp 5) (.tmp 7) 3) 25, o 9 (.binOp .gtr 25 (.tmp 8) (.const (.int .u32 0)) 25) 4] false)
 (.cond (.tmp 9)
 .skip
 (.exit 0)))
 (.block 1 (.region 2 #[m 10 3 3, o 11 (.binOp .add 3 (.tmp 10) (.const (.int .i64 7)) 3) 3, o 3 (.assign (.tmp 11)) 3] false)))))
 (.block 2 (.loop (.seq (.seq (.region 3 #[m 12 3 3, o 13 (.binOp .geq 3 (.tmp 12) (.const (.int .i64 0)) 3) 4] false)
 (.cond (.tmp 13)
 .skip
 (.exit 2)))
 (.seq (.block 3 (.seq (.region 5 #[o 16 (.load 25 (.tmp 1)) 25, m 17 3 3, o 18 (.binOp .shr 25 (.tmp 16) (.tmp 17) 3) 25, o 19 (.convert 25 5 (.tmp 18)) 5, o 20 (.binOp .and 5 (.tmp 19) (.const (.int .u8 127)) 5) 5, o 4 (.assign (.tmp 20)) 5] false)
 (.seq (.seq (.region 6 #[m 21 3 3, o 22 (.binOp .gtr 3 (.tmp 21) (.const (.int .i64 0)) 3) 4] false)
 (.cond (.tmp 22)
 (.region 7 #[m 23 4 5, o 24 (.binOp .or 5 (.tmp 23) (.const (.int .u8 128)) 5) 5, o 4 (.assign (.tmp 24)) 5] false)
 .skip))
 (.seq (.region 8 #[m 25 0 159, m 26 4 5, o 27 (.call { callee := .value (.tmp 25), args := #[.tmp 26], argTypes := #[5] }) 4, o 28 (.unOp .not 4 (.tmp 27)) 4] false)
 (.cond (.tmp 28)
 .ret
 .skip)))))
 (.region 4 #[m 14 3 3, o 15 (.binOp .sub 3 (.tmp 14) (.const (.int .i64 7)) 3) 3, o 3 (.assign (.tmp 15)) 3] false)))))))
def fn114 : AFn := { ntmps := 29, results := [], body := c114, keep := fun | 0 => some [0, 1, 3] | 1 => some [0, 1, 3, 9] | 2 => some [0, 1, 3] | 3 => some [0, 1, 3, 13] | 4 => some [0, 1, 3] | 5 => some [0, 1, 3, 4] | 6 => some [0, 1, 3, 4, 22] | 7 => some [0, 1, 3, 4] | 8 => some [0, 1, 3, 28] | _ => none, head := fun | 1 => some [0, 1, 3] | 3 => some [0, 1, 3] | _ => none, opn := opnT, dyn := fun _ => [] }
def fnTab : List (Option AFn) := [none, none, none, some fn3, some fn4, some fn5, none, none, none, some fn9, none, none, none, none, none, none, none, none, some fn18, some fn19, some fn20, some fn21, some fn22, some fn23, some fn24, some fn25, some fn26, some fn27, some fn28, some fn29, some fn30, none, some fn32, none, some fn34, some fn35, some fn36, some fn37, some fn38, some fn39, some fn40, some fn41, none, none, none, none, none, none, none, none, none, none, none, none, none, none, none, none, none, none, none, none, none, none, none, none, none, none, some fn68, some fn69, some fn70, some fn71, some fn72, some fn73, some fn74, some fn75, some fn76, some fn77, some fn78, some fn79, some fn80, none, none, none, none, none, none, none, some fn88, some fn89, some fn90, some fn91, some fn92, some fn93, some fn94, some fn95, some fn96, some fn97, some fn98, some fn99, some fn100, some fn101, some fn102, some fn103, some fn104, some fn105, none, none, none, none, some fn110, some fn111, some fn112, some fn113, some fn114]
def grdT : FuncId → Option Grd
  | 23 => some grd23
  | _ => none

def tyTab : List (Option TyI) := [
  none,
  some ⟨.func, 1, 8, [.nilf], false⟩,
  some ⟨.int .i64, 1, 8, [.int .i64 0], false⟩,
  some ⟨.int .i64, 1, 8, [.int .i64 0], false⟩,
  some ⟨.bool, 1, 1, [.bool false], false⟩,
  some ⟨.int .u8, 1, 1, [.int .u8 0], false⟩,
  some ⟨.int .u8, 1, 1, [.int .u8 0], false⟩,
  some ⟨.strct [(0, 2), (1, 3), (2, 4), (3, 6)], 4, 24, [.int .i64 0, .int .i64 0, .bool false, .int .u8 0], false⟩,
  some ⟨.strct [(0, 2), (1, 3), (2, 4), (3, 6)], 4, 24, [.int .i64 0, .int .i64 0, .bool false, .int .u8 0], false⟩,
  some ⟨.str, 1, 16, [.str []], false⟩,
  some ⟨.str, 1, 16, [.str []], false⟩,
  some ⟨.str, 1, 16, [.str []], false⟩,
  some ⟨.int .u64, 1, 8, [.int .u64 0], false⟩,
  some ⟨.strct [(0, 9), (1, 12)], 2, 24, [.str [], .int .u64 0], false⟩,
  some ⟨.strct [(0, 9), (1, 12)], 2, 24, [.str [], .int .u64 0], false⟩,
  some ⟨.ptr 162, 1, 8, [.nilp], false⟩,
  some ⟨.ptr 165, 1, 8, [.nilp], false⟩,
  some ⟨.ptr 174, 1, 8, [.nilp], false⟩,
  some ⟨.strct [(0, 17)], 1, 8, [.nilp], false⟩,
  some ⟨.strct [(0, 17)], 1, 8, [.nilp], false⟩,
  some ⟨.iface true, 1, 16, [.nili], false⟩,
  some ⟨.int .i32, 1, 4, [.int .i32 0], false⟩,
  some ⟨.slice 5, 1, 24, [.sl true [] (some 0)], false⟩,
  some ⟨.func, 1, 8, [.nilf], false⟩,
  some ⟨.int .u8, 1, 1, [.int .u8 0], false⟩,
  some ⟨.int .u32, 1, 4, [.int .u32 0], false⟩,
  some ⟨.strct [(0, 24), (1, 4), (2, 25)], 3, 8, [.int .u8 0, .bool false, .int .u32 0], false⟩,
  some ⟨.strct [(0, 24), (1, 4), (2, 25)], 3, 8, [.int .u8 0, .bool false, .int .u32 0], true⟩,
  some ⟨.slice 30, 1, 24, [.sl true [] (some 0)], false⟩,
  some ⟨.strct [(0, 27), (3, 22), (4, 28)], 5, 56, [.int .u8 0, .bool false, .int .u32 0, .sl true [] (some 0), .sl true [] (some 0)], false⟩,
  some ⟨.strct [(0, 27), (3, 22), (4, 28)], 5, 56, [.int .u8 0, .bool false, .int .u32 0, .sl true [] (some 0), .sl true [] (some 0)], false⟩,
  none,
  some ⟨.func, 1, 8, [.nilf], false⟩,
  some ⟨.func, 1, 8, [.nilf], false⟩,
  some ⟨.int .i64, 1, 8, [.int .i64 0], false⟩,
  none,
  some ⟨.func, 1, 8, [.nilf], false⟩,
  some ⟨.func, 1, 8, [.nilf], false⟩,
  some ⟨.slice 107, 1, 24, [.sl true [] (some 0)], false⟩,
  some ⟨.strct [(0, 38)], 1, 24, [.sl true [] (some 0)], false⟩,
  some ⟨.strct [(0, 38)], 1, 24, [.sl true [] (some 0)], false⟩,
  some ⟨.int .u16, 1, 2, [.int .u16 0], false⟩,
  some ⟨.func, 1, 8, [.nilf], false⟩,
  none,
  some ⟨.func, 1, 8, [.nilf], false⟩,
  some ⟨.func, 1, 8, [.nilf], false⟩,
  some ⟨.func, 1, 8, [.nilf], false⟩,
  some ⟨.slice 3, 1, 24, [.sl true [] (some 0)], false⟩,
  none,
  some ⟨.func, 1, 8, [.nilf], false⟩,
  some ⟨.func, 1, 8, [.nilf], false⟩,
  some ⟨.func, 1, 8, [.nilf], false⟩,
  some ⟨.func, 1, 8, [.nilf], false⟩,
  some ⟨.func, 1, 8, [.nilf], false⟩,
  some ⟨.func, 1, 8, [.nilf], false⟩,
  some ⟨.func, 1, 8, [.nilf], false⟩,
  none,
  some ⟨.func, 1, 8, [.nilf], false⟩,
  some ⟨.func, 1, 8, [.nilf], false⟩,
  some ⟨.func, 1, 8, [.nilf], false⟩,
  some ⟨.func, 1, 8, [.nilf], false⟩,
  some ⟨.func, 1, 8, [.nilf], false⟩,
  none,
  some ⟨.func, 1, 8, [.nilf], false⟩,
  some ⟨.strct [(0, 22)], 1, 24, [.sl true [] (some 0)], false⟩,
  some ⟨.strct [(0, 22)], 1, 24, [.sl true [] (some 0)], false⟩,
  some ⟨.slice 125, 1, 24, [.sl true [] (some 0)], false⟩,
  some ⟨.slice 78, 1, 24, [.sl true [] (some 0)], false⟩,
  some ⟨.func, 1, 8, [.nilf], false⟩,
  some ⟨.func, 1, 8, [.nilf], false⟩,
  some ⟨.strct [(0, 47), (1, 34)], 2, 32, [.sl true [] (some 0), .int .i64 0], false⟩,
  some ⟨.strct [(0, 47), (1, 34)], 2, 32, [.sl true [] (some 0), .int .i64 0], false⟩,
  none,
  some ⟨.func, 1, 8, [.nilf], false⟩,
  some ⟨.func, 1, 8, [.nilf], false⟩,
  some ⟨.func, 1, 8, [.nilf], false⟩,
  some ⟨.func, 1, 8, [.nilf], false⟩,
  some ⟨.strct [(0, 27), (3, 4), (4, 4)], 5, 12, [.int .u8 0, .bool false, .int .u32 0, .bool false, .bool false], false⟩,
  some ⟨.strct [(0, 27), (3, 4), (4, 4)], 5, 12, [.int .u8 0, .bool false, .int .u32 0, .bool false, .bool false], false⟩,
  some ⟨.func, 1, 8, [.nilf], false⟩,
  some ⟨.func, 1, 8, [.nilf], false⟩,
  some ⟨.func, 1, 8, [.nilf], false⟩,
  some ⟨.arr 2 3, 2, 16, [.int .i64 0, .int .i64 0], false⟩,
  some ⟨.func, 1, 8, [.nilf], false⟩,
  none,
  some ⟨.func, 1, 8, [.nilf], false⟩,
  some ⟨.func, 1, 8, [.nilf], false⟩,
  some ⟨.func, 1, 8, [.nilf], false⟩,
  some ⟨.func, 1, 8, [.nilf], false⟩,
  some ⟨.func, 1, 8, [.nilf], false⟩,
  some ⟨.func, 1, 8, [.nilf], false⟩,
  none,
  some ⟨.func, 1, 8, [.nilf], false⟩,
  some ⟨.func, 1, 8, [.nilf], false⟩,
  some ⟨.func, 1, 8, [.nilf], false⟩,
  some ⟨.func, 1, 8, [.nilf], false⟩,
  some ⟨.func, 1, 8, [.nilf], false⟩,
  some ⟨.ptr 3, 1, 8, [.nilp], false⟩,
  some ⟨.func, 1, 8, [.nilf], false⟩,
  some ⟨.func, 1, 8, [.nilf], false⟩,
  some ⟨.func, 1, 8, [.nilf], false⟩,
  none,
  some ⟨.func, 1, 8, [.nilf], false⟩,
  some ⟨.func, 1, 8, [.nilf], false⟩,
  some ⟨.strct [(0, 5), (1, 5), (2, 25)], 3, 8, [.int .u8 0, .int .u8 0, .int .u32 0], false⟩,
  some ⟨.strct [(0, 5), (1, 5), (2, 25)], 3, 8, [.int .u8 0, .int .u8 0, .int .u32 0], false⟩,
  some ⟨.strct [(0, 5), (1, 5), (2, 105), (5, 22)], 6, 40, [.int .u8 0, .int .u8 0, .int .u8 0, .int .u8 0, .int .u32 0, .sl true [] (some 0)], false⟩,
  some ⟨.strct [(0, 5), (1, 5), (2, 105), (5, 22)], 6, 40, [.int .u8 0, .int .u8 0, .int .u8 0, .int .u8 0, .int .u32 0, .sl true [] (some 0)], false⟩,
  some ⟨.func, 1, 8, [.nilf], false⟩,
  some ⟨.strct [(0, 3), (1, 34)], 2, 16, [.int .i64 0, .int .i64 0], false⟩,
  some ⟨.strct [(0, 3), (1, 34)], 2, 16, [.int .i64 0, .int .i64 0], false⟩,
  none,
  some ⟨.strct [(0, 22), (1, 3)], 2, 32, [.sl true [] (some 0), .int .i64 0], false⟩,
  some ⟨.strct [(0, 22), (1, 3)], 2, 32, [.sl true [] (some 0), .int .i64 0], false⟩,
  none,
  some ⟨.func, 1, 8, [.nilf], false⟩,
  none,
  some ⟨.func, 1, 8, [.nilf], false⟩,
  some ⟨.func, 1, 8, [.nilf], false⟩,
  some ⟨.func, 1, 8, [.nilf], false⟩,
  some ⟨.func, 1, 8, [.nilf], false⟩,
  some ⟨.func, 1, 8, [.nilf], false⟩,
  none,
  some ⟨.func, 1, 8, [.nilf], false⟩,
  some ⟨.strct [(0, 5), (1, 5)], 2, 2, [.int .u8 0, .int .u8 0], false⟩,
  some ⟨.strct [(0, 5), (1, 5)], 2, 2, [.int .u8 0, .int .u8 0], false⟩,
  some ⟨.func, 1, 8, [.nilf], false⟩,
  some ⟨.func, 1, 8, [.nilf], false⟩,
  some ⟨.func, 1, 8, [.nilf], false⟩,
  none,
  some ⟨.func, 1, 8, [.nilf], false⟩,
  none,
  some ⟨.func, 1, 8, [.nilf], false⟩,
  some ⟨.func, 1, 8, [.nilf], false⟩,
  some ⟨.func, 1, 8, [.nilf], false⟩,
  some ⟨.func, 1, 8, [.nilf], false⟩,
  some ⟨.ptr 113, 1, 8, [.nilp], false⟩,
  none,
  some ⟨.func, 1, 8, [.nilf], false⟩,
  none,
  some ⟨.func, 1, 8, [.nilf], false⟩,
  some ⟨.func, 1, 8, [.nilf], false⟩,
  some ⟨.func, 1, 8, [.nilf], false⟩,
  some ⟨.func, 1, 8, [.nilf], false⟩,
  some ⟨.func, 1, 8, [.nilf], false⟩,
  some ⟨.func, 1, 8, [.nilf], false⟩,
  some ⟨.func, 1, 8, [.nilf], false⟩,
  some ⟨.func, 1, 8, [.nilf], false⟩,
  some ⟨.func, 1, 8, [.nilf], false⟩,
  some ⟨.func, 1, 8, [.nilf], false⟩,
  some ⟨.func, 1, 8, [.nilf], false⟩,
  some ⟨.int .u64, 1, 8, [.int .u64 0], false⟩,
  some ⟨.func, 1, 8, [.nilf], false⟩,
  some ⟨.func, 1, 8, [.nilf], false⟩,
  some ⟨.func, 1, 8, [.nilf], false⟩,
  none,
  some ⟨.func, 1, 8, [.nilf], false⟩,
  some ⟨.arr 3 5, 3, 3, [.int .u8 0, .int .u8 0, .int .u8 0], false⟩,
  some ⟨.arr 3 5, 3, 3, [.int .u8 0, .int .u8 0, .int .u8 0], false⟩,
  some ⟨.func, 1, 8, [.nilf], false⟩,
  some ⟨.func, 1, 8, [.nilf], false⟩,
  some ⟨.strct [(0, 17), (1, 17), (2, 17), (3, 9)], 4, 40, [.nilp, .nilp, .nilp, .str []], false⟩,
  some ⟨.strct [(0, 17), (1, 17), (2, 17), (3, 9)], 4, 40, [.nilp, .nilp, .nilp, .str []], false⟩,
  some ⟨.arr 0 16, 0, 0, [], false⟩,
  some ⟨.strct [(0, 163)], 0, 0, [], false⟩,
  some ⟨.strct [(0, 163)], 0, 0, [], false⟩,
  some ⟨.func, 1, 8, [.nilf], false⟩,
  some ⟨.int .u8, 1, 1, [.int .u8 0], false⟩,
  some ⟨.int .u8, 1, 1, [.int .u8 0], false⟩,
  some ⟨.func, 1, 8, [.nilf], false⟩,
  some ⟨.ptr 5, 1, 8, [.nilp], false⟩,
  some ⟨.int .i32, 1, 4, [.int .i32 0], false⟩,
  some ⟨.int .i32, 1, 4, [.int .i32 0], false⟩,
  some ⟨.strct [(0, 12), (1, 12), (2, 25), (3, 167), (4, 5), (5, 5), (6, 168), (7, 169), (8, 170), (9, 171), (10, 172)], 11, 48, [.int .u64 0, .int .u64 0, .int .u32 0, .int .u8 0, .int .u8 0, .int .u8 0, .int .u8 0, .nilf, .nilp, .int .i32 0, .int .i32 0], false⟩,
  some ⟨.strct [(0, 12), (1, 12), (2, 25), (3, 167), (4, 5), (5, 5), (6, 168), (7, 169), (8, 170), (9, 171), (10, 172)], 11, 48, [.int .u64 0, .int .u64 0, .int .u32 0, .int .u8 0, .int .u8 0, .int .u8 0, .int .u8 0, .nilf, .nilp, .int .i32 0, .int .i32 0], false⟩,
  none]
def E : Env := { fn := getT fnTab, ty := getT tyTab, prim := primT, grd := grdT, ext := fun i => i == 106, glob := fun _ => none }
@[simp] theorem E_ext (i) : E.ext i = (i == 106) := id rfl
def E0 : Env := { E with prim := fun _ => none }
@[simp] theorem E_prim (i) : E.prim i = primT i := rfl
@[simp] theorem E_glob (i) : E.glob i = none := rfl
@[simp] theorem ntmps_3 : fn3.ntmps = 44 := rfl
@[simp] theorem results_3 : fn3.results = [.tmp 2] := rfl
theorem body_3 : fn3.body = c3 := rfl
@[simp] theorem dyn_3 : fn3.dyn = fun _ => [] := id rfl
@[simp] theorem opn_3 : fn3.opn = fun _ => none := id rfl
@[simp] theorem keep_3_0 : fn3.keep 0 = some [0] := rfl
@[simp] theorem keep_3_1 : fn3.keep 1 = some [0, 10] := rfl
@[simp] theorem keep_3_2 : fn3.keep 2 = some [2] := rfl
@[simp] theorem keep_3_3 : fn3.keep 3 = some [0, 3, 4, 5] := rfl
@[simp] theorem keep_3_4 : fn3.keep 4 = some [0, 3, 5, 23] := rfl
@[simp] theorem keep_3_5 : fn3.keep 5 = some [2] := rfl
@[simp] theorem keep_3_6 : fn3.keep 6 = some [0, 3, 25] := rfl
@[simp] theorem keep_3_7 : fn3.keep 7 = some [2] := rfl
@[simp] theorem keep_3_8 : fn3.keep 8 = some [0, 6, 7] := rfl
@[simp] theorem keep_3_9 : fn3.keep 9 = some [2] := rfl
@[simp] theorem ntmps_4 : fn4.ntmps = 66 := rfl
@[simp] theorem results_4 : fn4.results = [.tmp 4] := rfl
theorem body_4 : fn4.body = c4 := rfl
@[simp] theorem dyn_4 : fn4.dyn = fun _ => [] := id rfl
@[simp] theorem opn_4 : fn4.opn = fun _ => none := id rfl
@[simp] theorem keep_4_0 : fn4.keep 0 = some [1, 2] := rfl
@[simp] theorem keep_4_1 : fn4.keep 1 = some [1, 5, 6] := rfl
@[simp] theorem keep_4_2 : fn4.keep 2 = some [1, 5, 24] := rfl
@[simp] theorem keep_4_3 : fn4.keep 3 = some [4] := rfl
@[simp] theorem keep_4_4 : fn4.keep 4 = some [5, 7] := rfl
@[simp] theorem keep_4_5 : fn4.keep 5 = some [5, 7, 8, 9, 10, 11] := rfl
@[simp] theorem keep_4_6 : fn4.keep 6 = some [4] := rfl
@[simp] theorem ntmps_5 : fn5.ntmps = 147 := rfl
@[simp] theorem results_5 : fn5.results = [.tmp 4] := rfl
theorem body_5 : fn5.body = c5 := rfl
@[simp] theorem dyn_5 : fn5.dyn = fun _ => [] := id rfl
@[simp] theorem opn_5 : fn5.opn = fun _ => none := id rfl
@[simp] theorem keep_5_0 : fn5.keep 0 = some [1, 2] := rfl
@[simp] theorem keep_5_1 : fn5.keep 1 = some [1, 2, 17] := rfl
@[simp] theorem keep_5_2 : fn5.keep 2 = some [4] := rfl
@[simp] theorem keep_5_3 : fn5.keep 3 = some [1, 5] := rfl
@[simp] theorem keep_5_4 : fn5.keep 4 = some [1, 5, 6, 7] := rfl
@[simp] theorem keep_5_5 : fn5.keep 5 = some [1, 6, 7, 8] := rfl
@[simp] theorem keep_5_6 : fn5.keep 6 = some [1, 6, 7, 8, 9] := rfl
@[simp] theorem keep_5_7 : fn5.keep 7 = some [1, 6, 7, 8, 9, 31] := rfl
@[simp] theorem keep_5_8 : fn5.keep 8 = some [1, 6, 7, 8, 9] := rfl
@[simp] theorem keep_5_9 : fn5.keep 9 = some [1, 6, 7, 8, 9, 48] := rfl
@[simp] theorem keep_5_10 : fn5.keep 10 = some [4] := rfl
@[simp] theorem keep_5_11 : fn5.keep 11 = some [1, 6, 7, 8, 9] := rfl
@[simp] theorem keep_5_12 : fn5.keep 12 = some [8, 84] := rfl
@[simp] theorem keep_5_13 : fn5.keep 13 = some [4] := rfl
@[simp] theorem keep_5_14 : fn5.keep 14 = some [8, 10, 11, 12] := rfl
@[simp] theorem keep_5_15 : fn5.keep 15 = some [8, 10, 11, 12, 13] := rfl
@[simp] theorem keep_5_16 : fn5.keep 16 = some [8, 10, 11, 12, 13, 92] := rfl
@[simp] theorem keep_5_17 : fn5.keep 17 = some [8, 10, 11, 12, 13] := rfl
@[simp] theorem keep_5_18 : fn5.keep 18 = some [8, 10, 11, 12, 13] := rfl
@[simp] theorem keep_5_19 : fn5.keep 19 = some [8, 10, 11, 12, 13] := rfl
@[simp] theorem keep_5_20 : fn5.keep 20 = some [8, 10, 11, 12, 13] := rfl
@[simp] theorem keep_5_21 : fn5.keep 21 = some [8, 10, 11, 12, 14] := rfl
@[simp] theorem keep_5_22 : fn5.keep 22 = some [4] := rfl
@[simp] theorem head_5_7 : fn5.head 7 = some [1, 6, 7, 8, 9] := rfl
@[simp] theorem head_5_16 : fn5.head 16 = some [8, 10, 11, 12, 13] := rfl
@[simp] theorem ntmps_9 : fn9.ntmps = 123 := rfl
@[simp] theorem results_9 : fn9.results = [.tmp 2] := rfl
theorem body_9 : fn9.body = c9 := rfl
@[simp] theorem dyn_9 : fn9.dyn = fun _ => [] := id rfl
@[simp] theorem opn_9 : fn9.opn = fun _ => none := id rfl
@[simp] theorem keep_9_0 : fn9.keep 0 = some [1] := rfl
@[simp] theorem keep_9_1 : fn9.keep 1 = some [1, 12] := rfl
@[simp] theorem keep_9_2 : fn9.keep 2 = some [2] := rfl
@[simp] theorem keep_9_3 : fn9.keep 3 = some [1, 3, 4] := rfl
@[simp] theorem keep_9_4 : fn9.keep 4 = some [1, 3, 4, 5, 6] := rfl
@[simp] theorem keep_9_5 : fn9.keep 5 = some [1, 3, 5, 46] := rfl
@[simp] theorem keep_9_6 : fn9.keep 6 = some [2] := rfl
@[simp] theorem keep_9_7 : fn9.keep 7 = some [1, 3, 5, 48] := rfl
@[simp] theorem keep_9_8 : fn9.keep 8 = some [1, 5, 7] := rfl
@[simp] theorem keep_9_9 : fn9.keep 9 = some [2] := rfl
@[simp] theorem keep_9_10 : fn9.keep 10 = some [1, 3, 5, 8, 9] := rfl
@[simp] theorem keep_9_11 : fn9.keep 11 = some [2] := rfl
@[simp] theorem ntmps_18 : fn18.ntmps = 122 := rfl
@[simp] theorem results_18 : fn18.results = [.tmp 0] := rfl
theorem body_18 : fn18.body = c18 := rfl
@[simp] theorem dyn_18 : fn18.dyn = fun _ => [] := id rfl
@[simp] theorem opn_18 : fn18.opn = fun _ => none := id rfl
@[simp] theorem keep_18_0 : fn18.keep 0 = some [] := rfl
@[simp] theorem keep_18_1 : fn18.keep 1 = some [1] := rfl
@[simp] theorem keep_18_2 : fn18.keep 2 = some [1, 2] := rfl
@[simp] theorem keep_18_3 : fn18.keep 3 = some [1, 2, 3] := rfl
@[simp] theorem keep_18_4 : fn18.keep 4 = some [1, 2, 3, 31] := rfl
@[simp] theorem keep_18_5 : fn18.keep 5 = some [0] := rfl
@[simp] theorem keep_18_6 : fn18.keep 6 = some [1, 2, 3, 4, 5] := rfl
@[simp] theorem keep_18_7 : fn18.keep 7 = some [1, 2, 3, 4, 5, 7] := rfl
@[simp] theorem keep_18_8 : fn18.keep 8 = some [1, 2, 3, 4, 5, 7, 9, 11] := rfl
@[simp] theorem keep_18_9 : fn18.keep 9 = some [1, 2, 3, 76] := rfl
@[simp] theorem keep_18_10 : fn18.keep 10 = some [0] := rfl
@[simp] theorem keep_18_11 : fn18.keep 11 = some [1, 3, 109] := rfl
@[simp] theorem keep_18_12 : fn18.keep 12 = some [0] := rfl
@[simp] theorem keep_18_13 : fn18.keep 13 = some [0] := rfl
@[simp] theorem ntmps_19 : fn19.ntmps = 34 := rfl
@[simp] theorem results_19 : fn19.results = [.cell 2 30, .tmp 3, .tmp 4] := rfl
theorem body_19 : fn19.body = c19 := rfl
@[simp] theorem dyn_19 : fn19.dyn = fun _ => [] := id rfl
@[simp] theorem opn_19 : fn19.opn = fun _ => none := id rfl
@[simp] theorem keep_19_0 : fn19.keep 0 = some [0, 2] := rfl
@[simp] theorem keep_19_1 : fn19.keep 1 = some [0, 2, 11] := rfl
@[simp] theorem keep_19_2 : fn19.keep 2 = some [2, 3, 4] := rfl
@[simp] theorem keep_19_3 : fn19.keep 3 = some [0, 2, 5, 6, 8] := rfl
@[simp] theorem keep_19_4 : fn19.keep 4 = some [0, 2, 5, 6, 8, 23] := rfl
@[simp] theorem keep_19_5 : fn19.keep 5 = some [2, 3, 4] := rfl
@[simp] theorem keep_19_6 : fn19.keep 6 = some [2, 5, 6, 30] := rfl
@[simp] theorem keep_19_7 : fn19.keep 7 = some [2, 3, 4] := rfl
@[simp] theorem keep_19_8 : fn19.keep 8 = some [2, 3, 4] := rfl
@[simp] theorem ntmps_20 : fn20.ntmps = 40 := rfl
@[simp] theorem results_20 : fn20.results = [.tmp 8] := rfl
theorem body_20 : fn20.body = c20 := rfl
@[simp] theorem dyn_20 : fn20.dyn = fun _ => [] := id rfl
@[simp] theorem opn_20 : fn20.opn = fun _ => none := id rfl
@[simp] theorem keep_20_0 : fn20.keep 0 = some [0, 2, 3, 5] := rfl
@[simp] theorem keep_20_1 : fn20.keep 1 = some [2, 3, 5, 9, 10, 11] := rfl
@[simp] theorem keep_20_2 : fn20.keep 2 = some [8] := rfl
@[simp] theorem ntmps_21 : fn21.ntmps = 19 := rfl
@[simp] theorem results_21 : fn21.results = [.tmp 2, .tmp 3] := rfl
theorem body_21 : fn21.body = c21 := rfl
@[simp] theorem dyn_21_7 : fn21.dyn 7 = [(3, 3)] := id rfl

@[simp] theorem opn_21 : fn21.opn = opnT := id rfl
@[simp] theorem keep_21_0 : fn21.keep 0 = some [1] := rfl
@[simp] theorem keep_21_1 : fn21.keep 1 = some [1, 4] := rfl
@[simp] theorem keep_21_2 : fn21.keep 2 = some [1, 4, 9] := rfl
@[simp] theorem keep_21_3 : fn21.keep 3 = some [2, 3] := rfl
@[simp] theorem keep_21_4 : fn21.keep 4 = some [1, 5] := rfl
@[simp] theorem keep_21_5 : fn21.keep 5 = some [1, 5, 14] := rfl
@[simp] theorem keep_21_6 : fn21.keep 6 = some [2, 3] := rfl
@[simp] theorem keep_21_7 : fn21.keep 7 = some [2, 3] := rfl
@[simp] theorem ntmps_22 : fn22.ntmps = 102 := rfl
@[simp] theorem results_22 : fn22.results = [.cell 2 30] := rfl
theorem body_22 : fn22.body = c22 := rfl
@[simp] theorem dyn_22_9 : fn22.dyn 9 = [] := id rfl
@[simp] theorem dyn_22_16 : fn22.dyn 16 = [] := id rfl
@[simp] theorem dyn_22_18 : fn22.dyn 18 = [(7, 8)] := id rfl

@[simp] theorem opn_22 : fn22.opn = fun _ => none := id rfl
@[simp] theorem keep_22_0 : fn22.keep 0 = some [1, 2] := rfl
@[simp] theorem keep_22_1 : fn22.keep 1 = some [1, 2, 3] := rfl
@[simp] theorem keep_22_2 : fn22.keep 2 = some [1, 2, 3, 4] := rfl
@[simp] theorem keep_22_3 : fn22.keep 3 = some [1, 2, 3, 4, 17] := rfl
@[simp] theorem keep_22_4 : fn22.keep 4 = some [1, 2, 3, 4] := rfl
@[simp] theorem keep_22_5 : fn22.keep 5 = some [1, 2, 3, 4, 5] := rfl
@[simp] theorem keep_22_6 : fn22.keep 6 = some [1, 2, 3, 4, 5, 28] := rfl
@[simp] theorem keep_22_7 : fn22.keep 7 = some [1, 2, 3, 4, 5] := rfl
@[simp] theorem keep_22_8 : fn22.keep 8 = some [1, 2, 3, 4, 5, 6] := rfl
@[simp] theorem keep_22_9 : fn22.keep 9 = some [1, 2, 3, 4, 6] := rfl
@[simp] theorem keep_22_10 : fn22.keep 10 = some [1, 2, 3, 4] := rfl
@[simp] theorem keep_22_11 : fn22.keep 11 = some [1, 2, 3, 4, 5] := rfl
@[simp] theorem keep_22_12 : fn22.keep 12 = some [1, 2, 3, 4, 5, 7] := rfl
@[simp] theorem keep_22_13 : fn22.keep 13 = some [1, 2, 3, 4, 5, 7, 62] := rfl
@[simp] theorem keep_22_14 : fn22.keep 14 = some [1, 2, 3, 4, 5, 7] := rfl
@[simp] theorem keep_22_15 : fn22.keep 15 = some [1, 2, 3, 4, 7, 8] := rfl
@[simp] theorem keep_22_16 : fn22.keep 16 = some [1, 2, 3, 4, 7, 8] := rfl
@[simp] theorem keep_22_17 : fn22.keep 17 = some [1, 2, 3, 4, 7, 8, 81] := rfl
@[simp] theorem keep_22_18 : fn22.keep 18 = some [1, 2, 3, 4] := rfl
@[simp] theorem keep_22_19 : fn22.keep 19 = some [2, 3, 95] := rfl
@[simp] theorem keep_22_20 : fn22.keep 20 = some [2] := rfl
@[simp] theorem keep_22_21 : fn22.keep 21 = some [2] := rfl
@[simp] theorem head_22_3 : fn22.head 3 = some [1, 2, 3, 4] := rfl
@[simp] theorem ntmps_23 : fn23.ntmps = 22 := rfl
@[simp] theorem results_23 : fn23.results = [.cell 2 30, .cell 3 3, .cell 4 3, .cell 5 34] := rfl
@[simp] theorem dyn_23_6 : fn23.dyn 6 = [(1, 2)] := id rfl

@[simp] theorem opn_23 : fn23.opn = opnT := id rfl
@[simp] theorem keep_23_0 : fn23.keep 0 = some [0, 2, 3, 4, 5] := rfl
@[simp] theorem keep_23_1 : fn23.keep 1 = some [0, 2, 3, 4, 5, 9] := rfl
@[simp] theorem keep_23_2 : fn23.keep 2 = some [2, 3, 4, 5] := rfl
@[simp] theorem keep_23_3 : fn23.keep 3 = some [0, 2, 3, 4, 5] := rfl
@[simp] theorem keep_23_4 : fn23.keep 4 = some [0, 2, 3, 4, 5, 6] := rfl
@[simp] theorem keep_23_5 : fn23.keep 5 = some [2, 3, 4, 5] := rfl
@[simp] theorem keep_23_6 : fn23.keep 6 = some [2, 3, 4, 5] := rfl
@[simp] theorem ntmps_24 : fn24.ntmps = 48 := rfl
@[simp] theorem results_24 : fn24.results = [.tmp 4] := rfl
theorem body_24 : fn24.body = c24 := rfl
@[simp] theorem dyn_24 : fn24.dyn = fun _ => [] := id rfl
@[simp] theorem opn_24 : fn24.opn = fun _ => none := id rfl
@[simp] theorem keep_24_0 : fn24.keep 0 = some [2, 3] := rfl
@[simp] theorem keep_24_1 : fn24.keep 1 = some [2, 3, 28] := rfl
@[simp] theorem keep_24_2 : fn24.keep 2 = some [4] := rfl
@[simp] theorem keep_24_3 : fn24.keep 3 = some [2, 3, 5] := rfl
@[simp] theorem keep_24_4 : fn24.keep 4 = some [2, 3, 5, 33] := rfl
@[simp] theorem keep_24_5 : fn24.keep 5 = some [2, 3, 5] := rfl
@[simp] theorem keep_24_6 : fn24.keep 6 = some [2, 3, 5, 47] := rfl
@[simp] theorem keep_24_7 : fn24.keep 7 = some [4] := rfl
@[simp] theorem keep_24_8 : fn24.keep 8 = some [4] := rfl
@[simp] theorem head_24_4 : fn24.head 4 = some [2, 3, 5] := rfl
@[simp] theorem ntmps_25 : fn25.ntmps = 39 := rfl
@[simp] theorem results_25 : fn25.results = [.cell 4 30, .tmp 5] := rfl
theorem body_25 : fn25.body = c25 := rfl
@[simp] theorem dyn_25 : fn25.dyn = fun _ => [] := id rfl
@[simp] theorem opn_25 : fn25.opn = fun _ => none := id rfl
@[simp] theorem keep_25_0 : fn25.keep 0 = some [1, 2, 4] := rfl
@[simp] theorem keep_25_1 : fn25.keep 1 = some [1, 2, 4, 6] := rfl
@[simp] theorem keep_25_2 : fn25.keep 2 = some [1, 2, 4, 6, 12] := rfl
@[simp] theorem keep_25_3 : fn25.keep 3 = some [4, 5] := rfl
@[simp] theorem keep_25_4 : fn25.keep 4 = some [2, 4, 15, 16, 17] := rfl
@[simp] theorem keep_25_5 : fn25.keep 5 = some [2, 4, 15, 16, 17, 18] := rfl
@[simp] theorem keep_25_6 : fn25.keep 6 = some [2, 4, 8, 15, 16, 17] := rfl
@[simp] theorem keep_25_7 : fn25.keep 7 = some [2, 4, 8, 15, 16, 17, 29] := rfl
@[simp] theorem keep_25_8 : fn25.keep 8 = some [4, 5] := rfl
@[simp] theorem keep_25_9 : fn25.keep 9 = some [2, 4, 15, 16, 17] := rfl
@[simp] theorem keep_25_10 : fn25.keep 10 = some [2, 4, 15, 16, 17] := rfl
@[simp] theorem keep_25_11 : fn25.keep 11 = some [4, 5] := rfl
@[simp] theorem head_25_5 : fn25.head 5 = some [2, 4, 15, 16, 17] := rfl
@[simp] theorem ntmps_26 : fn26.ntmps = 33 := rfl
@[simp] theorem results_26 : fn26.results = [.tmp 4] := rfl
theorem body_26 : fn26.body = c26 := rfl
@[simp] theorem dyn_26 : fn26.dyn = fun _ => [] := id rfl
@[simp] theorem opn_26 : fn26.opn = fun _ => none := id rfl
@[simp] theorem keep_26_0 : fn26.keep 0 = some [1, 2] := rfl
@[simp] theorem keep_26_1 : fn26.keep 1 = some [1, 2, 8] := rfl
@[simp] theorem keep_26_2 : fn26.keep 2 = some [4] := rfl
@[simp] theorem keep_26_3 : fn26.keep 3 = some [1, 2, 5] := rfl
@[simp] theorem keep_26_4 : fn26.keep 4 = some [1, 2, 5, 6] := rfl
@[simp] theorem keep_26_5 : fn26.keep 5 = some [1, 2, 5, 6, 18] := rfl
@[simp] theorem keep_26_6 : fn26.keep 6 = some [1, 2, 5, 6] := rfl
@[simp] theorem keep_26_7 : fn26.keep 7 = some [1, 2, 5, 6] := rfl
@[simp] theorem keep_26_8 : fn26.keep 8 = some [4] := rfl
@[simp] theorem head_26_5 : fn26.head 5 = some [1, 2, 5, 6] := rfl
@[simp] theorem ntmps_27 : fn27.ntmps = 34 := rfl
@[simp] theorem results_27 : fn27.results = [.tmp 2] := rfl
theorem body_27 : fn27.body = c27 := rfl
@[simp] theorem dyn_27 : fn27.dyn = fun _ => [] := id rfl
@[simp] theorem opn_27 : fn27.opn = fun _ => none := id rfl
@[simp] theorem keep_27_0 : fn27.keep 0 = some [1] := rfl
@[simp] theorem keep_27_1 : fn27.keep 1 = some [1, 19] := rfl
@[simp] theorem keep_27_2 : fn27.keep 2 = some [2] := rfl
@[simp] theorem keep_27_3 : fn27.keep 3 = some [1, 3] := rfl
@[simp] theorem keep_27_4 : fn27.keep 4 = some [1, 3, 24] := rfl
@[simp] theorem keep_27_5 : fn27.keep 5 = some [1, 3] := rfl
@[simp] theorem keep_27_6 : fn27.keep 6 = some [1, 3, 33] := rfl
@[simp] theorem keep_27_7 : fn27.keep 7 = some [2] := rfl
@[simp] theorem keep_27_8 : fn27.keep 8 = some [2] := rfl
@[simp] theorem head_27_4 : fn27.head 4 = some [1, 3] := rfl
@[simp] theorem ntmps_28 : fn28.ntmps = 12 := rfl
@[simp] theorem results_28 : fn28.results = [.tmp 2] := rfl
theorem body_28 : fn28.body = c28 := rfl
@[simp] theorem dyn_28 : fn28.dyn = fun _ => [] := id rfl
@[simp] theorem opn_28 : fn28.opn = fun _ => none := id rfl
@[simp] theorem keep_28_0 : fn28.keep 0 = some [1] := rfl
@[simp] theorem keep_28_1 : fn28.keep 1 = some [1, 6] := rfl
@[simp] theorem keep_28_2 : fn28.keep 2 = some [2] := rfl
@[simp] theorem keep_28_3 : fn28.keep 3 = some [3] := rfl
@[simp] theorem keep_28_4 : fn28.keep 4 = some [3, 10] := rfl
@[simp] theorem keep_28_5 : fn28.keep 5 = some [2] := rfl
@[simp] theorem keep_28_6 : fn28.keep 6 = some [2] := rfl
@[simp] theorem ntmps_29 : fn29.ntmps = 13 := rfl
@[simp] theorem results_29 : fn29.results = [.tmp 2] := rfl
theorem body_29 : fn29.body = c29 := rfl
@[simp] theorem dyn_29 : fn29.dyn = fun _ => [] := id rfl
@[simp] theorem opn_29 : fn29.opn = fun _ => none := id rfl
@[simp] theorem keep_29_0 : fn29.keep 0 = some [1] := rfl
@[simp] theorem keep_29_1 : fn29.keep 1 = some [4] := rfl
@[simp] theorem keep_29_2 : fn29.keep 2 = some [2] := rfl
@[simp] theorem ntmps_30 : fn30.ntmps = 13 := rfl
@[simp] theorem results_30 : fn30.results = [.tmp 2] := rfl
theorem body_30 : fn30.body = c30 := rfl
@[simp] theorem dyn_30 : fn30.dyn = fun _ => [] := id rfl
@[simp] theorem opn_30 : fn30.opn = fun _ => none := id rfl
@[simp] theorem keep_30_0 : fn30.keep 0 = some [1] := rfl
@[simp] theorem keep_30_1 : fn30.keep 1 = some [5] := rfl
@[simp] theorem keep_30_2 : fn30.keep 2 = some [2] := rfl
@[simp] theorem ntmps_32 : fn32.ntmps = 13 := rfl
@[simp] theorem results_32 : fn32.results = [.tmp 2] := rfl
theorem body_32 : fn32.body = c32 := rfl
@[simp] theorem dyn_32 : fn32.dyn = fun _ => [] := id rfl
@[simp] theorem opn_32 : fn32.opn = fun _ => none := id rfl
@[simp] theorem keep_32_0 : fn32.keep 0 = some [1] := rfl
@[simp] theorem keep_32_1 : fn32.keep 1 = some [3] := rfl
@[simp] theorem keep_32_2 : fn32.keep 2 = some [2] := rfl
@[simp] theorem ntmps_34 : fn34.ntmps = 27 := rfl
@[simp] theorem results_34 : fn34.results = [.cell 2 30, .tmp 3, .tmp 4] := rfl
theorem body_34 : fn34.body = c34 := rfl
@[simp] theorem dyn_34 : fn34.dyn = fun _ => [] := id rfl
@[simp] theorem opn_34 : fn34.opn = fun _ => none := id rfl
@[simp] theorem keep_34_0 : fn34.keep 0 = some [0, 2] := rfl
@[simp] theorem keep_34_1 : fn34.keep 1 = some [0, 2, 3, 4, 5] := rfl
@[simp] theorem keep_34_2 : fn34.keep 2 = some [0, 2, 3, 4, 5, 13] := rfl
@[simp] theorem keep_34_3 : fn34.keep 3 = some [2, 3, 4] := rfl
@[simp] theorem keep_34_4 : fn34.keep 4 = some [2, 5, 19] := rfl
@[simp] theorem keep_34_5 : fn34.keep 5 = some [2, 3, 4] := rfl
@[simp] theorem keep_34_6 : fn34.keep 6 = some [2, 3, 4] := rfl
@[simp] theorem ntmps_35 : fn35.ntmps = 33 := rfl
@[simp] theorem results_35 : fn35.results = [.tmp 2] := rfl
theorem body_35 : fn35.body = c35 := rfl
@[simp] theorem dyn_35 : fn35.dyn = fun _ => [] := id rfl
@[simp] theorem opn_35 : fn35.opn = opnT := id rfl
@[simp] theorem keep_35_0 : fn35.keep 0 = some [1] := rfl
@[simp] theorem keep_35_1 : fn35.keep 1 = some [1, 3] := rfl
@[simp] theorem keep_35_2 : fn35.keep 2 = some [1, 3, 4] := rfl
@[simp] theorem keep_35_3 : fn35.keep 3 = some [1, 3, 4, 13] := rfl
@[simp] theorem keep_35_4 : fn35.keep 4 = some [1, 3, 4] := rfl
@[simp] theorem keep_35_5 : fn35.keep 5 = some [1, 3, 4] := rfl
@[simp] theorem keep_35_6 : fn35.keep 6 = some [2] := rfl
@[simp] theorem head_35_3 : fn35.head 3 = some [1, 3, 4] := rfl
@[simp] theorem ntmps_36 : fn36.ntmps = 18 := rfl
@[simp] theorem results_36 : fn36.results = [.tmp 4] := rfl
theorem body_36 : fn36.body = c36 := rfl
@[simp] theorem dyn_36 : fn36.dyn = fun _ => [] := id rfl
@[simp] theorem opn_36 : fn36.opn = fun _ => none := id rfl
@[simp] theorem keep_36_0 : fn36.keep 0 = some [2, 3] := rfl
@[simp] theorem keep_36_1 : fn36.keep 1 = some [4] := rfl
@[simp] theorem ntmps_37 : fn37.ntmps = 22 := rfl
@[simp] theorem results_37 : fn37.results = [.tmp 4] := rfl
theorem body_37 : fn37.body = c37 := rfl
@[simp] theorem dyn_37 : fn37.dyn = fun _ => [] := id rfl
@[simp] theorem opn_37 : fn37.opn = fun _ => none := id rfl
@[simp] theorem keep_37_0 : fn37.keep 0 = some [2, 3] := rfl
@[simp] theorem keep_37_1 : fn37.keep 1 = some [3, 5] := rfl
@[simp] theorem keep_37_2 : fn37.keep 2 = some [5, 7] := rfl
@[simp] theorem keep_37_3 : fn37.keep 3 = some [4] := rfl
@[simp] theorem ntmps_38 : fn38.ntmps = 25 := rfl
@[simp] theorem results_38 : fn38.results = [.tmp 2] := rfl
theorem body_38 : fn38.body = c38 := rfl
@[simp] theorem dyn_38 : fn38.dyn = fun _ => [] := id rfl
@[simp] theorem opn_38 : fn38.opn = fun _ => none := id rfl
@[simp] theorem keep_38_0 : fn38.keep 0 = some [1] := rfl
@[simp] theorem keep_38_1 : fn38.keep 1 = some [1, 6] := rfl
@[simp] theorem keep_38_2 : fn38.keep 2 = some [2] := rfl
@[simp] theorem keep_38_3 : fn38.keep 3 = some [1, 10] := rfl
@[simp] theorem keep_38_4 : fn38.keep 4 = some [2] := rfl
@[simp] theorem keep_38_5 : fn38.keep 5 = some [1, 3] := rfl
@[simp] theorem keep_38_6 : fn38.keep 6 = some [1, 3, 15] := rfl
@[simp] theorem keep_38_7 : fn38.keep 7 = some [1, 3] := rfl
@[simp] theorem keep_38_8 : fn38.keep 8 = some [1, 3, 24] := rfl
@[simp] theorem keep_38_9 : fn38.keep 9 = some [2] := rfl
@[simp] theorem keep_38_10 : fn38.keep 10 = some [2] := rfl
@[simp] theorem head_38_6 : fn38.head 6 = some [1, 3] := rfl
@[simp] theorem ntmps_39 : fn39.ntmps = 70 := rfl
@[simp] theorem results_39 : fn39.results = [.tmp 6, .tmp 7] := rfl
theorem body_39 : fn39.body = c39 := rfl
@[simp] theorem dyn_39 : fn39.dyn = fun _ => [] := id rfl
@[simp] theorem opn_39 : fn39.opn = fun _ => none := id rfl
@[simp] theorem keep_39_0 : fn39.keep 0 = some [1, 2, 3] := rfl
@[simp] theorem keep_39_1 : fn39.keep 1 = some [1, 2, 3, 8] := rfl
@[simp] theorem keep_39_2 : fn39.keep 2 = some [1, 2, 3, 8, 17] := rfl
@[simp] theorem keep_39_3 : fn39.keep 3 = some [6, 7] := rfl
@[simp] theorem keep_39_4 : fn39.keep 4 = some [1, 2, 3, 39] := rfl
@[simp] theorem keep_39_5 : fn39.keep 5 = some [6, 7] := rfl
@[simp] theorem keep_39_6 : fn39.keep 6 = some [1, 2, 3, 41] := rfl
@[simp] theorem keep_39_7 : fn39.keep 7 = some [6, 7] := rfl
@[simp] theorem keep_39_8 : fn39.keep 8 = some [1, 2, 3, 43] := rfl
@[simp] theorem keep_39_9 : fn39.keep 9 = some [6, 7] := rfl
@[simp] theorem keep_39_10 : fn39.keep 10 = some [1, 3, 9] := rfl
@[simp] theorem keep_39_11 : fn39.keep 11 = some [1, 3, 9, 10] := rfl
@[simp] theorem keep_39_12 : fn39.keep 12 = some [1, 3, 9, 10, 50] := rfl
@[simp] theorem keep_39_13 : fn39.keep 13 = some [1, 3, 9, 10] := rfl
@[simp] theorem keep_39_14 : fn39.keep 14 = some [1, 3, 10, 11, 12] := rfl
@[simp] theorem keep_39_15 : fn39.keep 15 = some [1, 3, 10, 11, 12, 66] := rfl
@[simp] theorem keep_39_16 : fn39.keep 16 = some [6, 7] := rfl
@[simp] theorem keep_39_17 : fn39.keep 17 = some [1, 3, 9, 10] := rfl
@[simp] theorem keep_39_18 : fn39.keep 18 = some [6, 7] := rfl
@[simp] theorem head_39_12 : fn39.head 12 = some [1, 3, 9, 10] := rfl
@[simp] theorem ntmps_40 : fn40.ntmps = 22 := rfl
@[simp] theorem results_40 : fn40.results = [.tmp 2] := rfl
theorem body_40 : fn40.body = c40 := rfl
@[simp] theorem dyn_40 : fn40.dyn = fun _ => [] := id rfl
@[simp] theorem opn_40 : fn40.opn = fun _ => none := id rfl
@[simp] theorem keep_40_0 : fn40.keep 0 = some [1] := rfl
@[simp] theorem keep_40_1 : fn40.keep 1 = some [1, 3] := rfl
@[simp] theorem keep_40_2 : fn40.keep 2 = some [1, 3, 4] := rfl
@[simp] theorem keep_40_3 : fn40.keep 3 = some [1, 3, 4, 9] := rfl
@[simp] theorem keep_40_4 : fn40.keep 4 = some [1, 3, 4] := rfl
@[simp] theorem keep_40_5 : fn40.keep 5 = some [1, 3, 4] := rfl
@[simp] theorem keep_40_6 : fn40.keep 6 = some [2] := rfl
@[simp] theorem head_40_3 : fn40.head 3 = some [1, 3, 4] := rfl
@[simp] theorem ntmps_41 : fn41.ntmps = 9 := rfl
@[simp] theorem results_41 : fn41.results = [.cell 0 30] := rfl
theorem body_41 : fn41.body = c41 := rfl
@[simp] theorem dyn_41 : fn41.dyn = fun _ => [] := id rfl
@[simp] theorem opn_41 : fn41.opn = fun _ => none := id rfl
@[simp] theorem keep_41_0 : fn41.keep 0 = some [0] := rfl
@[simp] theorem keep_41_1 : fn41.keep 1 = some [0] := rfl
@[simp] theorem ntmps_68 : fn68.ntmps = 147 := rfl
@[simp] theorem results_68 : fn68.results = [.cell 10 30, .tmp 11, .tmp 12, .tmp 13] := rfl
theorem body_68 : fn68.body = c68 := rfl
@[simp] theorem dyn_68 : fn68.dyn = fun _ => [] := id rfl
@[simp] theorem opn_68 : fn68.opn = fun _ => none := id rfl
@[simp] theorem keep_68_0 : fn68.keep 0 = some [0, 1, 2, 3, 4, 10] := rfl
@[simp] theorem keep_68_1 : fn68.keep 1 = some [0, 1, 2, 3, 4, 10, 14, 15, 16] := rfl
@[simp] theorem keep_68_2 : fn68.keep 2 = some [0, 1, 2, 3, 4, 10, 14, 15, 16, 37] := rfl
@[simp] theorem keep_68_3 : fn68.keep 3 = some [10, 11, 12, 13] := rfl
@[simp] theorem keep_68_4 : fn68.keep 4 = some [0, 1, 2, 3, 4, 10, 14, 15, 16, 41] := rfl
@[simp] theorem keep_68_5 : fn68.keep 5 = some [10, 11, 12, 13] := rfl
@[simp] theorem keep_68_6 : fn68.keep 6 = some [0, 1, 2, 3, 4, 10, 14, 15, 46] := rfl
@[simp] theorem keep_68_7 : fn68.keep 7 = some [10, 11, 12, 13] := rfl
@[simp] theorem keep_68_8 : fn68.keep 8 = some [0, 1, 2, 3, 4, 10, 14, 15, 50] := rfl
@[simp] theorem keep_68_9 : fn68.keep 9 = some [10, 11, 12, 13] := rfl
@[simp] theorem keep_68_10 : fn68.keep 10 = some [0, 1, 2, 3, 4, 10, 14, 15, 16, 17, 18] := rfl
@[simp] theorem keep_68_11 : fn68.keep 11 = some [0, 1, 2, 3, 4, 10, 14, 15, 16, 17, 18, 80] := rfl
@[simp] theorem keep_68_12 : fn68.keep 12 = some [10, 11, 12, 13] := rfl
@[simp] theorem keep_68_13 : fn68.keep 13 = some [0, 1, 3, 4, 10, 14, 15, 16, 17, 18, 84] := rfl
@[simp] theorem keep_68_14 : fn68.keep 14 = some [10, 11, 12, 13] := rfl
@[simp] theorem keep_68_15 : fn68.keep 15 = some [0, 3, 4, 10, 14, 17, 19] := rfl
@[simp] theorem keep_68_16 : fn68.keep 16 = some [0, 3, 4, 10, 14, 19, 20] := rfl
@[simp] theorem keep_68_17 : fn68.keep 17 = some [0, 3, 4, 10, 14, 19, 20, 21] := rfl
@[simp] theorem keep_68_18 : fn68.keep 18 = some [0, 3, 10, 14, 19, 20, 21, 22] := rfl
@[simp] theorem keep_68_19 : fn68.keep 19 = some [0, 3, 10, 19, 20, 21, 22, 104] := rfl
@[simp] theorem keep_68_20 : fn68.keep 20 = some [10, 20, 21, 22] := rfl
@[simp] theorem keep_68_21 : fn68.keep 21 = some [10, 11, 12, 13] := rfl
@[simp] theorem keep_68_22 : fn68.keep 22 = some [0, 3, 10, 19, 20, 21, 22, 118] := rfl
@[simp] theorem keep_68_23 : fn68.keep 23 = some [0, 3, 10, 20, 21, 23, 24, 25, 26] := rfl
@[simp] theorem keep_68_24 : fn68.keep 24 = some [0, 3, 10, 20, 21, 23, 24, 25, 26, 132] := rfl
@[simp] theorem keep_68_25 : fn68.keep 25 = some [10, 11, 12, 13] := rfl
@[simp] theorem keep_68_26 : fn68.keep 26 = some [0, 3, 10, 20, 21, 24, 25] := rfl
@[simp] theorem keep_68_27 : fn68.keep 27 = some [0, 3, 10, 19, 20, 21, 25] := rfl
@[simp] theorem keep_68_28 : fn68.keep 28 = some [0, 3, 10, 19, 20, 21, 22] := rfl
@[simp] theorem keep_68_29 : fn68.keep 29 = some [10, 11, 12, 13] := rfl
@[simp] theorem head_68_22 : fn68.head 22 = some [0, 3, 10, 19, 20, 21, 22] := rfl
@[simp] theorem ntmps_69 : fn69.ntmps = 14 := rfl
@[simp] theorem results_69 : fn69.results = [.tmp 2] := rfl
theorem body_69 : fn69.body = c69 := rfl
@[simp] theorem dyn_69 : fn69.dyn = fun _ => [] := id rfl
@[simp] theorem opn_69 : fn69.opn = fun _ => none := id rfl
@[simp] theorem keep_69_0 : fn69.keep 0 = some [1] := rfl
@[simp] theorem keep_69_1 : fn69.keep 1 = some [1, 3] := rfl
@[simp] theorem keep_69_2 : fn69.keep 2 = some [1, 3, 7] := rfl
@[simp] theorem keep_69_3 : fn69.keep 3 = some [2] := rfl
@[simp] theorem keep_69_4 : fn69.keep 4 = some [2] := rfl
@[simp] theorem ntmps_70 : fn70.ntmps = 44 := rfl
@[simp] theorem results_70 : fn70.results = [.tmp 4] := rfl
theorem body_70 : fn70.body = c70 := rfl
@[simp] theorem dyn_70 : fn70.dyn = fun _ => [] := id rfl
@[simp] theorem opn_70 : fn70.opn = opnT := id rfl
@[simp] theorem keep_70_0 : fn70.keep 0 = some [0, 3] := rfl
@[simp] theorem keep_70_1 : fn70.keep 1 = some [0, 3, 5] := rfl
@[simp] theorem keep_70_2 : fn70.keep 2 = some [0, 3, 5, 7] := rfl
@[simp] theorem keep_70_3 : fn70.keep 3 = some [0, 3] := rfl
@[simp] theorem keep_70_4 : fn70.keep 4 = some [0, 3] := rfl
@[simp] theorem keep_70_5 : fn70.keep 5 = some [0, 33, 34, 35] := rfl
@[simp] theorem keep_70_6 : fn70.keep 6 = some [0, 33, 34, 35, 36] := rfl
@[simp] theorem keep_70_7 : fn70.keep 7 = some [0, 10, 33, 34, 35] := rfl
@[simp] theorem keep_70_8 : fn70.keep 8 = some [0, 33, 34, 35] := rfl
@[simp] theorem keep_70_9 : fn70.keep 9 = some [0, 33, 34, 35] := rfl
@[simp] theorem keep_70_10 : fn70.keep 10 = some [4] := rfl
@[simp] theorem head_70_6 : fn70.head 6 = some [0, 33, 34, 35] := rfl
@[simp] theorem ntmps_71 : fn71.ntmps = 20 := rfl
@[simp] theorem results_71 : fn71.results = [.cell 2 27] := rfl
theorem body_71 : fn71.body = c71 := rfl
@[simp] theorem dyn_71 : fn71.dyn = fun _ => [] := id rfl
@[simp] theorem opn_71 : fn71.opn = fun _ => none := id rfl
@[simp] theorem keep_71_0 : fn71.keep 0 = some [1, 2] := rfl
@[simp] theorem keep_71_1 : fn71.keep 1 = some [2, 3] := rfl
@[simp] theorem keep_71_2 : fn71.keep 2 = some [2, 3, 17] := rfl
@[simp] theorem keep_71_3 : fn71.keep 3 = some [2, 3] := rfl
@[simp] theorem keep_71_4 : fn71.keep 4 = some [2] := rfl
@[simp] theorem ntmps_72 : fn72.ntmps = 23 := rfl
@[simp] theorem results_72 : fn72.results = [] := rfl
theorem body_72 : fn72.body = c72 := rfl
@[simp] theorem dyn_72_5 : fn72.dyn 5 = [(2, 5), (4, 5), (2, 6), (4, 6), (4, 7)] := id rfl

@[simp] theorem opn_72 : fn72.opn = fun _ => none := id rfl
@[simp] theorem keep_72_0 : fn72.keep 0 = some [0, 1, 2, 3, 4] := rfl
@[simp] theorem keep_72_1 : fn72.keep 1 = some [0, 1, 2, 3, 4, 9] := rfl
@[simp] theorem keep_72_2 : fn72.keep 2 = some [0, 1, 2, 3, 4, 5, 6] := rfl
@[simp] theorem keep_72_3 : fn72.keep 3 = some [0, 1, 2, 3, 4, 5, 16] := rfl
@[simp] theorem keep_72_4 : fn72.keep 4 = some [0, 1, 2, 3, 5] := rfl
@[simp] theorem keep_72_5 : fn72.keep 5 = some [] := rfl
@[simp] theorem ntmps_73 : fn73.ntmps = 151 := rfl
@[simp] theorem results_73 : fn73.results = [.cell 8 30, .tmp 9] := rfl
theorem body_73 : fn73.body = c73 := rfl
@[simp] theorem dyn_73 : fn73.dyn = fun _ => [] := id rfl
@[simp] theorem opn_73 : fn73.opn = opnT := id rfl
@[simp] theorem keep_73_0 : fn73.keep 0 = some [0, 1, 2, 3, 8] := rfl
@[simp] theorem keep_73_1 : fn73.keep 1 = some [0, 1, 2, 3, 8, 10, 11, 12] := rfl
@[simp] theorem keep_73_2 : fn73.keep 2 = some [0, 1, 2, 3, 8, 10, 11, 12, 28] := rfl
@[simp] theorem keep_73_3 : fn73.keep 3 = some [0, 1, 2, 3, 8, 10, 11] := rfl
@[simp] theorem keep_73_4 : fn73.keep 4 = some [0, 1, 2, 3, 8, 10, 11, 12, 35] := rfl
@[simp] theorem keep_73_5 : fn73.keep 5 = some [0, 1, 2, 3, 8, 10, 11] := rfl
@[simp] theorem keep_73_6 : fn73.keep 6 = some [0, 1, 2, 3, 8, 10, 11, 42] := rfl
@[simp] theorem keep_73_7 : fn73.keep 7 = some [0, 1, 2, 3, 8, 10, 11] := rfl
@[simp] theorem keep_73_8 : fn73.keep 8 = some [0, 1, 2, 3, 8, 10, 11, 48] := rfl
@[simp] theorem keep_73_9 : fn73.keep 9 = some [0, 1, 2, 3, 8, 10, 11] := rfl
@[simp] theorem keep_73_10 : fn73.keep 10 = some [0, 1, 2, 3, 8, 10, 11] := rfl
@[simp] theorem keep_73_11 : fn73.keep 11 = some [0, 1, 2, 3, 8, 10] := rfl
@[simp] theorem keep_73_12 : fn73.keep 12 = some [0, 1, 2, 3, 8, 10, 11, 12, 13] := rfl
@[simp] theorem keep_73_13 : fn73.keep 13 = some [0, 1, 2, 3, 8, 10, 11, 12, 13, 79] := rfl
@[simp] theorem keep_73_14 : fn73.keep 14 = some [0, 1, 3, 8, 10, 11, 13] := rfl
@[simp] theorem keep_73_15 : fn73.keep 15 = some [0, 1, 2, 3, 8, 10, 11, 12, 13, 86] := rfl
@[simp] theorem keep_73_16 : fn73.keep 16 = some [0, 1, 3, 8, 10, 11, 13] := rfl
@[simp] theorem keep_73_17 : fn73.keep 17 = some [0, 1, 2, 3, 8, 10, 11, 13, 93] := rfl
@[simp] theorem keep_73_18 : fn73.keep 18 = some [0, 1, 3, 8, 10, 11, 13] := rfl
@[simp] theorem keep_73_19 : fn73.keep 19 = some [0, 1, 3, 8, 10, 13] := rfl
@[simp] theorem keep_73_20 : fn73.keep 20 = some [0, 1, 2, 3, 8, 10] := rfl
@[simp] theorem keep_73_21 : fn73.keep 21 = some [0, 1, 2, 3, 8, 10, 14] := rfl
@[simp] theorem keep_73_22 : fn73.keep 22 = some [0, 1, 2, 3, 8, 14, 114] := rfl
@[simp] theorem keep_73_23 : fn73.keep 23 = some [2, 8, 14] := rfl
@[simp] theorem keep_73_24 : fn73.keep 24 = some [8, 9] := rfl
@[simp] theorem keep_73_25 : fn73.keep 25 = some [0, 1, 2, 3, 8, 14, 129] := rfl
@[simp] theorem keep_73_26 : fn73.keep 26 = some [0, 1, 2, 3, 8, 14, 15] := rfl
@[simp] theorem keep_73_27 : fn73.keep 27 = some [0, 1, 2, 3, 8, 14, 15] := rfl
@[simp] theorem keep_73_28 : fn73.keep 28 = some [0, 1, 2, 3, 8, 14] := rfl
@[simp] theorem keep_73_29 : fn73.keep 29 = some [2, 8, 14] := rfl
@[simp] theorem keep_73_30 : fn73.keep 30 = some [8, 9] := rfl
@[simp] theorem head_73_25 : fn73.head 25 = some [0, 1, 2, 3, 8, 14] := rfl
@[simp] theorem ntmps_74 : fn74.ntmps = 38 := rfl
@[simp] theorem results_74 : fn74.results = [.cell 2 30] := rfl
theorem body_74 : fn74.body = c74 := rfl
@[simp] theorem dyn_74 : fn74.dyn = fun _ => [] := id rfl
@[simp] theorem opn_74 : fn74.opn = fun _ => none := id rfl
@[simp] theorem keep_74_0 : fn74.keep 0 = some [1, 2] := rfl
@[simp] theorem keep_74_1 : fn74.keep 1 = some [1, 2, 3] := rfl
@[simp] theorem keep_74_2 : fn74.keep 2 = some [1, 2, 3, 16] := rfl
@[simp] theorem keep_74_3 : fn74.keep 3 = some [1, 2, 3] := rfl
@[simp] theorem keep_74_4 : fn74.keep 4 = some [2, 3, 23, 24, 25] := rfl
@[simp] theorem keep_74_5 : fn74.keep 5 = some [2, 3, 23, 24, 25, 26] := rfl
@[simp] theorem keep_74_6 : fn74.keep 6 = some [2, 3, 4, 5, 23, 24, 25] := rfl
@[simp] theorem keep_74_7 : fn74.keep 7 = some [2, 3, 23, 24, 25] := rfl
@[simp] theorem keep_74_8 : fn74.keep 8 = some [2, 3, 23, 24, 25] := rfl
@[simp] theorem keep_74_9 : fn74.keep 9 = some [2] := rfl
@[simp] theorem head_74_5 : fn74.head 5 = some [2, 3, 23, 24, 25] := rfl
@[simp] theorem ntmps_75 : fn75.ntmps = 13 := rfl
@[simp] theorem results_75 : fn75.results = [.tmp 2, .cell 3 3, .cell 4 3] := rfl
theorem body_75 : fn75.body = c75 := rfl
@[simp] theorem dyn_75_4 : fn75.dyn 4 = [(1, 3)] := id rfl

@[simp] theorem opn_75 : fn75.opn = opnT := id rfl
@[simp] theorem keep_75_0 : fn75.keep 0 = some [1, 3, 4] := rfl
@[simp] theorem keep_75_1 : fn75.keep 1 = some [2, 3, 4] := rfl
@[simp] theorem keep_75_2 : fn75.keep 2 = some [2, 3, 4, 9] := rfl
@[simp] theorem keep_75_3 : fn75.keep 3 = some [2, 3, 4] := rfl
@[simp] theorem keep_75_4 : fn75.keep 4 = some [2, 3, 4] := rfl
@[simp] theorem ntmps_76 : fn76.ntmps = 31 := rfl
@[simp] theorem results_76 : fn76.results = [.tmp 2] := rfl
theorem body_76 : fn76.body = c76 := rfl
@[simp] theorem dyn_76 : fn76.dyn = fun _ => [] := id rfl
@[simp] theorem opn_76 : fn76.opn = fun _ => none := id rfl
@[simp] theorem keep_76_0 : fn76.keep 0 = some [1] := rfl
@[simp] theorem keep_76_1 : fn76.keep 1 = some [1, 3] := rfl
@[simp] theorem keep_76_2 : fn76.keep 2 = some [1, 3, 9] := rfl
@[simp] theorem keep_76_3 : fn76.keep 3 = some [1, 3] := rfl
@[simp] theorem keep_76_4 : fn76.keep 4 = some [1, 3, 14] := rfl
@[simp] theorem keep_76_5 : fn76.keep 5 = some [2] := rfl
@[simp] theorem keep_76_6 : fn76.keep 6 = some [2] := rfl
@[simp] theorem ntmps_77 : fn77.ntmps = 26 := rfl
@[simp] theorem results_77 : fn77.results = [.tmp 2] := rfl
theorem body_77 : fn77.body = c77 := rfl
@[simp] theorem dyn_77 : fn77.dyn = fun _ => [] := id rfl
@[simp] theorem opn_77 : fn77.opn = fun _ => none := id rfl
@[simp] theorem keep_77_0 : fn77.keep 0 = some [0] := rfl
@[simp] theorem keep_77_1 : fn77.keep 1 = some [0, 5] := rfl
@[simp] theorem keep_77_2 : fn77.keep 2 = some [2] := rfl
@[simp] theorem keep_77_3 : fn77.keep 3 = some [0, 3] := rfl
@[simp] theorem keep_77_4 : fn77.keep 4 = some [0, 3, 10] := rfl
@[simp] theorem keep_77_5 : fn77.keep 5 = some [0, 3] := rfl
@[simp] theorem keep_77_6 : fn77.keep 6 = some [0, 3] := rfl
@[simp] theorem keep_77_7 : fn77.keep 7 = some [2] := rfl
@[simp] theorem head_77_4 : fn77.head 4 = some [0, 3] := rfl
@[simp] theorem ntmps_78 : fn78.ntmps = 24 := rfl
@[simp] theorem results_78 : fn78.results = [.tmp 4] := rfl
theorem body_78 : fn78.body = c78 := rfl
@[simp] theorem dyn_78 : fn78.dyn = fun _ => [] := id rfl
@[simp] theorem opn_78 : fn78.opn = opnT := id rfl
@[simp] theorem keep_78_0 : fn78.keep 0 = some [2, 3] := rfl
@[simp] theorem keep_78_1 : fn78.keep 1 = some [4] := rfl
@[simp] theorem ntmps_79 : fn79.ntmps = 8 := rfl
@[simp] theorem results_79 : fn79.results = [.tmp 4] := rfl
theorem body_79 : fn79.body = c79 := rfl
@[simp] theorem dyn_79 : fn79.dyn = fun _ => [] := id rfl
@[simp] theorem opn_79 : fn79.opn = fun _ => none := id rfl
@[simp] theorem keep_79_0 : fn79.keep 0 = some [0, 1] := rfl
@[simp] theorem keep_79_1 : fn79.keep 1 = some [4] := rfl
@[simp] theorem ntmps_80 : fn80.ntmps = 34 := rfl
@[simp] theorem results_80 : fn80.results = [.tmp 2] := rfl
theorem body_80 : fn80.body = c80 := rfl
@[simp] theorem dyn_80 : fn80.dyn = fun _ => [] := id rfl
@[simp] theorem opn_80 : fn80.opn = fun _ => none := id rfl
@[simp] theorem keep_80_0 : fn80.keep 0 = some [1] := rfl
@[simp] theorem keep_80_1 : fn80.keep 1 = some [1, 10] := rfl
@[simp] theorem keep_80_2 : fn80.keep 2 = some [2] := rfl
@[simp] theorem keep_80_3 : fn80.keep 3 = some [33] := rfl
@[simp] theorem keep_80_4 : fn80.keep 4 = some [2] := rfl
@[simp] theorem keep_80_5 : fn80.keep 5 = some [2] := rfl
@[simp] theorem ntmps_88 : fn88.ntmps = 87 := rfl
@[simp] theorem results_88 : fn88.results = [.cell 2 27, .tmp 3, .tmp 4] := rfl
theorem body_88 : fn88.body = c88 := rfl
@[simp] theorem dyn_88 : fn88.dyn = fun _ => [] := id rfl
@[simp] theorem opn_88 : fn88.opn = fun _ => none := id rfl
@[simp] theorem keep_88_0 : fn88.keep 0 = some [0, 2] := rfl
@[simp] theorem keep_88_1 : fn88.keep 1 = some [0, 2, 11] := rfl
@[simp] theorem keep_88_2 : fn88.keep 2 = some [2, 3, 4] := rfl
@[simp] theorem keep_88_3 : fn88.keep 3 = some [0, 2, 5] := rfl
@[simp] theorem keep_88_4 : fn88.keep 4 = some [0, 2, 5, 6] := rfl
@[simp] theorem keep_88_5 : fn88.keep 5 = some [0, 2, 5, 6, 31] := rfl
@[simp] theorem keep_88_6 : fn88.keep 6 = some [0, 2, 5, 6, 7] := rfl
@[simp] theorem keep_88_7 : fn88.keep 7 = some [0, 2, 5, 6, 7, 35] := rfl
@[simp] theorem keep_88_8 : fn88.keep 8 = some [2, 3, 4] := rfl
@[simp] theorem keep_88_9 : fn88.keep 9 = some [0, 2, 5, 6, 7, 54] := rfl
@[simp] theorem keep_88_10 : fn88.keep 10 = some [2, 3, 4] := rfl
@[simp] theorem keep_88_11 : fn88.keep 11 = some [0, 2, 5, 6, 7] := rfl
@[simp] theorem keep_88_12 : fn88.keep 12 = some [0, 2, 5, 6, 7] := rfl
@[simp] theorem keep_88_13 : fn88.keep 13 = some [0, 2, 5, 6, 7, 72] := rfl
@[simp] theorem keep_88_14 : fn88.keep 14 = some [2, 5, 6, 7, 74] := rfl
@[simp] theorem keep_88_15 : fn88.keep 15 = some [2, 3, 4] := rfl
@[simp] theorem keep_88_16 : fn88.keep 16 = some [2, 5, 6] := rfl
@[simp] theorem keep_88_17 : fn88.keep 17 = some [2, 5, 6, 8] := rfl
@[simp] theorem keep_88_18 : fn88.keep 18 = some [2, 5, 6, 8, 82] := rfl
@[simp] theorem keep_88_19 : fn88.keep 19 = some [2, 3, 4] := rfl
@[simp] theorem keep_88_20 : fn88.keep 20 = some [2, 3, 4] := rfl
@[simp] theorem head_88_7 : fn88.head 7 = some [0, 2, 5, 6, 7] := rfl
@[simp] theorem ntmps_89 : fn89.ntmps = 59 := rfl
@[simp] theorem results_89 : fn89.results = [.tmp 2, .tmp 3, .tmp 4] := rfl
theorem body_89 : fn89.body = c89 := rfl
@[simp] theorem dyn_89 : fn89.dyn = fun _ => [] := id rfl
@[simp] theorem opn_89 : fn89.opn = fun _ => none := id rfl
@[simp] theorem keep_89_0 : fn89.keep 0 = some [0] := rfl
@[simp] theorem keep_89_1 : fn89.keep 1 = some [0, 10] := rfl
@[simp] theorem keep_89_2 : fn89.keep 2 = some [2, 3, 4] := rfl
@[simp] theorem keep_89_3 : fn89.keep 3 = some [0, 14] := rfl
@[simp] theorem keep_89_4 : fn89.keep 4 = some [2, 3, 4] := rfl
@[simp] theorem keep_89_5 : fn89.keep 5 = some [0, 5] := rfl
@[simp] theorem keep_89_6 : fn89.keep 6 = some [0, 5, 29] := rfl
@[simp] theorem keep_89_7 : fn89.keep 7 = some [2, 3, 4] := rfl
@[simp] theorem keep_89_8 : fn89.keep 8 = some [0, 5, 34] := rfl
@[simp] theorem keep_89_9 : fn89.keep 9 = some [2, 3, 4] := rfl
@[simp] theorem keep_89_10 : fn89.keep 10 = some [0, 5, 6] := rfl
@[simp] theorem keep_89_11 : fn89.keep 11 = some [0, 5, 6, 7] := rfl
@[simp] theorem keep_89_12 : fn89.keep 12 = some [0, 5, 6, 7, 37] := rfl
@[simp] theorem keep_89_13 : fn89.keep 13 = some [0, 5, 6, 7] := rfl
@[simp] theorem keep_89_14 : fn89.keep 14 = some [0, 5, 6, 7] := rfl
@[simp] theorem keep_89_15 : fn89.keep 15 = some [5, 6, 55] := rfl
@[simp] theorem keep_89_16 : fn89.keep 16 = some [2, 3, 4] := rfl
@[simp] theorem keep_89_17 : fn89.keep 17 = some [2, 3, 4] := rfl
@[simp] theorem head_89_12 : fn89.head 12 = some [0, 5, 6, 7] := rfl
@[simp] theorem ntmps_90 : fn90.ntmps = 27 := rfl
@[simp] theorem results_90 : fn90.results = [.tmp 2] := rfl
theorem body_90 : fn90.body = c90 := rfl
@[simp] theorem dyn_90 : fn90.dyn = fun _ => [] := id rfl
@[simp] theorem opn_90 : fn90.opn = fun _ => none := id rfl
@[simp] theorem keep_90_0 : fn90.keep 0 = some [1] := rfl
@[simp] theorem keep_90_1 : fn90.keep 1 = some [1, 9] := rfl
@[simp] theorem keep_90_2 : fn90.keep 2 = some [2] := rfl
@[simp] theorem keep_90_3 : fn90.keep 3 = some [1, 3] := rfl
@[simp] theorem keep_90_4 : fn90.keep 4 = some [3, 14, 15, 16] := rfl
@[simp] theorem keep_90_5 : fn90.keep 5 = some [3, 14, 15, 16, 17] := rfl
@[simp] theorem keep_90_6 : fn90.keep 6 = some [3, 5, 14, 15, 16] := rfl
@[simp] theorem keep_90_7 : fn90.keep 7 = some [3, 14, 15, 16] := rfl
@[simp] theorem keep_90_8 : fn90.keep 8 = some [3, 14, 15, 16] := rfl
@[simp] theorem keep_90_9 : fn90.keep 9 = some [2] := rfl
@[simp] theorem head_90_5 : fn90.head 5 = some [3, 14, 15, 16] := rfl
@[simp] theorem ntmps_91 : fn91.ntmps = 22 := rfl
@[simp] theorem results_91 : fn91.results = [.tmp 4] := rfl
theorem body_91 : fn91.body = c91 := rfl
@[simp] theorem dyn_91 : fn91.dyn = fun _ => [] := id rfl
@[simp] theorem opn_91 : fn91.opn = fun _ => none := id rfl
@[simp] theorem keep_91_0 : fn91.keep 0 = some [0, 1] := rfl
@[simp] theorem keep_91_1 : fn91.keep 1 = some [0, 1, 15] := rfl
@[simp] theorem keep_91_2 : fn91.keep 2 = some [4] := rfl
@[simp] theorem keep_91_3 : fn91.keep 3 = some [4] := rfl
@[simp] theorem ntmps_92 : fn92.ntmps = 12 := rfl
@[simp] theorem results_92 : fn92.results = [.tmp 2] := rfl
theorem body_92 : fn92.body = c92 := rfl
@[simp] theorem dyn_92 : fn92.dyn = fun _ => [] := id rfl
@[simp] theorem opn_92 : fn92.opn = fun _ => none := id rfl
@[simp] theorem keep_92_0 : fn92.keep 0 = some [1] := rfl
@[simp] theorem keep_92_1 : fn92.keep 1 = some [3] := rfl
@[simp] theorem keep_92_2 : fn92.keep 2 = some [2] := rfl
@[simp] theorem ntmps_93 : fn93.ntmps = 42 := rfl
@[simp] theorem results_93 : fn93.results = [.tmp 2, .tmp 3] := rfl
theorem body_93 : fn93.body = c93 := rfl
@[simp] theorem dyn_93 : fn93.dyn = fun _ => [] := id rfl
@[simp] theorem opn_93 : fn93.opn = fun _ => none := id rfl
@[simp] theorem keep_93_0 : fn93.keep 0 = some [1, 35] := rfl
@[simp] theorem keep_93_1 : fn93.keep 1 = some [1, 4, 35] := rfl
@[simp] theorem keep_93_2 : fn93.keep 2 = some [1, 4, 11, 35] := rfl
@[simp] theorem keep_93_3 : fn93.keep 3 = some [2, 3] := rfl
@[simp] theorem keep_93_4 : fn93.keep 4 = some [1, 5, 35] := rfl
@[simp] theorem keep_93_5 : fn93.keep 5 = some [1, 5, 17, 35] := rfl
@[simp] theorem keep_93_6 : fn93.keep 6 = some [1, 5, 35] := rfl
@[simp] theorem keep_93_7 : fn93.keep 7 = some [1, 5, 22, 35] := rfl
@[simp] theorem keep_93_8 : fn93.keep 8 = some [2, 3] := rfl
@[simp] theorem keep_93_9 : fn93.keep 9 = some [1, 6, 35] := rfl
@[simp] theorem keep_93_10 : fn93.keep 10 = some [6, 34, 35] := rfl
@[simp] theorem keep_93_11 : fn93.keep 11 = some [6, 7, 35] := rfl
@[simp] theorem keep_93_12 : fn93.keep 12 = some [6, 35] := rfl
@[simp] theorem keep_93_13 : fn93.keep 13 = some [2, 3] := rfl
@[simp] theorem ntmps_94 : fn94.ntmps = 50 := rfl
@[simp] theorem results_94 : fn94.results = [.tmp 2, .tmp 3] := rfl
theorem body_94 : fn94.body = c94 := rfl
@[simp] theorem dyn_94 : fn94.dyn = fun _ => [] := id rfl
@[simp] theorem opn_94 : fn94.opn = fun _ => none := id rfl
@[simp] theorem keep_94_0 : fn94.keep 0 = some [0] := rfl
@[simp] theorem keep_94_1 : fn94.keep 1 = some [0, 5] := rfl
@[simp] theorem keep_94_2 : fn94.keep 2 = some [2, 3] := rfl
@[simp] theorem keep_94_3 : fn94.keep 3 = some [0, 8] := rfl
@[simp] theorem keep_94_4 : fn94.keep 4 = some [2, 3] := rfl
@[simp] theorem keep_94_5 : fn94.keep 5 = some [0, 11] := rfl
@[simp] theorem keep_94_6 : fn94.keep 6 = some [2, 3] := rfl
@[simp] theorem keep_94_7 : fn94.keep 7 = some [0, 4] := rfl
@[simp] theorem keep_94_8 : fn94.keep 8 = some [0, 4, 18] := rfl
@[simp] theorem keep_94_9 : fn94.keep 9 = some [0, 4, 21] := rfl
@[simp] theorem keep_94_10 : fn94.keep 10 = some [0, 4] := rfl
@[simp] theorem keep_94_11 : fn94.keep 11 = some [0, 4] := rfl
@[simp] theorem keep_94_12 : fn94.keep 12 = some [4] := rfl
@[simp] theorem keep_94_13 : fn94.keep 13 = some [4] := rfl
@[simp] theorem keep_94_14 : fn94.keep 14 = some [2, 3] := rfl
@[simp] theorem ntmps_95 : fn95.ntmps = 44 := rfl
@[simp] theorem results_95 : fn95.results = [.cell 2 27, .tmp 3, .tmp 4] := rfl
theorem body_95 : fn95.body = c95 := rfl
@[simp] theorem dyn_95 : fn95.dyn = fun _ => [] := id rfl
@[simp] theorem opn_95 : fn95.opn = fun _ => none := id rfl
@[simp] theorem keep_95_0 : fn95.keep 0 = some [0, 2, 4] := rfl
@[simp] theorem keep_95_1 : fn95.keep 1 = some [0, 2, 4, 7] := rfl
@[simp] theorem keep_95_2 : fn95.keep 2 = some [2, 3, 4] := rfl
@[simp] theorem keep_95_3 : fn95.keep 3 = some [0, 2, 4] := rfl
@[simp] theorem keep_95_4 : fn95.keep 4 = some [0, 2, 3, 4] := rfl
@[simp] theorem keep_95_5 : fn95.keep 5 = some [0, 2, 3, 4, 26] := rfl
@[simp] theorem keep_95_6 : fn95.keep 6 = some [2, 3, 4] := rfl
@[simp] theorem keep_95_7 : fn95.keep 7 = some [2, 3, 4, 35] := rfl
@[simp] theorem keep_95_8 : fn95.keep 8 = some [2, 3, 4] := rfl
@[simp] theorem keep_95_9 : fn95.keep 9 = some [2, 3, 4, 39] := rfl
@[simp] theorem keep_95_10 : fn95.keep 10 = some [2, 3, 4] := rfl
@[simp] theorem keep_95_11 : fn95.keep 11 = some [2, 3, 4] := rfl
@[simp] theorem ntmps_96 : fn96.ntmps = 65 := rfl
@[simp] theorem results_96 : fn96.results = [.tmp 2, .tmp 3, .tmp 4] := rfl
theorem body_96 : fn96.body = c96 := rfl
@[simp] theorem dyn_96 : fn96.dyn = fun _ => [] := id rfl
@[simp] theorem opn_96 : fn96.opn = fun _ => none := id rfl
@[simp] theorem keep_96_0 : fn96.keep 0 = some [0] := rfl
@[simp] theorem keep_96_1 : fn96.keep 1 = some [0, 9] := rfl
@[simp] theorem keep_96_2 : fn96.keep 2 = some [2, 3, 4] := rfl
@[simp] theorem keep_96_3 : fn96.keep 3 = some [0, 13] := rfl
@[simp] theorem keep_96_4 : fn96.keep 4 = some [2, 3, 4] := rfl
@[simp] theorem keep_96_5 : fn96.keep 5 = some [0, 5] := rfl
@[simp] theorem keep_96_6 : fn96.keep 6 = some [0, 5, 6] := rfl
@[simp] theorem keep_96_7 : fn96.keep 7 = some [0, 5, 6, 23] := rfl
@[simp] theorem keep_96_8 : fn96.keep 8 = some [2, 3, 4] := rfl
@[simp] theorem keep_96_9 : fn96.keep 9 = some [0, 5, 6, 30] := rfl
@[simp] theorem keep_96_10 : fn96.keep 10 = some [2, 3, 4] := rfl
@[simp] theorem keep_96_11 : fn96.keep 11 = some [0, 5, 6] := rfl
@[simp] theorem keep_96_12 : fn96.keep 12 = some [0, 2, 6] := rfl
@[simp] theorem keep_96_13 : fn96.keep 13 = some [2, 6, 61] := rfl
@[simp] theorem keep_96_14 : fn96.keep 14 = some [2, 3, 4] := rfl
@[simp] theorem keep_96_15 : fn96.keep 15 = some [2, 3, 4] := rfl
@[simp] theorem ntmps_97 : fn97.ntmps = 9 := rfl
@[simp] theorem results_97 : fn97.results = [.tmp 2] := rfl
theorem body_97 : fn97.body = c97 := rfl
@[simp] theorem dyn_97 : fn97.dyn = fun _ => [] := id rfl
@[simp] theorem opn_97 : fn97.opn = fun _ => none := id rfl
@[simp] theorem keep_97_0 : fn97.keep 0 = some [0] := rfl
@[simp] theorem keep_97_1 : fn97.keep 1 = some [2] := rfl
@[simp] theorem ntmps_98 : fn98.ntmps = 8 := rfl
@[simp] theorem results_98 : fn98.results = [.tmp 2] := rfl
theorem body_98 : fn98.body = c98 := rfl
@[simp] theorem dyn_98 : fn98.dyn = fun _ => [] := id rfl
@[simp] theorem opn_98 : fn98.opn = fun _ => none := id rfl
@[simp] theorem keep_98_0 : fn98.keep 0 = some [0] := rfl
@[simp] theorem keep_98_1 : fn98.keep 1 = some [0, 4] := rfl
@[simp] theorem keep_98_2 : fn98.keep 2 = some [2] := rfl
@[simp] theorem keep_98_3 : fn98.keep 3 = some [2] := rfl
@[simp] theorem ntmps_99 : fn99.ntmps = 9 := rfl
@[simp] theorem results_99 : fn99.results = [.tmp 2] := rfl
theorem body_99 : fn99.body = c99 := rfl
@[simp] theorem dyn_99 : fn99.dyn = fun _ => [] := id rfl
@[simp] theorem opn_99 : fn99.opn = fun _ => none := id rfl
@[simp] theorem keep_99_0 : fn99.keep 0 = some [0] := rfl
@[simp] theorem keep_99_1 : fn99.keep 1 = some [2] := rfl
@[simp] theorem ntmps_100 : fn100.ntmps = 10 := rfl
@[simp] theorem results_100 : fn100.results = [.tmp 4] := rfl
theorem body_100 : fn100.body = c100 := rfl
@[simp] theorem dyn_100 : fn100.dyn = fun _ => [] := id rfl
@[simp] theorem opn_100 : fn100.opn = opnT := id rfl
@[simp] theorem keep_100_0 : fn100.keep 0 = some [2, 3] := rfl
@[simp] theorem keep_100_1 : fn100.keep 1 = some [2, 3, 5] := rfl
@[simp] theorem keep_100_2 : fn100.keep 2 = some [2, 5] := rfl
@[simp] theorem keep_100_3 : fn100.keep 3 = some [4] := rfl
@[simp] theorem ntmps_101 : fn101.ntmps = 47 := rfl
@[simp] theorem results_101 : fn101.results = [.tmp 6] := rfl
theorem body_101 : fn101.body = c101 := rfl
@[simp] theorem dyn_101 : fn101.dyn = fun _ => [] := id rfl
@[simp] theorem opn_101 : fn101.opn = fun _ => none := id rfl
@[simp] theorem keep_101_0 : fn101.keep 0 = some [1, 2, 3, 4] := rfl
@[simp] theorem keep_101_1 : fn101.keep 1 = some [1, 2, 3, 4, 7] := rfl
@[simp] theorem keep_101_2 : fn101.keep 2 = some [1, 2, 3, 4, 7, 12] := rfl
@[simp] theorem keep_101_3 : fn101.keep 3 = some [6] := rfl
@[simp] theorem keep_101_4 : fn101.keep 4 = some [1, 2, 3, 14] := rfl
@[simp] theorem keep_101_5 : fn101.keep 5 = some [6] := rfl
@[simp] theorem keep_101_6 : fn101.keep 6 = some [1, 2, 3, 36] := rfl
@[simp] theorem keep_101_7 : fn101.keep 7 = some [6] := rfl
@[simp] theorem keep_101_8 : fn101.keep 8 = some [1, 2, 3, 39] := rfl
@[simp] theorem keep_101_9 : fn101.keep 9 = some [6] := rfl
@[simp] theorem keep_101_10 : fn101.keep 10 = some [1, 3] := rfl
@[simp] theorem keep_101_11 : fn101.keep 11 = some [] := rfl
@[simp] theorem keep_101_12 : fn101.keep 12 = some [6] := rfl
@[simp] theorem ntmps_102 : fn102.ntmps = 24 := rfl
@[simp] theorem results_102 : fn102.results = [.tmp 2] := rfl
theorem body_102 : fn102.body = c102 := rfl
@[simp] theorem dyn_102 : fn102.dyn = fun _ => [] := id rfl
@[simp] theorem opn_102 : fn102.opn = fun _ => none := id rfl
@[simp] theorem keep_102_0 : fn102.keep 0 = some [1] := rfl
@[simp] theorem keep_102_1 : fn102.keep 1 = some [1, 10] := rfl
@[simp] theorem keep_102_2 : fn102.keep 2 = some [2] := rfl
@[simp] theorem keep_102_3 : fn102.keep 3 = some [1, 13] := rfl
@[simp] theorem keep_102_4 : fn102.keep 4 = some [2] := rfl
@[simp] theorem keep_102_5 : fn102.keep 5 = some [1, 15] := rfl
@[simp] theorem keep_102_6 : fn102.keep 6 = some [1, 15, 16] := rfl
@[simp] theorem keep_102_7 : fn102.keep 7 = some [2] := rfl
@[simp] theorem keep_102_8 : fn102.keep 8 = some [1, 15, 18] := rfl
@[simp] theorem keep_102_9 : fn102.keep 9 = some [1, 18] := rfl
@[simp] theorem keep_102_10 : fn102.keep 10 = some [23] := rfl
@[simp] theorem keep_102_11 : fn102.keep 11 = some [2] := rfl
@[simp] theorem keep_102_12 : fn102.keep 12 = some [2] := rfl
@[simp] theorem ntmps_103 : fn103.ntmps = 22 := rfl
@[simp] theorem results_103 : fn103.results = [.tmp 2] := rfl
theorem body_103 : fn103.body = c103 := rfl
@[simp] theorem dyn_103 : fn103.dyn = fun _ => [] := id rfl
@[simp] theorem opn_103 : fn103.opn = fun _ => none := id rfl
@[simp] theorem keep_103_0 : fn103.keep 0 = some [0] := rfl
@[simp] theorem keep_103_1 : fn103.keep 1 = some [0, 3] := rfl
@[simp] theorem keep_103_2 : fn103.keep 2 = some [0, 3] := rfl
@[simp] theorem keep_103_3 : fn103.keep 3 = some [0, 3, 11] := rfl
@[simp] theorem keep_103_4 : fn103.keep 4 = some [0, 3] := rfl
@[simp] theorem keep_103_5 : fn103.keep 5 = some [0, 3] := rfl
@[simp] theorem keep_103_6 : fn103.keep 6 = some [2] := rfl
@[simp] theorem head_103_3 : fn103.head 3 = some [0, 3] := rfl
@[simp] theorem ntmps_104 : fn104.ntmps = 10 := rfl
@[simp] theorem results_104 : fn104.results = [.tmp 4] := rfl
theorem body_104 : fn104.body = c104 := rfl
@[simp] theorem dyn_104 : fn104.dyn = fun _ => [] := id rfl
@[simp] theorem opn_104 : fn104.opn = fun _ => none := id rfl
@[simp] theorem keep_104_0 : fn104.keep 0 = some [0, 1] := rfl
@[simp] theorem keep_104_1 : fn104.keep 1 = some [4] := rfl
@[simp] theorem ntmps_105 : fn105.ntmps = 32 := rfl
@[simp] theorem results_105 : fn105.results = [.tmp 6] := rfl
theorem body_105 : fn105.body = c105 := rfl
@[simp] theorem dyn_105 : fn105.dyn = fun _ => [] := id rfl
@[simp] theorem opn_105 : fn105.opn = opnT := id rfl
@[simp] theorem keep_105_0 : fn105.keep 0 = some [0, 1, 2] := rfl
@[simp] theorem keep_105_1 : fn105.keep 1 = some [0, 1, 2, 14] := rfl
@[simp] theorem keep_105_2 : fn105.keep 2 = some [6] := rfl
@[simp] theorem keep_105_3 : fn105.keep 3 = some [1, 2, 15, 16, 17] := rfl
@[simp] theorem keep_105_4 : fn105.keep 4 = some [1, 2, 15, 16, 17, 18] := rfl
@[simp] theorem keep_105_5 : fn105.keep 5 = some [1, 2, 7, 8, 15, 16, 17] := rfl
@[simp] theorem keep_105_6 : fn105.keep 6 = some [1, 2, 8, 9, 15, 16, 17] := rfl
@[simp] theorem keep_105_7 : fn105.keep 7 = some [1, 2, 15, 16, 17, 30] := rfl
@[simp] theorem keep_105_8 : fn105.keep 8 = some [6] := rfl
@[simp] theorem keep_105_9 : fn105.keep 9 = some [1, 2, 15, 16, 17] := rfl
@[simp] theorem keep_105_10 : fn105.keep 10 = some [6] := rfl
@[simp] theorem head_105_4 : fn105.head 4 = some [1, 2, 15, 16, 17] := rfl
@[simp] theorem ntmps_110 : fn110.ntmps = 12 := rfl
@[simp] theorem results_110 : fn110.results = [.tmp 2] := rfl
theorem body_110 : fn110.body = c110 := rfl
@[simp] theorem dyn_110 : fn110.dyn = fun _ => [] := id rfl
@[simp] theorem opn_110 : fn110.opn = fun _ => none := id rfl
@[simp] theorem keep_110_0 : fn110.keep 0 = some [0] := rfl
@[simp] theorem keep_110_1 : fn110.keep 1 = some [3] := rfl
@[simp] theorem keep_110_2 : fn110.keep 2 = some [2] := rfl
@[simp] theorem ntmps_111 : fn111.ntmps = 4 := rfl
@[simp] theorem results_111 : fn111.results = [.tmp 2] := rfl
theorem body_111 : fn111.body = c111 := rfl
@[simp] theorem dyn_111 : fn111.dyn = fun _ => [] := id rfl
@[simp] theorem opn_111 : fn111.opn = fun _ => none := id rfl
@[simp] theorem keep_111_0 : fn111.keep 0 = some [1] := rfl
@[simp] theorem keep_111_1 : fn111.keep 1 = some [2] := rfl
@[simp] theorem ntmps_112 : fn112.ntmps = 43 := rfl
@[simp] theorem results_112 : fn112.results = [.tmp 2, .tmp 3, .tmp 4] := rfl
theorem body_112 : fn112.body = c112 := rfl
@[simp] theorem dyn_112 : fn112.dyn = fun _ => [] := id rfl
@[simp] theorem opn_112 : fn112.opn = fun _ => none := id rfl
@[simp] theorem keep_112_0 : fn112.keep 0 = some [0, 2] := rfl
@[simp] theorem keep_112_1 : fn112.keep 1 = some [0, 2, 3] := rfl
@[simp] theorem keep_112_2 : fn112.keep 2 = some [0, 2, 3] := rfl
@[simp] theorem keep_112_3 : fn112.keep 3 = some [0, 2, 3, 11] := rfl
@[simp] theorem keep_112_4 : fn112.keep 4 = some [2, 3, 4] := rfl
@[simp] theorem keep_112_5 : fn112.keep 5 = some [0, 2, 3, 5] := rfl
@[simp] theorem keep_112_6 : fn112.keep 6 = some [0, 2, 3, 5, 29] := rfl
@[simp] theorem keep_112_7 : fn112.keep 7 = some [2, 3, 4] := rfl
@[simp] theorem keep_112_8 : fn112.keep 8 = some [0, 2, 3, 5] := rfl
@[simp] theorem keep_112_9 : fn112.keep 9 = some [0, 2, 3, 37] := rfl
@[simp] theorem keep_112_10 : fn112.keep 10 = some [2, 3, 39] := rfl
@[simp] theorem keep_112_11 : fn112.keep 11 = some [2, 3, 4] := rfl
@[simp] theorem keep_112_12 : fn112.keep 12 = some [2, 3, 4] := rfl
@[simp] theorem head_112_3 : fn112.head 3 = some [0, 2, 3] := rfl
@[simp] theorem ntmps_113 : fn113.ntmps = 34 := rfl
@[simp] theorem results_113 : fn113.results = [.tmp 6] := rfl
theorem body_113 : fn113.body = c113 := rfl
@[simp] theorem dyn_113 : fn113.dyn = fun _ => [] := id rfl
@[simp] theorem opn_113 : fn113.opn = opnT := id rfl
@[simp] theorem keep_113_0 : fn113.keep 0 = some [1, 2, 3, 4] := rfl
@[simp] theorem keep_113_1 : fn113.keep 1 = some [1, 3, 4, 7] := rfl
@[simp] theorem keep_113_2 : fn113.keep 2 = some [1, 3, 4, 7, 16] := rfl
@[simp] theorem keep_113_3 : fn113.keep 3 = some [6] := rfl
@[simp] theorem keep_113_4 : fn113.keep 4 = some [1, 3, 19, 20, 21] := rfl
@[simp] theorem keep_113_5 : fn113.keep 5 = some [1, 3, 19, 20, 21, 22] := rfl
@[simp] theorem keep_113_6 : fn113.keep 6 = some [1, 3, 9, 19, 20, 21] := rfl
@[simp] theorem keep_113_7 : fn113.keep 7 = some [1, 3, 10, 19, 20, 21] := rfl
@[simp] theorem keep_113_8 : fn113.keep 8 = some [1, 3, 10, 19, 20, 21, 31] := rfl
@[simp] theorem keep_113_9 : fn113.keep 9 = some [6] := rfl
@[simp] theorem keep_113_10 : fn113.keep 10 = some [1, 3, 19, 20, 21] := rfl
@[simp] theorem keep_113_11 : fn113.keep 11 = some [6] := rfl
@[simp] theorem head_113_5 : fn113.head 5 = some [1, 3, 19, 20, 21] := rfl
@[simp] theorem ntmps_114 : fn114.ntmps = 29 := rfl
@[simp] theorem results_114 : fn114.results = [] := rfl
theorem body_114 : fn114.body = c114 := rfl
@[simp] theorem dyn_114 : fn114.dyn = fun _ => [] := id rfl
@[simp] theorem opn_114 : fn114.opn = opnT := id rfl
@[simp] theorem keep_114_0 : fn114.keep 0 = some [0, 1, 3] := rfl
@[simp] theorem keep_114_1 : fn114.keep 1 = some [0, 1, 3, 9] := rfl
@[simp] theorem keep_114_2 : fn114.keep 2 = some [0, 1, 3] := rfl
@[simp] theorem keep_114_3 : fn114.keep 3 = some [0, 1, 3, 13] := rfl
@[simp] theorem keep_114_4 : fn114.keep 4 = some [0, 1, 3] := rfl
@[simp] theorem keep_114_5 : fn114.keep 5 = some [0, 1, 3, 4] := rfl
@[simp] theorem keep_114_6 : fn114.keep 6 = some [0, 1, 3, 4, 22] := rfl
@[simp] theorem keep_114_7 : fn114.keep 7 = some [0, 1, 3, 4] := rfl
@[simp] theorem keep_114_8 : fn114.keep 8 = some [0, 1, 3, 28] := rfl
@[simp] theorem head_114_1 : fn114.head 1 = some [0, 1, 3] := rfl
@[simp] theorem head_114_3 : fn114.head 3 = some [0, 1, 3] := rfl
@[simp] theorem E_fn3 : E.fn 3 = some fn3 := rfl
@[simp] theorem E_grd3 : E.grd 3 = none := id rfl
@[simp] theorem opnT_3 : opnT 3 = none := id rfl
@[simp] theorem E_fn4 : E.fn 4 = some fn4 := rfl
@[simp] theorem E_grd4 : E.grd 4 = none := id rfl
@[simp] theorem opnT_4 : opnT 4 = none := id rfl
@[simp] theorem E_fn5 : E.fn 5 = some fn5 := rfl
@[simp] theorem E_grd5 : E.grd 5 = none := id rfl
@[simp] theorem opnT_5 : opnT 5 = none := id rfl
@[simp] theorem E_fn9 : E.fn 9 = some fn9 := rfl
@[simp] theorem E_grd9 : E.grd 9 = none := id rfl
@[simp] theorem opnT_9 : opnT 9 = none := id rfl
@[simp] theorem E_fn18 : E.fn 18 = some fn18 := rfl
@[simp] theorem E_grd18 : E.grd 18 = none := id rfl
@[simp] theorem opnT_18 : opnT 18 = none := id rfl
@[simp] theorem E_fn19 : E.fn 19 = some fn19 := rfl
@[simp] theorem E_grd19 : E.grd 19 = none := id rfl
@[simp] theorem opnT_19 : opnT 19 = none := id rfl
@[simp] theorem E_fn20 : E.fn 20 = some fn20 := rfl
@[simp] theorem E_grd20 : E.grd 20 = none := id rfl
@[simp] theorem opnT_20 : opnT 20 = none := id rfl
@[simp] theorem E_fn21 : E.fn 21 = some fn21 := rfl
@[simp] theorem E_grd21 : E.grd 21 = none := id rfl
@[simp] theorem opnT_21 : opnT 21 = none := id rfl
@[simp] theorem E_fn22 : E.fn 22 = some fn22 := rfl
@[simp] theorem E_grd22 : E.grd 22 = none := id rfl
@[simp] theorem opnT_22 : opnT 22 = none := id rfl
@[simp] theorem E_fn23 : E.fn 23 = some fn23 := rfl
@[simp] theorem E_grd23 : E.grd 23 = some grd23 := id rfl
@[simp] theorem opnT_23 : opnT 23 = none := id rfl
@[simp] theorem E_fn24 : E.fn 24 = some fn24 := rfl
@[simp] theorem E_grd24 : E.grd 24 = none := id rfl
@[simp] theorem opnT_24 : opnT 24 = none := id rfl
@[simp] theorem E_fn25 : E.fn 25 = some fn25 := rfl
@[simp] theorem E_grd25 : E.grd 25 = none := id rfl
@[simp] theorem opnT_25 : opnT 25 = none := id rfl
@[simp] theorem E_fn26 : E.fn 26 = some fn26 := rfl
@[simp] theorem E_grd26 : E.grd 26 = none := id rfl
@[simp] theorem opnT_26 : opnT 26 = none := id rfl
@[simp] theorem E_fn27 : E.fn 27 = some fn27 := rfl
@[simp] theorem E_grd27 : E.grd 27 = none := id rfl
@[simp] theorem opnT_27 : opnT 27 = none := id rfl
@[simp] theorem E_fn28 : E.fn 28 = some fn28 := rfl
@[simp] theorem E_grd28 : E.grd 28 = none := id rfl
@[simp] theorem opnT_28 : opnT 28 = none := id rfl
@[simp] theorem E_fn29 : E.fn 29 = some fn29 := rfl
@[simp] theorem E_grd29 : E.grd 29 = none := id rfl
@[simp] theorem opnT_29 : opnT 29 = none := id rfl
@[simp] theorem E_fn30 : E.fn 30 = some fn30 := rfl
@[simp] theorem E_grd30 : E.grd 30 = none := id rfl
@[simp] theorem opnT_30 : opnT 30 = none := id rfl
@[simp] theorem E_fn32 : E.fn 32 = some fn32 := rfl
@[simp] theorem E_grd32 : E.grd 32 = none := id rfl
@[simp] theorem opnT_32 : opnT 32 = none := id rfl
@[simp] theorem E_fn34 : E.fn 34 = some fn34 := rfl
@[simp] theorem E_grd34 : E.grd 34 = none := id rfl
@[simp] theorem opnT_34 : opnT 34 = none := id rfl
@[simp] theorem E_fn35 : E.fn 35 = some fn35 := rfl
@[simp] theorem E_grd35 : E.grd 35 = none := id rfl
@[simp] theorem opnT_35 : opnT 35 = none := id rfl
@[simp] theorem E_fn36 : E.fn 36 = some fn36 := rfl
@[simp] theorem E_grd36 : E.grd 36 = none := id rfl
@[simp] theorem opnT_36 : opnT 36 = none := id rfl
@[simp] theorem E_fn37 : E.fn 37 = some fn37 := rfl
@[simp] theorem E_grd37 : E.grd 37 = none := id rfl
@[simp] theorem opnT_37 : opnT 37 = none := id rfl
@[simp] theorem E_fn38 : E.fn 38 = some fn38 := rfl
@[simp] theorem E_grd38 : E.grd 38 = none := id rfl
@[simp] theorem opnT_38 : opnT 38 = none := id rfl
@[simp] theorem E_fn39 : E.fn 39 = some fn39 := rfl
@[simp] theorem E_grd39 : E.grd 39 = none := id rfl
@[simp] theorem opnT_39 : opnT 39 = none := id rfl
@[simp] theorem E_fn40 : E.fn 40 = some fn40 := rfl
@[simp] theorem E_grd40 : E.grd 40 = none := id rfl
@[simp] theorem opnT_40 : opnT 40 = none := id rfl
@[simp] theorem E_fn41 : E.fn 41 = some fn41 := rfl
@[simp] theorem E_grd41 : E.grd 41 = none := id rfl
@[simp] theorem opnT_41 : opnT 41 = none := id rfl
@[simp] theorem E_fn68 : E.fn 68 = some fn68 := rfl
@[simp] theorem E_grd68 : E.grd 68 = none := id rfl
@[simp] theorem opnT_68 : opnT 68 = none := id rfl
@[simp] theorem E_fn69 : E.fn 69 = some fn69 := rfl
@[simp] theorem E_grd69 : E.grd 69 = none := id rfl
@[simp] theorem opnT_69 : opnT 69 = none := id rfl
@[simp] theorem E_fn70 : E.fn 70 = some fn70 := rfl
@[simp] theorem E_grd70 : E.grd 70 = none := id rfl
@[simp] theorem opnT_70 : opnT 70 = some ([true, false], false) := id rfl
@[simp] theorem E_fn71 : E.fn 71 = some fn71 := rfl
@[simp] theorem E_grd71 : E.grd 71 = none := id rfl
@[simp] theorem opnT_71 : opnT 71 = none := id rfl
@[simp] theorem E_fn72 : E.fn 72 = some fn72 := rfl
@[simp] theorem E_grd72 : E.grd 72 = none := id rfl
@[simp] theorem opnT_72 : opnT 72 = some ([true, true, true, true], true) := id rfl
@[simp] theorem E_fn73 : E.fn 73 = some fn73 := rfl
@[simp] theorem E_grd73 : E.grd 73 = none := id rfl
@[simp] theorem opnT_73 : opnT 73 = some ([true, false, false, false], true) := id rfl
@[simp] theorem E_fn74 : E.fn 74 = some fn74 := rfl
@[simp] theorem E_grd74 : E.grd 74 = none := id rfl
@[simp] theorem opnT_74 : opnT 74 = none := id rfl
@[simp] theorem E_fn75 : E.fn 75 = some fn75 := rfl
@[simp] theorem E_grd75 : E.grd 75 = none := id rfl
@[simp] theorem opnT_75 : opnT 75 = none := id rfl
@[simp] theorem E_fn76 : E.fn 76 = some fn76 := rfl
@[simp] theorem E_grd76 : E.grd 76 = none := id rfl
@[simp] theorem opnT_76 : opnT 76 = some ([false], false) := id rfl
@[simp] theorem E_fn77 : E.fn 77 = some fn77 := rfl
@[simp] theorem E_grd77 : E.grd 77 = none := id rfl
@[simp] theorem opnT_77 : opnT 77 = none := id rfl
@[simp] theorem E_fn78 : E.fn 78 = some fn78 := rfl
@[simp] theorem E_grd78 : E.grd 78 = none := id rfl
@[simp] theorem opnT_78 : opnT 78 = none := id rfl
@[simp] theorem E_fn79 : E.fn 79 = some fn79 := rfl
@[simp] theorem E_grd79 : E.grd 79 = none := id rfl
@[simp] theorem opnT_79 : opnT 79 = none := id rfl
@[simp] theorem E_fn80 : E.fn 80 = some fn80 := rfl
@[simp] theorem E_grd80 : E.grd 80 = none := id rfl
@[simp] theorem opnT_80 : opnT 80 = none := id rfl
@[simp] theorem E_fn88 : E.fn 88 = some fn88 := rfl
@[simp] theorem E_grd88 : E.grd 88 = none := id rfl
@[simp] theorem opnT_88 : opnT 88 = none := id rfl
@[simp] theorem E_fn89 : E.fn 89 = some fn89 := rfl
@[simp] theorem E_grd89 : E.grd 89 = none := id rfl
@[simp] theorem opnT_89 : opnT 89 = none := id rfl
@[simp] theorem E_fn90 : E.fn 90 = some fn90 := rfl
@[simp] theorem E_grd90 : E.grd 90 = none := id rfl
@[simp] theorem opnT_90 : opnT 90 = none := id rfl
@[simp] theorem E_fn91 : E.fn 91 = some fn91 := rfl
@[simp] theorem E_grd91 : E.grd 91 = none := id rfl
@[simp] theorem opnT_91 : opnT 91 = none := id rfl
@[simp] theorem E_fn92 : E.fn 92 = some fn92 := rfl
@[simp] theorem E_grd92 : E.grd 92 = none := id rfl
@[simp] theorem opnT_92 : opnT 92 = none := id rfl
@[simp] theorem E_fn93 : E.fn 93 = some fn93 := rfl
@[simp] theorem E_grd93 : E.grd 93 = none := id rfl
@[simp] theorem opnT_93 : opnT 93 = none := id rfl
@[simp] theorem E_fn94 : E.fn 94 = some fn94 := rfl
@[simp] theorem E_grd94 : E.grd 94 = none := id rfl
@[simp] theorem opnT_94 : opnT 94 = none := id rfl
@[simp] theorem E_fn95 : E.fn 95 = some fn95 := rfl
@[simp] theorem E_grd95 : E.grd 95 = none := id rfl
@[simp] theorem opnT_95 : opnT 95 = none := id rfl
@[simp] theorem E_fn96 : E.fn 96 = some fn96 := rfl
@[simp] theorem E_grd96 : E.grd 96 = none := id rfl
@[simp] theorem opnT_96 : opnT 96 = none := id rfl
@[simp] theorem E_fn97 : E.fn 97 = some fn97 := rfl
@[simp] theorem E_grd97 : E.grd 97 = none := id rfl
@[simp] theorem opnT_97 : opnT 97 = none := id rfl
@[simp] theorem E_fn98 : E.fn 98 = some fn98 := rfl
@[simp] theorem E_grd98 : E.grd 98 = none := id rfl
@[simp] theorem opnT_98 : opnT 98 = none := id rfl
@[simp] theorem E_fn99 : E.fn 99 = some fn99 := rfl
@[simp] theorem E_grd99 : E.grd 99 = none := id rfl
@[simp] theorem opnT_99 : opnT 99 = none := id rfl
@[simp] theorem E_fn100 : E.fn 100 = some fn100 := rfl
@[simp] theorem E_grd100 : E.grd 100 = none := id rfl
@[simp] theorem opnT_100 : opnT 100 = some ([false, true], true) := id rfl
@[simp] theorem E_fn101 : E.fn 101 = some fn101 := rfl
@[simp] theorem E_grd101 : E.grd 101 = none := id rfl
@[simp] theorem opnT_101 : opnT 101 = some ([false, false, true, true], true) := id rfl
@[simp] theorem E_fn102 : E.fn 102 = some fn102 := rfl
@[simp] theorem E_grd102 : E.grd 102 = none := id rfl
@[simp] theorem opnT_102 : opnT 102 = none := id rfl
@[simp] theorem E_fn103 : E.fn 103 = some fn103 := rfl
@[simp] theorem E_grd103 : E.grd 103 = none := id rfl
@[simp] theorem opnT_103 : opnT 103 = none := id rfl
@[simp] theorem E_fn104 : E.fn 104 = some fn104 := rfl
@[simp] theorem E_grd104 : E.grd 104 = none := id rfl
@[simp] theorem opnT_104 : opnT 104 = none := id rfl
@[simp] theorem E_fn105 : E.fn 105 = some fn105 := rfl
@[simp] theorem E_grd105 : E.grd 105 = none := id rfl
@[simp] theorem opnT_105 : opnT 105 = some ([false, false, true], true) := id rfl
@[simp] theorem E_fn110 : E.fn 110 = some fn110 := rfl
@[simp] theorem E_grd110 : E.grd 110 = none := id rfl
@[simp] theorem opnT_110 : opnT 110 = none := id rfl
@[simp] theorem E_fn111 : E.fn 111 = some fn111 := rfl
@[simp] theorem E_grd111 : E.grd 111 = none := id rfl
@[simp] theorem opnT_111 : opnT 111 = none := id rfl
@[simp] theorem E_fn112 : E.fn 112 = some fn112 := rfl
@[simp] theorem E_grd112 : E.grd 112 = none := id rfl
@[simp] theorem opnT_112 : opnT 112 = none := id rfl
@[simp] theorem E_fn113 : E.fn 113 = some fn113 := rfl
@[simp] theorem E_grd113 : E.grd 113 = none := id rfl
@[simp] theorem opnT_113 : opnT 113 = some ([false, false, true, true], true) := id rfl
@[simp] theorem E_fn114 : E.fn 114 = some fn114 := rfl
@[simp] theorem E_grd114 : E.grd 114 = none := id rfl
@[simp] theorem opnT_114 : opnT 114 = some ([true, true], true) := id rfl
@[simp] theorem E_ty1 : E.ty 1 = some ⟨.func, 1, 8, [.nilf], false⟩ := rfl
@[simp] theorem E_ty2 : E.ty 2 = some ⟨.int .i64, 1, 8, [.int .i64 0], false⟩ := rfl
@[simp] theorem E_ty3 : E.ty 3 = some ⟨.int .i64, 1, 8, [.int .i64 0], false⟩ := rfl
@[simp] theorem E_ty4 : E.ty 4 = some ⟨.bool, 1, 1, [.bool false], false⟩ := rfl
@[simp] theorem E_ty5 : E.ty 5 = some ⟨.int .u8, 1, 1, [.int .u8 0], false⟩ := rfl
@[simp] theorem E_ty6 : E.ty 6 = some ⟨.int .u8, 1, 1, [.int .u8 0], false⟩ := rfl
@[simp] theorem E_ty7 : E.ty 7 = some ⟨.strct [(0, 2), (1, 3), (2, 4), (3, 6)], 4, 24, [.int .i64 0, .int .i64 0, .bool false, .int .u8 0], false⟩ := rfl
@[simp] theorem E_ty8 : E.ty 8 = some ⟨.strct [(0, 2), (1, 3), (2, 4), (3, 6)], 4, 24, [.int .i64 0, .int .i64 0, .bool false, .int .u8 0], false⟩ := rfl
@[simp] theorem E_ty9 : E.ty 9 = some ⟨.str, 1, 16, [.str []], false⟩ := rfl
@[simp] theorem E_ty10 : E.ty 10 = some ⟨.str, 1, 16, [.str []], false⟩ := rfl
@[simp] theorem E_ty11 : E.ty 11 = some ⟨.str, 1, 16, [.str []], false⟩ := rfl
@[simp] theorem E_ty12 : E.ty 12 = some ⟨.int .u64, 1, 8, [.int .u64 0], false⟩ := rfl
@[simp] theorem E_ty13 : E.ty 13 = some ⟨.strct [(0, 9), (1, 12)], 2, 24, [.str [], .int .u64 0], false⟩ := rfl
@[simp] theorem E_ty14 : E.ty 14 = some ⟨.strct [(0, 9), (1, 12)], 2, 24, [.str [], .int .u64 0], false⟩ := rfl
@[simp] theorem E_ty15 : E.ty 15 = some ⟨.ptr 162, 1, 8, [.nilp], false⟩ := rfl
@[simp] theorem E_ty16 : E.ty 16 = some ⟨.ptr 165, 1, 8, [.nilp], false⟩ := rfl
@[simp] theorem E_ty17 : E.ty 17 = some ⟨.ptr 174, 1, 8, [.nilp], false⟩ := rfl
@[simp] theorem E_ty18 : E.ty 18 = some ⟨.strct [(0, 17)], 1, 8, [.nilp], false⟩ := rfl
@[simp] theorem E_ty19 : E.ty 19 = some ⟨.strct [(0, 17)], 1, 8, [.nilp], false⟩ := rfl
@[simp] theorem E_ty20 : E.ty 20 = some ⟨.iface true, 1, 16, [.nili], false⟩ := rfl
@[simp] theorem E_ty21 : E.ty 21 = some ⟨.int .i32, 1, 4, [.int .i32 0], false⟩ := rfl
@[simp] theorem E_ty22 : E.ty 22 = some ⟨.slice 5, 1, 24, [.sl true [] (some 0)], false⟩ := rfl
@[simp] theorem E_ty23 : E.ty 23 = some ⟨.func, 1, 8, [.nilf], false⟩ := rfl
@[simp] theorem E_ty24 : E.ty 24 = some ⟨.int .u8, 1, 1, [.int .u8 0], false⟩ := rfl
@[simp] theorem E_ty25 : E.ty 25 = some ⟨.int .u32, 1, 4, [.int .u32 0], false⟩ := rfl
@[simp] theorem E_ty26 : E.ty 26 = some ⟨.strct [(0, 24), (1, 4), (2, 25)], 3, 8, [.int .u8 0, .bool false, .int .u32 0], false⟩ := rfl
@[simp] theorem E_ty27 : E.ty 27 = some ⟨.strct [(0, 24), (1, 4), (2, 25)], 3, 8, [.int .u8 0, .bool false, .int .u32 0], true⟩ := rfl
@[simp] theorem E_ty28 : E.ty 28 = some ⟨.slice 30, 1, 24, [.sl true [] (some 0)], false⟩ := rfl
@[simp] theorem E_ty29 : E.ty 29 = some ⟨.strct [(0, 27), (3, 22), (4, 28)], 5, 56, [.int .u8 0, .bool false, .int .u32 0, .sl true [] (some 0), .sl true [] (some 0)], false⟩ := rfl
@[simp] theorem E_ty30 : E.ty 30 = some ⟨.strct [(0, 27), (3, 22), (4, 28)], 5, 56, [.int .u8 0, .bool false, .int .u32 0, .sl true [] (some 0), .sl true [] (some 0)], false⟩ := rfl
@[simp] theorem E_ty32 : E.ty 32 = some ⟨.func, 1, 8, [.nilf], false⟩ := rfl
@[simp] theorem E_ty33 : E.ty 33 = some ⟨.func, 1, 8, [.nilf], false⟩ := rfl
@[simp] theorem E_ty34 : E.ty 34 = some ⟨.int .i64, 1, 8, [.int .i64 0], false⟩ := rfl
@[simp] theorem E_ty36 : E.ty 36 = some ⟨.func, 1, 8, [.nilf], false⟩ := rfl
@[simp] theorem E_ty37 : E.ty 37 = some ⟨.func, 1, 8, [.nilf], false⟩ := rfl
@[simp] theorem E_ty38 : E.ty 38 = some ⟨.slice 107, 1, 24, [.sl true [] (some 0)], false⟩ := rfl
@[simp] theorem E_ty39 : E.ty 39 = some ⟨.strct [(0, 38)], 1, 24, [.sl true [] (some 0)], false⟩ := rfl
@[simp] theorem E_ty40 : E.ty 40 = some ⟨.strct [(0, 38)], 1, 24, [.sl true [] (some 0)], false⟩ := rfl
@[simp] theorem E_ty41 : E.ty 41 = some ⟨.int .u16, 1, 2, [.int .u16 0], false⟩ := rfl
@[simp] theorem E_ty42 : E.ty 42 = some ⟨.func, 1, 8, [.nilf], false⟩ := rfl
@[simp] theorem E_ty44 : E.ty 44 = some ⟨.func, 1, 8, [.nilf], false⟩ := rfl
@[simp] theorem E_ty45 : E.ty 45 = some ⟨.func, 1, 8, [.nilf], false⟩ := rfl
@[simp] theorem E_ty46 : E.ty 46 = some ⟨.func, 1, 8, [.nilf], false⟩ := rfl
@[simp] theorem E_ty47 : E.ty 47 = some ⟨.slice 3, 1, 24, [.sl true [] (some 0)], false⟩ := rfl
@[simp] theorem E_ty49 : E.ty 49 = some ⟨.func, 1, 8, [.nilf], false⟩ := rfl
@[simp] theorem E_ty50 : E.ty 50 = some ⟨.func, 1, 8, [.nilf], false⟩ := rfl
@[simp] theorem E_ty51 : E.ty 51 = some ⟨.func, 1, 8, [.nilf], false⟩ := rfl
@[simp] theorem E_ty52 : E.ty 52 = some ⟨.func, 1, 8, [.nilf], false⟩ := rfl
@[simp] theorem E_ty53 : E.ty 53 = some ⟨.func, 1, 8, [.nilf], false⟩ := rfl
@[simp] theorem E_ty54 : E.ty 54 = some ⟨.func, 1, 8, [.nilf], false⟩ := rfl
@[simp] theorem E_ty55 : E.ty 55 = some ⟨.func, 1, 8, [.nilf], false⟩ := rfl
@[simp] theorem E_ty57 : E.ty 57 = some ⟨.func, 1, 8, [.nilf], false⟩ := rfl
@[simp] theorem E_ty58 : E.ty 58 = some ⟨.func, 1, 8, [.nilf], false⟩ := rfl
@[simp] theorem E_ty59 : E.ty 59 = some ⟨.func, 1, 8, [.nilf], false⟩ := rfl
@[simp] theorem E_ty60 : E.ty 60 = some ⟨.func, 1, 8, [.nilf], false⟩ := rfl
@[simp] theorem E_ty61 : E.ty 61 = some ⟨.func, 1, 8, [.nilf], false⟩ := rfl
@[simp] theorem E_ty63 : E.ty 63 = some ⟨.func, 1, 8, [.nilf], false⟩ := rfl
@[simp] theorem E_ty64 : E.ty 64 = some ⟨.strct [(0, 22)], 1, 24, [.sl true [] (some 0)], false⟩ := rfl
@[simp] theorem E_ty65 : E.ty 65 = some ⟨.strct [(0, 22)], 1, 24, [.sl true [] (some 0)], false⟩ := rfl
@[simp] theorem E_ty66 : E.ty 66 = some ⟨.slice 125, 1, 24, [.sl true [] (some 0)], false⟩ := rfl
@[simp] theorem E_ty67 : E.ty 67 = some ⟨.slice 78, 1, 24, [.sl true [] (some 0)], false⟩ := rfl
@[simp] theorem E_ty68 : E.ty 68 = some ⟨.func, 1, 8, [.nilf], false⟩ := rfl
@[simp] theorem E_ty69 : E.ty 69 = some ⟨.func, 1, 8, [.nilf], false⟩ := rfl
@[simp] theorem E_ty70 : E.ty 70 = some ⟨.strct [(0, 47), (1, 34)], 2, 32, [.sl true [] (some 0), .int .i64 0], false⟩ := rfl
@[simp] theorem E_ty71 : E.ty 71 = some ⟨.strct [(0, 47), (1, 34)], 2, 32, [.sl true [] (some 0), .int .i64 0], false⟩ := rfl
@[simp] theorem E_ty73 : E.ty 73 = some ⟨.func, 1, 8, [.nilf], false⟩ := rfl
@[simp] theorem E_ty74 : E.ty 74 = some ⟨.func, 1, 8, [.nilf], false⟩ := rfl
@[simp] theorem E_ty75 : E.ty 75 = some ⟨.func, 1, 8, [.nilf], false⟩ := rfl
@[simp] theorem E_ty76 : E.ty 76 = some ⟨.func, 1, 8, [.nilf], false⟩ := rfl
@[simp] theorem E_ty77 : E.ty 77 = some ⟨.strct [(0, 27), (3, 4), (4, 4)], 5, 12, [.int .u8 0, .bool false, .int .u32 0, .bool false, .bool false], false⟩ := rfl
@[simp] theorem E_ty78 : E.ty 78 = some ⟨.strct [(0, 27), (3, 4), (4, 4)], 5, 12, [.int .u8 0, .bool false, .int .u32 0, .bool false, .bool false], false⟩ := rfl
@[simp] theorem E_ty79 : E.ty 79 = some ⟨.func, 1, 8, [.nilf], false⟩ := rfl
@[simp] theorem E_ty80 : E.ty 80 = some ⟨.func, 1, 8, [.nilf], false⟩ := rfl
@[simp] theorem E_ty81 : E.ty 81 = some ⟨.func, 1, 8, [.nilf], false⟩ := rfl
@[simp] theorem E_ty82 : E.ty 82 = some ⟨.arr 2 3, 2, 16, [.int .i64 0, .int .i64 0], false⟩ := rfl
@[simp] theorem E_ty83 : E.ty 83 = some ⟨.func, 1, 8, [.nilf], false⟩ := rfl
@[simp] theorem E_ty85 : E.ty 85 = some ⟨.func, 1, 8, [.nilf], false⟩ := rfl
@[simp] theorem E_ty86 : E.ty 86 = some ⟨.func, 1, 8, [.nilf], false⟩ := rfl
@[simp] theorem E_ty87 : E.ty 87 = some ⟨.func, 1, 8, [.nilf], false⟩ := rfl
@[simp] theorem E_ty88 : E.ty 88 = some ⟨.func, 1, 8, [.nilf], false⟩ := rfl
@[simp] theorem E_ty89 : E.ty 89 = some ⟨.func, 1, 8, [.nilf], false⟩ := rfl
@[simp] theorem E_ty90 : E.ty 90 = some ⟨.func, 1, 8, [.nilf], false⟩ := rfl
@[simp] theorem E_ty92 : E.ty 92 = some ⟨.func, 1, 8, [.nilf], false⟩ := rfl
@[simp] theorem E_ty93 : E.ty 93 = some ⟨.func, 1, 8, [.nilf], false⟩ := rfl
@[simp] theorem E_ty94 : E.ty 94 = some ⟨.func, 1, 8, [.nilf], false⟩ := rfl
@[simp] theorem E_ty95 : E.ty 95 = some ⟨.func, 1, 8, [.nilf], false⟩ := rfl
@[simp] theorem E_ty96 : E.ty 96 = some ⟨.func, 1, 8, [.nilf], false⟩ := rfl
@[simp] theorem E_ty97 : E.ty 97 = some ⟨.ptr 3, 1, 8, [.nilp], false⟩ := rfl
@[simp] theorem E_ty98 : E.ty 98 = some ⟨.func, 1, 8, [.nilf], false⟩ := rfl
@[simp] theorem E_ty99 : E.ty 99 = some ⟨.func, 1, 8, [.nilf], false⟩ := rfl
@[simp] theorem E_ty100 : E.ty 100 = some ⟨.func, 1, 8, [.nilf], false⟩ := rfl
@[simp] theorem E_ty102 : E.ty 102 = some ⟨.func, 1, 8, [.nilf], false⟩ := rfl
@[simp] theorem E_ty103 : E.ty 103 = some ⟨.func, 1, 8, [.nilf], false⟩ := rfl
@[simp] theorem E_ty104 : E.ty 104 = some ⟨.strct [(0, 5), (1, 5), (2, 25)], 3, 8, [.int .u8 0, .int .u8 0, .int .u32 0], false⟩ := rfl
@[simp] theorem E_ty105 : E.ty 105 = some ⟨.strct [(0, 5), (1, 5), (2, 25)], 3, 8, [.int .u8 0, .int .u8 0, .int .u32 0], false⟩ := rfl
@[simp] theorem E_ty106 : E.ty 106 = some ⟨.strct [(0, 5), (1, 5), (2, 105), (5, 22)], 6, 40, [.int .u8 0, .int .u8 0, .int .u8 0, .int .u8 0, .int .u32 0, .sl true [] (some 0)], false⟩ := rfl
@[simp] theorem E_ty107 : E.ty 107 = some ⟨.strct [(0, 5), (1, 5), (2, 105), (5, 22)], 6, 40, [.int .u8 0, .int .u8 0, .int .u8 0, .int .u8 0, .int .u32 0, .sl true [] (some 0)], false⟩ := rfl
@[simp] theorem E_ty108 : E.ty 108 = some ⟨.func, 1, 8, [.nilf], false⟩ := rfl
@[simp] theorem E_ty109 : E.ty 109 = some ⟨.strct [(0, 3), (1, 34)], 2, 16, [.int .i64 0, .int .i64 0], false⟩ := rfl
@[simp] theorem E_ty110 : E.ty 110 = some ⟨.strct [(0, 3), (1, 34)], 2, 16, [.int .i64 0, .int .i64 0], false⟩ := rfl
@[simp] theorem E_ty112 : E.ty 112 = some ⟨.strct [(0, 22), (1, 3)], 2, 32, [.sl true [] (some 0), .int .i64 0], false⟩ := rfl
@[simp] theorem E_ty113 : E.ty 113 = some ⟨.strct [(0, 22), (1, 3)], 2, 32, [.sl true [] (some 0), .int .i64 0], false⟩ := rfl
@[simp] theorem E_ty115 : E.ty 115 = some ⟨.func, 1, 8, [.nilf], false⟩ := rfl
@[simp] theorem E_ty117 : E.ty 117 = some ⟨.func, 1, 8, [.nilf], false⟩ := rfl
@[simp] theorem E_ty118 : E.ty 118 = some ⟨.func, 1, 8, [.nilf], false⟩ := rfl
@[simp] theorem E_ty119 : E.ty 119 = some ⟨.func, 1, 8, [.nilf], false⟩ := rfl
@[simp] theorem E_ty120 : E.ty 120 = some ⟨.func, 1, 8, [.nilf], false⟩ := rfl
@[simp] theorem E_ty121 : E.ty 121 = some ⟨.func, 1, 8, [.nilf], false⟩ := rfl
@[simp] theorem E_ty123 : E.ty 123 = some ⟨.func, 1, 8, [.nilf], false⟩ := rfl
@[simp] theorem E_ty124 : E.ty 124 = some ⟨.strct [(0, 5), (1, 5)], 2, 2, [.int .u8 0, .int .u8 0], false⟩ := rfl
@[simp] theorem E_ty125 : E.ty 125 = some ⟨.strct [(0, 5), (1, 5)], 2, 2, [.int .u8 0, .int .u8 0], false⟩ := rfl
@[simp] theorem E_ty126 : E.ty 126 = some ⟨.func, 1, 8, [.nilf], false⟩ := rfl
@[simp] theorem E_ty127 : E.ty 127 = some ⟨.func, 1, 8, [.nilf], false⟩ := rfl
@[simp] theorem E_ty128 : E.ty 128 = some ⟨.func, 1, 8, [.nilf], false⟩ := rfl
@[simp] theorem E_ty130 : E.ty 130 = some ⟨.func, 1, 8, [.nilf], false⟩ := rfl
@[simp] theorem E_ty132 : E.ty 132 = some ⟨.func, 1, 8, [.nilf], false⟩ := rfl
@[simp] theorem E_ty133 : E.ty 133 = some ⟨.func, 1, 8, [.nilf], false⟩ := rfl
@[simp] theorem E_ty134 : E.ty 134 = some ⟨.func, 1, 8, [.nilf], false⟩ := rfl
@[simp] theorem E_ty135 : E.ty 135 = some ⟨.func, 1, 8, [.nilf], false⟩ := rfl
@[simp] theorem E_ty136 : E.ty 136 = some ⟨.ptr 113, 1, 8, [.nilp], false⟩ := rfl
@[simp] theorem E_ty138 : E.ty 138 = some ⟨.func, 1, 8, [.nilf], false⟩ := rfl
@[simp] theorem E_ty140 : E.ty 140 = some ⟨.func, 1, 8, [.nilf], false⟩ := rfl
@[simp] theorem E_ty141 : E.ty 141 = some ⟨.func, 1, 8, [.nilf], false⟩ := rfl
@[simp] theorem E_ty142 : E.ty 142 = some ⟨.func, 1, 8, [.nilf], false⟩ := rfl
@[simp] theorem E_ty143 : E.ty 143 = some ⟨.func, 1, 8, [.nilf], false⟩ := rfl
@[simp] theorem E_ty144 : E.ty 144 = some ⟨.func, 1, 8, [.nilf], false⟩ := rfl
@[simp] theorem E_ty145 : E.ty 145 = some ⟨.func, 1, 8, [.nilf], false⟩ := rfl
@[simp] theorem E_ty146 : E.ty 146 = some ⟨.func, 1, 8, [.nilf], false⟩ := rfl
@[simp] theorem E_ty147 : E.ty 147 = some ⟨.func, 1, 8, [.nilf], false⟩ := rfl
@[simp] theorem E_ty148 : E.ty 148 = some ⟨.func, 1, 8, [.nilf], false⟩ := rfl
@[simp] theorem E_ty149 : E.ty 149 = some ⟨.func, 1, 8, [.nilf], false⟩ := rfl
@[simp] theorem E_ty150 : E.ty 150 = some ⟨.func, 1, 8, [.nilf], false⟩ := rfl
@[simp] theorem E_ty151 : E.ty 151 = some ⟨.int .u64, 1, 8, [.int .u64 0], false⟩ := rfl
@[simp] theorem E_ty152 : E.ty 152 = some ⟨.func, 1, 8, [.nilf], false⟩ := rfl
@[simp] theorem E_ty153 : E.ty 153 = some ⟨.func, 1, 8, [.nilf], false⟩ := rfl
@[simp] theorem E_ty154 : E.ty 154 = some ⟨.func, 1, 8, [.nilf], false⟩ := rfl
@[simp] theorem E_ty156 : E.ty 156 = some ⟨.func, 1, 8, [.nilf], false⟩ := rfl
@[simp] theorem E_ty157 : E.ty 157 = some ⟨.arr 3 5, 3, 3, [.int .u8 0, .int .u8 0, .int .u8 0], false⟩ := rfl
@[simp] theorem E_ty158 : E.ty 158 = some ⟨.arr 3 5, 3, 3, [.int .u8 0, .int .u8 0, .int .u8 0], false⟩ := rfl
@[simp] theorem E_ty159 : E.ty 159 = some ⟨.func, 1, 8, [.nilf], false⟩ := rfl
@[simp] theorem E_ty160 : E.ty 160 = some ⟨.func, 1, 8, [.nilf], false⟩ := rfl
@[simp] theorem E_ty161 : E.ty 161 = some ⟨.strct [(0, 17), (1, 17), (2, 17), (3, 9)], 4, 40, [.nilp, .nilp, .nilp, .str []], false⟩ := rfl
@[simp] theorem E_ty162 : E.ty 162 = some ⟨.strct [(0, 17), (1, 17), (2, 17), (3, 9)], 4, 40, [.nilp, .nilp, .nilp, .str []], false⟩ := rfl
@[simp] theorem E_ty163 : E.ty 163 = some ⟨.arr 0 16, 0, 0, [], false⟩ := rfl
@[simp] theorem E_ty164 : E.ty 164 = some ⟨.strct [(0, 163)], 0, 0, [], false⟩ := rfl
@[simp] theorem E_ty165 : E.ty 165 = some ⟨.strct [(0, 163)], 0, 0, [], false⟩ := rfl
@[simp] theorem E_ty166 : E.ty 166 = some ⟨.func, 1, 8, [.nilf], false⟩ := rfl
@[simp] theorem E_ty167 : E.ty 167 = some ⟨.int .u8, 1, 1, [.int .u8 0], false⟩ := rfl
@[simp] theorem E_ty168 : E.ty 168 = some ⟨.int .u8, 1, 1, [.int .u8 0], false⟩ := rfl
@[simp] theorem E_ty169 : E.ty 169 = some ⟨.func, 1, 8, [.nilf], false⟩ := rfl
@[simp] theorem E_ty170 : E.ty 170 = some ⟨.ptr 5, 1, 8, [.nilp], false⟩ := rfl
@[simp] theorem E_ty171 : E.ty 171 = some ⟨.int .i32, 1, 4, [.int .i32 0], false⟩ := rfl
@[simp] theorem E_ty172 : E.ty 172 = some ⟨.int .i32, 1, 4, [.int .i32 0], false⟩ := rfl
@[simp] theorem E_ty173 : E.ty 173 = some ⟨.strct [(0, 12), (1, 12), (2, 25), (3, 167), (4, 5), (5, 5), (6, 168), (7, 169), (8, 170), (9, 171), (10, 172)], 11, 48, [.int .u64 0, .int .u64 0, .int .u32 0, .int .u8 0, .int .u8 0, .int .u8 0, .int .u8 0, .nilf, .nilp, .int .i32 0, .int .i32 0], false⟩ := rfl
@[simp] theorem E_ty174 : E.ty 174 = some ⟨.strct [(0, 12), (1, 12), (2, 25), (3, 167), (4, 5), (5, 5), (6, 168), (7, 169), (8, 170), (9, 171), (10, 172)], 11, 48, [.int .u64 0, .int .u64 0, .int .u32 0, .int .u8 0, .int .u8 0, .int .u8 0, .int .u8 0, .nilf, .nilp, .int .i32 0, .int .i32 0], false⟩ := rfl
end TabE
