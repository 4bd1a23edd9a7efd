/- The tables of this translation for the evaluator: written by gen2.py. No conditions. -/
import Derived.Test.YtbiildmljbcmeaaB2
import Derived.Test.YtbiildmljbcmeaaTg
set_option linter.unusedVariables false
set_option maxRecDepth 100000
namespace TabE
open Go Ab

def opnT : FuncId → Option (List Bool × Bool)
  | 70 => some ([true, false], false)
  | 72 => some ([true, true, true, true], true)
  | 73 => some ([true, false, false, false], true)
  | 76 => some ([false], false)
  | 100 => some ([false, true], true)
  | 101 => some ([false, false, true, true], true)
  | 105 => some ([false, false, true], true)
  | 113 => some ([false, false, true, true], true)
  | 114 => some ([true, true], true)
  | _ => none

def c5 : Code :=
  (.seq (.region 0 #[⟨some 2, .box 40 (.tmp 0), 0, "", #[], none⟩,
    ⟨some 4, .assign (.const (.bool false)), 4, "", #[], none⟩] false)
  (.seq (.seq (.region 1 #[⟨some 15, .move (.tmp 1), 47, "", #[], none⟩,
    ⟨some 16, .call { callee := .builtin .len, args := #[.tmp 15], argTypes := #[47] }, 3, "", #[], none⟩,
    ⟨some 17, .binOp .gtr 3 (.tmp 16) (.const (.int .i64 20)) 3, 4, "", #[], none⟩] false)
  (.cond (.tmp 17)
    (.seq (.region 2 #[⟨some 18, .call { callee := .value (.func 18), args := #[], argTypes := #[] }, 4, "", #[], none⟩,
      ⟨some 4, .assign (.tmp 18), 4, "", #[], none⟩] false)
    .ret)
    .skip))
  (.seq (.region 3 #[⟨some 19, .load 40 (.tmp 2), 40, "", #[], none⟩,
    ⟨some 20, .call { callee := .value (.func 22), args := #[.tmp 19], argTypes := #[40] }, 30, "", #[], none⟩,
    ⟨some 5, .alloc 30, 0, "", #[], none⟩,
    ⟨none, .store 30 (.tmp 5) (.tmp 20), 0, "", #[], none⟩] false)
  (.seq (.region 4 #[⟨some 22, .load 30 (.tmp 5), 30, "", #[], none⟩,
    ⟨some 23, .move (.tmp 1), 47, "", #[], none⟩,
    ⟨some 24, .call { callee := .value (.func 25), args := #[.tmp 22, .tmp 23], argTypes := #[30, 47] }, 48, "", #[], none⟩,
    ⟨some 21, .move (.tmp 24), 48, "", #[], none⟩,
    ⟨some 25, .extract (.tmp 21) 0, 30, "", #[], none⟩,
    ⟨some 26, .extract (.tmp 21) 1, 34, "", #[], none⟩,
    ⟨some 6, .alloc 30, 0, "", #[], none⟩,
    ⟨none, .store 30 (.tmp 6) (.tmp 25), 0, "", #[], none⟩,
    ⟨some 7, .assign (.tmp 26), 34, "", #[], none⟩] false)
  (.seq (.region 5 #[⟨some 27, .load 30 (.tmp 5), 30, "", #[], none⟩,
    ⟨some 8, .alloc 30, 0, "", #[], none⟩,
    ⟨none, .store 30 (.tmp 8) (.tmp 27), 0, "", #[], none⟩] false)
  (.seq (.seq (.region 6 #[⟨some 9, .assign (.const (.int .i64 0)), 3, "", #[], none⟩] false)
  (.block 0 (.loop (.seq (.seq (.region 7 #[⟨some 28, .move (.tmp 9), 3, "", #[], none⟩,
    ⟨some 29, .move (.tmp 1), 47, "", #[], none⟩,
    ⟨some 30, .call { callee := .builtin .len, args := #[.tmp 29], argTypes := #[47] }, 3, "", #[], none⟩,
    ⟨some 31, .binOp .lss 3 (.tmp 28) (.tmp 30) 3, 4, "", #[], none⟩] false)
  (.cond (.tmp 31)
    .skip
    (.exit 0)))
  (.seq (.block 1 (.seq (.seq (.region 9 #[⟨some 34, .move (.tmp 1), 47, "", #[], none⟩,
    ⟨some 35, .move (.tmp 9), 3, "", #[], none⟩,
    ⟨some 36, .indexAddr 47 (.tmp 34) (.tmp 35), 0, "", #[], none⟩,
    ⟨some 37, .load 3 (.tmp 36), 3, "", #[], none⟩,
    ⟨some 38, .binOp .lss 3 (.tmp 37) (.const (.int .i64 0)) 3, 4, "", #[], none⟩,
    ⟨some 39, .move (.tmp 38), 4, "", #[], none⟩,
    ⟨some 40, .move (.tmp 1), 47, "", #[], some (39, false)⟩,
    ⟨some 41, .move (.tmp 9), 3, "", #[], some (39, false)⟩,
    ⟨some 42, .indexAddr 47 (.tmp 40) (.tmp 41), 0, "", #[], some (39, false)⟩,
    ⟨some 43, .load 3 (.tmp 42), 3, "", #[], some (39, false)⟩,
    ⟨some 44, .fieldAddr 30 (.tmp 8) 2, 0, "", #[], some (39, false)⟩,
    ⟨some 45, .load 28 (.tmp 44), 28, "", #[], some (39, false)⟩,
    ⟨some 46, .call { callee := .builtin .len, args := #[.tmp 45], argTypes := #[28] }, 3, "", #[], some (39, false)⟩,
    ⟨some 47, .binOp .geq 3 (.tmp 43) (.tmp 46) 3, 4, "", #[], some (39, false)⟩,
    ⟨some 48, .pick (.tmp 39) (.const (.bool true)) (.tmp 47), 4, "", #[], none⟩] true)
  (.cond (.tmp 48)
    (.seq (.region 10 #[⟨some 49, .move (.tmp 7), 34, "", #[], none⟩,
      ⟨some 50, .binOp .eql 34 (.tmp 49) (.const (.int .i64 19)) 34, 4, "", #[], none⟩,
      ⟨some 51, .move (.tmp 50), 4, "", #[], none⟩,
      ⟨some 52, .load 30 (.tmp 6), 30, "", #[], some (51, true)⟩,
      ⟨some 53, .build 30 #[], 30, "", #[], some (51, true)⟩,
      ⟨some 54, .call { callee := .value (.func 24), args := #[.tmp 52, .tmp 53], argTypes := #[30, 30] }, 4, "", #[], some (51, true)⟩,
      ⟨some 55, .pick (.tmp 51) (.tmp 54) (.const (.bool false)), 4, "", #[], none⟩,
      ⟨some 56, .move (.tmp 55), 4, "", #[], none⟩,
      ⟨some 57, .call { callee := .value (.func 18), args := #[], argTypes := #[] }, 4, "", #[], some (56, true)⟩,
      ⟨some 58, .pick (.tmp 56) (.tmp 57) (.const (.bool false)), 4, "", #[], none⟩,
      ⟨some 4, .assign (.tmp 58), 4, "", #[], none⟩] false)
    .ret)
    .skip))
  (.region 11 #[⟨some 59, .fieldAddr 30 (.tmp 8) 2, 0, "", #[], none⟩,
    ⟨some 60, .load 28 (.tmp 59), 28, "", #[], none⟩,
    ⟨some 61, .move (.tmp 1), 47, "", #[], none⟩,
    ⟨some 62, .move (.tmp 9), 3, "", #[], none⟩,
    ⟨some 63, .indexAddr 47 (.tmp 61) (.tmp 62), 0, "", #[], none⟩,
    ⟨some 64, .load 3 (.tmp 63), 3, "", #[], none⟩,
    ⟨some 65, .indexAddr 28 (.tmp 60) (.tmp 64), 0, "", #[], none⟩,
    ⟨some 66, .load 30 (.tmp 65), 30, "", #[], none⟩,
    ⟨none, .store 30 (.tmp 8) (.tmp 66), 0, "", #[], none⟩] true)))
  (.region 8 #[⟨some 32, .move (.tmp 9), 3, "", #[], none⟩,
    ⟨some 33, .binOp .add 3 (.tmp 32) (.const (.int .i64 1)) 3, 3, "", #[], none⟩,
    ⟨some 9, .assign (.tmp 33), 3, "", #[], none⟩] false))))))
  (.seq (.seq (.region 12 #[⟨some 67, .move (.tmp 7), 34, "", #[], none⟩,
    ⟨some 68, .binOp .neq 34 (.tmp 67) (.const (.int .i64 0)) 34, 4, "", #[], none⟩,
    ⟨some 69, .move (.tmp 68), 4, "", #[], none⟩,
    ⟨some 70, .load 30 (.tmp 6), 30, "", #[], some (69, false)⟩,
    ⟨some 71, .call { callee := .value (.func 26), args := #[.tmp 70, .const (.int .i64 50)], argTypes := #[30, 3] }, 3, "", #[], some (69, false)⟩,
    ⟨some 72, .binOp .gtr 3 (.tmp 71) (.const (.int .i64 50)) 3, 4, "", #[], some (69, false)⟩,
    ⟨some 73, .pick (.tmp 69) (.const (.bool true)) (.tmp 72), 4, "", #[], none⟩,
    ⟨some 74, .move (.tmp 73), 4, "", #[], none⟩,
    ⟨some 75, .load 30 (.tmp 6), 30, "", #[], some (74, false)⟩,
    ⟨some 76, .load 30 (.tmp 8), 30, "", #[], some (74, false)⟩,
    ⟨some 77, .call { callee := .value (.func 24), args := #[.tmp 75, .tmp 76], argTypes := #[30, 30] }, 4, "", #[], some (74, false)⟩,
    ⟨some 78, .unOp .not 4 (.tmp 77), 4, "", #[], some (74, false)⟩,
    ⟨some 79, .pick (.tmp 74) (.const (.bool true)) (.tmp 78), 4, "", #[], none⟩,
    ⟨some 80, .move (.tmp 79), 4, "", #[], none⟩,
    ⟨some 81, .load 30 (.tmp 6), 30, "", #[], some (80, false)⟩,
    ⟨some 82, .call { callee := .value (.func 27), args := #[.tmp 81], argTypes := #[30] }, 4, "", #[], some (80, false)⟩,
    ⟨some 83, .unOp .not 4 (.tmp 82), 4, "", #[], some (80, false)⟩,
    ⟨some 84, .pick (.tmp 80) (.const (.bool true)) (.tmp 83), 4, "", #[], none⟩] false)
  (.cond (.tmp 84)
    (.seq (.region 13 #[⟨some 4, .assign (.const (.bool false)), 4, "", #[], none⟩] false)
    .ret)
    .skip))
  (.seq (.region 14 #[⟨some 85, .fieldAddr 30 (.tmp 8) 1, 0, "", #[], none⟩,
    ⟨some 86, .load 22 (.tmp 85), 22, "", #[], none⟩,
    ⟨some 87, .call { callee := .builtin .len, args := #[.tmp 86], argTypes := #[22] }, 3, "", #[], none⟩,
    ⟨some 10, .assign (.tmp 87), 3, "", #[], none⟩,
    ⟨some 11, .assign (.const (.int .i64 1)), 3, "", #[], none⟩,
    ⟨some 12, .assign (.const (.int .i64 0)), 3, "", #[], none⟩] false)
  (.seq (.seq (.region 15 #[⟨some 13, .assign (.const (.int .i64 0)), 3, "", #[], none⟩] false)
  (.block 2 (.loop (.seq (.seq (.region 16 #[⟨some 88, .move (.tmp 13), 3, "", #[], none⟩,
    ⟨some 89, .fieldAddr 30 (.tmp 8) 2, 0, "", #[], none⟩,
    ⟨some 90, .load 28 (.tmp 89), 28, "", #[], none⟩,
    ⟨some 91, .call { callee := .builtin .len, args := #[.tmp 90], argTypes := #[28] }, 3, "", #[], none⟩,
    ⟨some 92, .binOp .lss 3 (.tmp 88) (.tmp 91) 3, 4, "", #[], none⟩] false)
  (.cond (.tmp 92)
    .skip
    (.exit 2)))
  (.seq (.block 3 (.seq (.region 18 #[⟨some 95, .move (.tmp 10), 3, "", #[], none⟩,
    ⟨some 96, .fieldAddr 30 (.tmp 8) 2, 0, "", #[], none⟩,
    ⟨some 97, .load 28 (.tmp 96), 28, "", #[], none⟩,
    ⟨some 98, .move (.tmp 13), 3, "", #[], none⟩,
    ⟨some 99, .indexAddr 28 (.tmp 97) (.tmp 98), 0, "", #[], none⟩,
    ⟨some 100, .load 30 (.tmp 99), 30, "", #[], none⟩,
    ⟨some 101, .call { callee := .value (.func 28), args := #[.tmp 100], argTypes := #[30] }, 3, "", #[], none⟩,
    ⟨some 102, .binOp .add 3 (.tmp 95) (.tmp 101) 3, 3, "", #[], none⟩,
    ⟨some 10, .assign (.tmp 102), 3, "", #[], none⟩] false)
  (.seq (.region 19 #[⟨some 103, .move (.tmp 11), 3, "", #[], none⟩,
    ⟨some 104, .fieldAddr 30 (.tmp 8) 2, 0, "", #[], none⟩,
    ⟨some 105, .load 28 (.tmp 104), 28, "", #[], none⟩,
    ⟨some 106, .move (.tmp 13), 3, "", #[], none⟩,
    ⟨some 107, .indexAddr 28 (.tmp 105) (.tmp 106), 0, "", #[], none⟩,
    ⟨some 108, .load 30 (.tmp 107), 30, "", #[], none⟩,
    ⟨some 109, .call { callee := .value (.func 29), args := #[.tmp 108], argTypes := #[30] }, 3, "", #[], none⟩,
    ⟨some 110, .binOp .add 3 (.tmp 103) (.tmp 109) 3, 3, "", #[], none⟩,
    ⟨some 11, .assign (.tmp 110), 3, "", #[], none⟩] false)
  (.region 20 #[⟨some 111, .move (.tmp 12), 3, "", #[], none⟩,
    ⟨some 112, .fieldAddr 30 (.tmp 8) 2, 0, "", #[], none⟩,
    ⟨some 113, .load 28 (.tmp 112), 28, "", #[], none⟩,
    ⟨some 114, .move (.tmp 13), 3, "", #[], none⟩,
    ⟨some 115, .indexAddr 28 (.tmp 113) (.tmp 114), 0, "", #[], none⟩,
    ⟨some 116, .load 30 (.tmp 115), 30, "", #[], none⟩,
    ⟨some 117, .call { callee := .value (.func 30), args := #[.tmp 116], argTypes := #[30] }, 3, "", #[], none⟩,
    ⟨some 118, .call { callee := .builtin .max, args := #[.tmp 111, .tmp 117], argTypes := #[3, 3] }, 3, "", #[], none⟩,
    ⟨some 12, .assign (.tmp 118), 3, "", #[], none⟩] false))))
  (.region 17 #[⟨some 93, .move (.tmp 13), 3, "", #[], none⟩,
    ⟨some 94, .binOp .add 3 (.tmp 93) (.const (.int .i64 1)) 3, 3, "", #[], none⟩,
    ⟨some 13, .assign (.tmp 94), 3, "", #[], none⟩] false))))))
  (.seq (.region 21 #[⟨some 119, .load 30 (.tmp 8), 30, "", #[], none⟩,
    ⟨some 120, .call { callee := .value (.func 28), args := #[.tmp 119], argTypes := #[30] }, 3, "", #[], none⟩,
    ⟨some 14, .assign (.tmp 120), 3, "", #[], none⟩] false)
  (.seq (.region 22 #[⟨some 121, .move (.tmp 14), 3, "", #[], none⟩,
    ⟨some 122, .move (.tmp 10), 3, "", #[], none⟩,
    ⟨some 123, .binOp .add 3 (.tmp 122) (.const (.int .i64 2)) 3, 3, "", #[], none⟩,
    ⟨some 124, .binOp .geq 3 (.tmp 121) (.tmp 123) 3, 4, "", #[], none⟩,
    ⟨some 125, .move (.tmp 124), 4, "", #[], none⟩,
    ⟨some 126, .move (.tmp 14), 3, "", #[], some (125, true)⟩,
    ⟨some 127, .move (.tmp 10), 3, "", #[], some (125, true)⟩,
    ⟨some 128, .binOp .add 3 (.tmp 127) (.const (.int .i64 9)) 3, 3, "", #[], some (125, true)⟩,
    ⟨some 129, .binOp .leq 3 (.tmp 126) (.tmp 128) 3, 4, "", #[], some (125, true)⟩,
    ⟨some 130, .pick (.tmp 125) (.tmp 129) (.const (.bool false)), 4, "", #[], none⟩,
    ⟨some 131, .move (.tmp 130), 4, "", #[], none⟩,
    ⟨some 132, .load 30 (.tmp 8), 30, "", #[], some (131, true)⟩,
    ⟨some 133, .call { callee := .value (.func 29), args := #[.tmp 132], argTypes := #[30] }, 3, "", #[], some (131, true)⟩,
    ⟨some 134, .move (.tmp 11), 3, "", #[], some (131, true)⟩,
    ⟨some 135, .binOp .eql 3 (.tmp 133) (.tmp 134) 3, 4, "", #[], some (131, true)⟩,
    ⟨some 136, .pick (.tmp 131) (.tmp 135) (.const (.bool false)), 4, "", #[], none⟩,
    ⟨some 137, .move (.tmp 136), 4, "", #[], none⟩,
    ⟨some 138, .load 30 (.tmp 8), 30, "", #[], some (137, true)⟩,
    ⟨some 139, .call { callee := .value (.func 30), args := #[.tmp 138], argTypes := #[30] }, 3, "", #[], some (137, true)⟩,
    ⟨some 140, .move (.tmp 12), 3, "", #[], some (137, true)⟩,
    ⟨some 141, .binOp .add 3 (.tmp 140) (.const (.int .i64 1)) 3, 3, "", #[], some (137, true)⟩,
    ⟨some 142, .binOp .eql 3 (.tmp 139) (.tmp 141) 3, 4, "", #[], some (137, true)⟩,
    ⟨some 143, .pick (.tmp 137) (.tmp 142) (.const (.bool false)), 4, "", #[], none⟩,
    ⟨some 144, .move (.tmp 143), 4, "", #[], none⟩,
    ⟨some 145, .call { callee := .value (.func 18), args := #[], argTypes := #[] }, 4, "", #[], some (144, true)⟩,
    ⟨some 146, .pick (.tmp 144) (.tmp 145) (.const (.bool false)), 4, "", #[], none⟩,
    ⟨some 4, .assign (.tmp 146), 4, "", #[], none⟩] false)
  .ret)))))))))))
def fn5 : AFn := { ntmps := 147, results := [.tmp 4], body := c5, keep := fun | 0 => some [1, 2] | 1 => some [1, 2, 17] | 2 => some [4] | 3 => some [1, 5] | 4 => some [1, 5, 6, 7] | 5 => some [1, 6, 7, 8] | 6 => some [1, 6, 7, 8, 9] | 7 => some [1, 6, 7, 8, 9, 31] | 8 => some [1, 6, 7, 8, 9] | 9 => some [1, 6, 7, 8, 9, 48] | 10 => some [4] | 11 => some [1, 6, 7, 8, 9] | 12 => some [8, 84] | 13 => some [4] | 14 => some [8, 10, 11, 12] | 15 => some [8, 10, 11, 12, 13] | 16 => some [8, 10, 11, 12, 13, 92] | 17 => some [8, 10, 11, 12, 13] | 18 => some [8, 10, 11, 12, 13] | 19 => some [8, 10, 11, 12, 13] | 20 => some [8, 10, 11, 12, 13] | 21 => some [8, 10, 11, 12, 14] | 22 => some [4] | _ => none, head := fun | 7 => some [1, 6, 7, 8, 9] | 16 => some [8, 10, 11, 12, 13] | _ => none, opn := fun _ => none, dyn := fun _ => [] }
def c9 : Code :=
  (.seq (.region 0 #[⟨some 1, .box 30 (.tmp 0), 0, "", #[], none⟩,
    ⟨some 2, .assign (.const (.bool false)), 4, "", #[], none⟩] false)
  (.seq (.seq (.region 1 #[⟨some 10, .load 30 (.tmp 1), 30, "", #[], none⟩,
    ⟨some 11, .call { callee := .value (.func 38), args := #[.tmp 10], argTypes := #[30] }, 3, "", #[], none⟩,
    ⟨some 12, .binOp .eql 3 (.tmp 11) (.const (.int .i64 0)) 3, 4, "", #[], none⟩] false)
  (.cond (.tmp 12)
    (.seq (.region 2 #[⟨some 13, .call { callee := .value (.func 18), args := #[], argTypes := #[] }, 4, "", #[], none⟩,
      ⟨some 2, .assign (.tmp 13), 4, "", #[], none⟩] false)
    .ret)
    .skip))
  (.seq (.region 3 #[⟨some 15, .load 30 (.tmp 1), 30, "", #[], none⟩,
    ⟨some 16, .call { callee := .value (.func 39), args := #[.tmp 15, .const (.int .i64 1), .const (.int .i64 0)], argTypes := #[30, 3, 3] }, 62, "", #[], none⟩,
    ⟨some 14, .move (.tmp 16), 62, "", #[], none⟩,
    ⟨some 17, .extract (.tmp 14) 0, 3, "", #[], none⟩,
    ⟨some 18, .extract (.tmp 14) 1, 3, "", #[], none⟩,
    ⟨some 3, .assign (.tmp 17), 3, "", #[], none⟩,
    ⟨some 4, .assign (.tmp 18), 3, "", #[], none⟩] false)
  (.seq (.region 4 #[⟨some 20, .load 30 (.tmp 1), 30, "", #[], none⟩,
    ⟨some 21, .call { callee := .value (.func 21), args := #[.tmp 20], argTypes := #[30] }, 35, "", #[], none⟩,
    ⟨some 19, .move (.tmp 21), 35, "", #[], none⟩,
    ⟨some 22, .extract (.tmp 19) 0, 22, "", #[], none⟩,
    ⟨some 23, .extract (.tmp 19) 1, 34, "", #[], none⟩,
    ⟨some 5, .assign (.tmp 22), 22, "", #[], none⟩,
    ⟨some 6, .assign (.tmp 23), 34, "", #[], none⟩] false)
  (.seq (.seq (.region 5 #[⟨some 24, .load 30 (.tmp 1), 30, "", #[], none⟩,
    ⟨some 25, .call { callee := .value (.func 32), args := #[.tmp 24], argTypes := #[30] }, 34, "", #[], none⟩,
    ⟨some 26, .move (.tmp 3), 3, "", #[], none⟩,
    ⟨some 27, .binOp .neq 3 (.tmp 25) (.tmp 26) 3, 4, "", #[], none⟩,
    ⟨some 28, .move (.tmp 27), 4, "", #[], none⟩,
    ⟨some 29, .move (.tmp 6), 34, "", #[], some (28, false)⟩,
    ⟨some 30, .move (.tmp 3), 3, "", #[], some (28, false)⟩,
    ⟨some 31, .binOp .neq 3 (.tmp 29) (.tmp 30) 3, 4, "", #[], some (28, false)⟩,
    ⟨some 32, .pick (.tmp 28) (.const (.bool true)) (.tmp 31), 4, "", #[], none⟩,
    ⟨some 33, .move (.tmp 32), 4, "", #[], none⟩,
    ⟨some 34, .load 30 (.tmp 1), 30, "", #[], some (33, false)⟩,
    ⟨some 35, .call { callee := .value (.func 29), args := #[.tmp 34], argTypes := #[30] }, 3, "", #[], some (33, false)⟩,
    ⟨some 36, .move (.tmp 4), 3, "", #[], some (33, false)⟩,
    ⟨some 37, .binOp .neq 3 (.tmp 35) (.tmp 36) 3, 4, "", #[], some (33, false)⟩,
    ⟨some 38, .pick (.tmp 33) (.const (.bool true)) (.tmp 37), 4, "", #[], none⟩,
    ⟨some 39, .move (.tmp 38), 4, "", #[], none⟩,
    ⟨some 40, .load 30 (.tmp 1), 30, "", #[], some (39, false)⟩,
    ⟨some 41, .load 30 (.tmp 1), 30, "", #[], some (39, false)⟩,
    ⟨some 42, .call { callee := .value (.func 36), args := #[.tmp 40, .tmp 41], argTypes := #[30, 30] }, 4, "", #[], some (39, false)⟩,
    ⟨some 43, .move (.tmp 3), 3, "", #[], some (39, false)⟩,
    ⟨some 44, .binOp .eql 3 (.tmp 43) (.const (.int .i64 0)) 3, 4, "", #[], some (39, false)⟩,
    ⟨some 45, .binOp .neq 4 (.tmp 42) (.tmp 44) 4, 4, "", #[], some (39, false)⟩,
    ⟨some 46, .pick (.tmp 39) (.const (.bool true)) (.tmp 45), 4, "", #[], none⟩] false)
  (.cond (.tmp 46)
    (.seq (.region 6 #[⟨some 2, .assign (.const (.bool false)), 4, "", #[], none⟩] false)
    .ret)
    .skip))
  (.seq (.seq (.region 7 #[⟨some 47, .move (.tmp 3), 3, "", #[], none⟩,
    ⟨some 48, .binOp .eql 3 (.tmp 47) (.const (.int .i64 0)) 3, 4, "", #[], none⟩] false)
  (.cond (.tmp 48)
    (.seq (.region 8 #[⟨some 49, .load 30 (.tmp 1), 30, "", #[], none⟩,
      ⟨some 50, .call { callee := .value (.func 35), args := #[.tmp 49], argTypes := #[30] }, 22, "", #[], none⟩,
      ⟨some 7, .assign (.tmp 50), 22, "", #[], none⟩] false)
    (.seq (.region 9 #[⟨some 51, .move (.tmp 5), 22, "", #[], none⟩,
      ⟨some 52, .convert 22 9 (.tmp 51), 9, "", #[], none⟩,
      ⟨some 53, .move (.tmp 7), 22, "", #[], none⟩,
      ⟨some 54, .convert 22 9 (.tmp 53), 9, "", #[], none⟩,
      ⟨some 55, .binOp .eql 9 (.tmp 52) (.tmp 54) 9, 4, "", #[], none⟩,
      ⟨some 56, .move (.tmp 55), 4, "", #[], none⟩,
      ⟨some 57, .move (.tmp 5), 22, "", #[], some (56, true)⟩,
      ⟨some 58, .call { callee := .builtin .cap, args := #[.tmp 57], argTypes := #[22] }, 3, "", #[], some (56, true)⟩,
      ⟨some 59, .move (.tmp 5), 22, "", #[], some (56, true)⟩,
      ⟨some 60, .call { callee := .builtin .len, args := #[.tmp 59], argTypes := #[22] }, 3, "", #[], some (56, true)⟩,
      ⟨some 61, .binOp .eql 3 (.tmp 58) (.tmp 60) 3, 4, "", #[], some (56, true)⟩,
      ⟨some 62, .pick (.tmp 56) (.tmp 61) (.const (.bool false)), 4, "", #[], none⟩,
      ⟨some 63, .move (.tmp 62), 4, "", #[], none⟩,
      ⟨some 64, .load 30 (.tmp 1), 30, "", #[], some (63, true)⟩,
      ⟨some 65, .call { callee := .value (.func 28), args := #[.tmp 64], argTypes := #[30] }, 3, "", #[], some (63, true)⟩,
      ⟨some 66, .move (.tmp 7), 22, "", #[], some (63, true)⟩,
      ⟨some 67, .call { callee := .builtin .len, args := #[.tmp 66], argTypes := #[22] }, 3, "", #[], some (63, true)⟩,
      ⟨some 68, .binOp .eql 3 (.tmp 65) (.tmp 67) 3, 4, "", #[], some (63, true)⟩,
      ⟨some 69, .pick (.tmp 63) (.tmp 68) (.const (.bool false)), 4, "", #[], none⟩,
      ⟨some 70, .move (.tmp 69), 4, "", #[], none⟩,
      ⟨some 71, .load 30 (.tmp 1), 30, "", #[], some (70, true)⟩,
      ⟨some 72, .call { callee := .value (.func 30), args := #[.tmp 71], argTypes := #[30] }, 3, "", #[], some (70, true)⟩,
      ⟨some 73, .load 30 (.tmp 1), 30, "", #[], some (70, true)⟩,
      ⟨some 74, .call { callee := .value (.func 40), args := #[.tmp 73], argTypes := #[30] }, 3, "", #[], some (70, true)⟩,
      ⟨some 75, .binOp .eql 3 (.tmp 72) (.tmp 74) 3, 4, "", #[], some (70, true)⟩,
      ⟨some 76, .pick (.tmp 70) (.tmp 75) (.const (.bool false)), 4, "", #[], none⟩,
      ⟨some 77, .move (.tmp 76), 4, "", #[], none⟩,
      ⟨some 78, .call { callee := .value (.func 18), args := #[], argTypes := #[] }, 4, "", #[], some (77, true)⟩,
      ⟨some 79, .pick (.tmp 77) (.tmp 78) (.const (.bool false)), 4, "", #[], none⟩,
      ⟨some 2, .assign (.tmp 79), 4, "", #[], none⟩] true)
    .ret))
    .skip))
  (.seq (.region 10 #[⟨some 81, .load 30 (.tmp 1), 30, "", #[], none⟩,
    ⟨some 82, .call { callee := .value (.func 25), args := #[.tmp 81, .const (.slice none 0 0)], argTypes := #[30, 47] }, 48, "", #[], none⟩,
    ⟨some 80, .move (.tmp 82), 48, "", #[], none⟩,
    ⟨some 83, .extract (.tmp 80) 0, 30, "", #[], none⟩,
    ⟨some 84, .extract (.tmp 80) 1, 34, "", #[], none⟩,
    ⟨some 8, .alloc 30, 0, "", #[], none⟩,
    ⟨none, .store 30 (.tmp 8) (.tmp 83), 0, "", #[], none⟩,
    ⟨some 9, .assign (.tmp 84), 34, "", #[], none⟩] false)
  (.seq (.region 11 #[⟨some 85, .move (.tmp 5), 22, "", #[], none⟩,
    ⟨some 86, .call { callee := .builtin .len, args := #[.tmp 85], argTypes := #[22] }, 3, "", #[], none⟩,
    ⟨some 87, .binOp .eql 3 (.tmp 86) (.const (.int .i64 0)) 3, 4, "", #[], none⟩,
    ⟨some 88, .move (.tmp 87), 4, "", #[], none⟩,
    ⟨some 89, .load 30 (.tmp 1), 30, "", #[], some (88, true)⟩,
    ⟨some 90, .call { callee := .value (.func 28), args := #[.tmp 89], argTypes := #[30] }, 3, "", #[], some (88, true)⟩,
    ⟨some 91, .binOp .eql 3 (.tmp 90) (.const (.int .i64 0)) 3, 4, "", #[], some (88, true)⟩,
    ⟨some 92, .pick (.tmp 88) (.tmp 91) (.const (.bool false)), 4, "", #[], none⟩,
    ⟨some 93, .move (.tmp 92), 4, "", #[], none⟩,
    ⟨some 94, .load 30 (.tmp 1), 30, "", #[], some (93, true)⟩,
    ⟨some 95, .call { callee := .value (.func 30), args := #[.tmp 94], argTypes := #[30] }, 3, "", #[], some (93, true)⟩,
    ⟨some 96, .binOp .eql 3 (.tmp 95) (.const (.int .i64 0)) 3, 4, "", #[], some (93, true)⟩,
    ⟨some 97, .pick (.tmp 93) (.tmp 96) (.const (.bool false)), 4, "", #[], none⟩,
    ⟨some 98, .move (.tmp 97), 4, "", #[], none⟩,
    ⟨some 99, .move (.tmp 9), 34, "", #[], some (98, true)⟩,
    ⟨some 100, .move (.tmp 3), 3, "", #[], some (98, true)⟩,
    ⟨some 101, .binOp .eql 3 (.tmp 99) (.tmp 100) 3, 4, "", #[], some (98, true)⟩,
    ⟨some 102, .pick (.tmp 98) (.tmp 101) (.const (.bool false)), 4, "", #[], none⟩,
    ⟨some 103, .move (.tmp 102), 4, "", #[], none⟩,
    ⟨some 104, .load 30 (.tmp 8), 30, "", #[], some (103, true)⟩,
    ⟨some 105, .build 30 #[], 30, "", #[], some (103, true)⟩,
    ⟨some 106, .call { callee := .value (.func 24), args := #[.tmp 104, .tmp 105], argTypes := #[30, 30] }, 4, "", #[], some (103, true)⟩,
    ⟨some 107, .pick (.tmp 103) (.tmp 106) (.const (.bool false)), 4, "", #[], none⟩,
    ⟨some 108, .move (.tmp 107), 4, "", #[], none⟩,
    ⟨some 109, .load 30 (.tmp 1), 30, "", #[], some (108, true)⟩,
    ⟨some 110, .call { callee := .value (.func 41), args := #[], argTypes := #[] }, 30, "", #[], some (108, true)⟩,
    ⟨some 111, .call { callee := .value (.func 37), args := #[.tmp 109, .tmp 110], argTypes := #[30, 30] }, 3, "", #[], some (108, true)⟩,
    ⟨some 112, .binOp .eql 3 (.tmp 111) (.const (.int .i64 (-1))) 3, 4, "", #[], some (108, true)⟩,
    ⟨some 113, .pick (.tmp 108) (.tmp 112) (.const (.bool false)), 4, "", #[], none⟩,
    ⟨some 114, .move (.tmp 113), 4, "", #[], none⟩,
    ⟨some 115, .load 30 (.tmp 1), 30, "", #[], some (114, true)⟩,
    ⟨some 116, .load 30 (.tmp 1), 30, "", #[], some (114, true)⟩,
    ⟨some 117, .call { callee := .value (.func 37), args := #[.tmp 115, .tmp 116], argTypes := #[30, 30] }, 3, "", #[], some (114, true)⟩,
    ⟨some 118, .binOp .eql 3 (.tmp 117) (.const (.int .i64 0)) 3, 4, "", #[], some (114, true)⟩,
    ⟨some 119, .pick (.tmp 114) (.tmp 118) (.const (.bool false)), 4, "", #[], none⟩,
    ⟨some 120, .move (.tmp 119), 4, "", #[], none⟩,
    ⟨some 121, .call { callee := .value (.func 18), args := #[], argTypes := #[] }, 4, "", #[], some (120, true)⟩,
    ⟨some 122, .pick (.tmp 120) (.tmp 121) (.const (.bool false)), 4, "", #[], none⟩,
    ⟨some 2, .assign (.tmp 122), 4, "", #[], none⟩] true)
  .ret))))))))
def fn9 : AFn := { ntmps := 123, results := [.tmp 2], body := c9, keep := fun | 0 => some [1] | 1 => some [1, 12] | 2 => some [2] | 3 => some [1, 3, 4] | 4 => some [1, 3, 4, 5, 6] | 5 => some [1, 3, 5, 46] | 6 => some [2] | 7 => some [1, 3, 5, 48] | 8 => some [1, 5, 7] | 9 => some [2] | 10 => some [1, 3, 5, 8, 9] | 11 => some [2] | _ => none, head := fun  | _ => none, opn := fun _ => none, dyn := fun _ => [] }
def c18 : Code :=
  (.seq (.region 0 #[⟨some 0, .assign (.const (.bool false)), 4, "", #[], none⟩] false)
  (.seq (.region 1 #[⟨some 12, .call { callee := .value (.func 41), args := #[], argTypes := #[] }, 30, "", #[], none⟩,
    ⟨some 1, .alloc 30, 0, "", #[], none⟩,
    ⟨none, .store 30 (.tmp 1) (.tmp 12), 0, "", #[], none⟩] false)
  (.seq (.region 2 #[⟨some 13, .build 30 #[], 30, "", #[], none⟩,
    ⟨some 2, .alloc 30, 0, "", #[], none⟩,
    ⟨none, .store 30 (.tmp 2) (.tmp 13), 0, "", #[], none⟩] false)
  (.seq (.region 3 #[⟨some 14, .fieldAddr 30 (.tmp 1) 2, 0, "", #[], none⟩,
    ⟨some 15, .load 28 (.tmp 14), 28, "", #[], none⟩,
    ⟨some 16, .indexAddr 28 (.tmp 15) (.const (.int .i64 1)), 0, "", #[], none⟩,
    ⟨some 17, .load 30 (.tmp 16), 30, "", #[], none⟩,
    ⟨some 3, .alloc 30, 0, "", #[], none⟩,
    ⟨none, .store 30 (.tmp 3) (.tmp 17), 0, "", #[], none⟩] false)
  (.seq (.seq (.region 4 #[⟨some 18, .buildSlice 22 7 #[(0, .const (.int .u8 48)), (1, .const (.int .u8 5)), (2, .const (.int .u8 2)), (3, .const (.int .u8 1)), (4, .const (.int .u8 7)), (5, .const (.int .u8 5)), (6, .const (.int .u8 0))], 22, "", fz, none⟩,
    ⟨some 19, .load 30 (.tmp 1), 30, "", #[], none⟩,
    ⟨some 20, .call { callee := .value (.func 20), args := #[.tmp 18, .tmp 19, .const (.int .i64 0), .const (.int .i64 0)], argTypes := #[22, 30, 3, 3] }, 4, "", #[], none⟩,
    ⟨some 21, .unOp .not 4 (.tmp 20), 4, "", #[], none⟩,
    ⟨some 22, .move (.tmp 21), 4, "", #[], none⟩,
    ⟨some 23, .load 30 (.tmp 1), 30, "", #[], some (22, false)⟩,
    ⟨some 24, .call { callee := .value (.func 29), args := #[.tmp 23], argTypes := #[30] }, 3, "", #[], some (22, false)⟩,
    ⟨some 25, .binOp .neq 3 (.tmp 24) (.const (.int .i64 3)) 3, 4, "", #[], some (22, false)⟩,
    ⟨some 26, .pick (.tmp 22) (.const (.bool true)) (.tmp 25), 4, "", #[], none⟩,
    ⟨some 27, .move (.tmp 26), 4, "", #[], none⟩,
    ⟨some 28, .load 30 (.tmp 1), 30, "", #[], some (27, false)⟩,
    ⟨some 29, .call { callee := .value (.func 30), args := #[.tmp 28], argTypes := #[30] }, 3, "", #[], some (27, false)⟩,
    ⟨some 30, .binOp .neq 3 (.tmp 29) (.const (.int .i64 2)) 3, 4, "", #[], some (27, false)⟩,
    ⟨some 31, .pick (.tmp 27) (.const (.bool true)) (.tmp 30), 4, "", #[], none⟩] false)
  (.cond (.tmp 31)
    (.seq (.region 5 #[⟨some 0, .assign (.const (.bool false)), 4, "", #[], none⟩] false)
    .ret)
    .skip))
  (.seq (.region 6 #[⟨some 33, .load 30 (.tmp 1), 30, "", #[], none⟩,
    ⟨some 34, .buildSlice 47 1 #[(0, .const (.int .i64 1))], 47, "", fz, none⟩,
    ⟨some 35, .call { callee := .value (.func 25), args := #[.tmp 33, .tmp 34], argTypes := #[30, 47] }, 48, "", #[], none⟩,
    ⟨some 32, .move (.tmp 35), 48, "", #[], none⟩,
    ⟨some 36, .extract (.tmp 32) 0, 30, "", #[], none⟩,
    ⟨some 37, .extract (.tmp 32) 1, 34, "", #[], none⟩,
    ⟨some 4, .alloc 30, 0, "", #[], none⟩,
    ⟨none, .store 30 (.tmp 4) (.tmp 36), 0, "", #[], none⟩,
    ⟨some 5, .assign (.tmp 37), 34, "", #[], none⟩] false)
  (.seq (.region 7 #[⟨some 39, .load 30 (.tmp 1), 30, "", #[], none⟩,
    ⟨some 40, .buildSlice 47 1 #[(0, .const (.int .i64 2))], 47, "", fz, none⟩,
    ⟨some 41, .call { callee := .value (.func 25), args := #[.tmp 39, .tmp 40], argTypes := #[30, 47] }, 48, "", #[], none⟩,
    ⟨some 38, .move (.tmp 41), 48, "", #[], none⟩,
    ⟨some 42, .extract (.tmp 38) 0, 30, "", #[], none⟩,
    ⟨some 43, .extract (.tmp 38) 1, 34, "", #[], none⟩,
    ⟨some 6, .alloc 30, 0, "", #[], none⟩,
    ⟨none, .store 30 (.tmp 6) (.tmp 42), 0, "", #[], none⟩,
    ⟨some 7, .assign (.tmp 43), 34, "", #[], none⟩] false)
  (.seq (.region 8 #[⟨some 45, .buildSlice 22 4 #[(0, .const (.int .u8 5)), (1, .const (.int .u8 0)), (2, .const (.int .u8 5)), (3, .const (.int .u8 0))], 22, "", fz, none⟩,
    ⟨some 46, .call { callee := .value (.func 23), args := #[.tmp 45], argTypes := #[22] }, 43, "", #[], none⟩,
    ⟨some 44, .move (.tmp 46), 43, "", #[], none⟩,
    ⟨some 47, .extract (.tmp 44) 0, 30, "", #[], none⟩,
    ⟨some 48, .extract (.tmp 44) 1, 3, "", #[], none⟩,
    ⟨some 49, .extract (.tmp 44) 2, 3, "", #[], none⟩,
    ⟨some 50, .extract (.tmp 44) 3, 34, "", #[], none⟩,
    ⟨some 8, .alloc 30, 0, "", #[], none⟩,
    ⟨none, .store 30 (.tmp 8) (.tmp 47), 0, "", #[], none⟩,
    ⟨some 9, .assign (.tmp 48), 3, "", #[], none⟩,
    ⟨some 10, .assign (.tmp 49), 3, "", #[], none⟩,
    ⟨some 11, .assign (.tmp 50), 34, "", #[], none⟩] false)
  (.seq (.seq (.region 9 #[⟨some 51, .move (.tmp 5), 34, "", #[], none⟩,
    ⟨some 52, .binOp .neq 34 (.tmp 51) (.const (.int .i64 0)) 34, 4, "", #[], none⟩,
    ⟨some 53, .move (.tmp 52), 4, "", #[], none⟩,
    ⟨some 54, .load 30 (.tmp 4), 30, "", #[], some (53, false)⟩,
    ⟨some 55, .load 30 (.tmp 3), 30, "", #[], some (53, false)⟩,
    ⟨some 56, .call { callee := .value (.func 24), args := #[.tmp 54, .tmp 55], argTypes := #[30, 30] }, 4, "", #[], some (53, false)⟩,
    ⟨some 57, .unOp .not 4 (.tmp 56), 4, "", #[], some (53, false)⟩,
    ⟨some 58, .pick (.tmp 53) (.const (.bool true)) (.tmp 57), 4, "", #[], none⟩,
    ⟨some 59, .move (.tmp 58), 4, "", #[], none⟩,
    ⟨some 60, .move (.tmp 7), 34, "", #[], some (59, false)⟩,
    ⟨some 61, .binOp .neq 34 (.tmp 60) (.const (.int .i64 19)) 34, 4, "", #[], some (59, false)⟩,
    ⟨some 62, .pick (.tmp 59) (.const (.bool true)) (.tmp 61), 4, "", #[], none⟩,
    ⟨some 63, .move (.tmp 62), 4, "", #[], none⟩,
    ⟨some 64, .move (.tmp 9), 3, "", #[], some (63, false)⟩,
    ⟨some 65, .binOp .neq 3 (.tmp 64) (.const (.int .i64 2)) 3, 4, "", #[], some (63, false)⟩,
    ⟨some 66, .pick (.tmp 63) (.const (.bool true)) (.tmp 65), 4, "", #[], none⟩,
    ⟨some 67, .move (.tmp 66), 4, "", #[], none⟩,
    ⟨some 68, .move (.tmp 11), 34, "", #[], some (67, false)⟩,
    ⟨some 69, .binOp .neq 34 (.tmp 68) (.const (.int .i64 0)) 34, 4, "", #[], some (67, false)⟩,
    ⟨some 70, .pick (.tmp 67) (.const (.bool true)) (.tmp 69), 4, "", #[], none⟩,
    ⟨some 71, .move (.tmp 70), 4, "", #[], none⟩,
    ⟨some 72, .buildSlice 22 4 #[(0, .const (.int .u8 5)), (1, .const (.int .u8 0)), (2, .const (.int .u8 5)), (3, .const (.int .u8 0))], 22, "", fz, some (71, false)⟩,
    ⟨some 73, .load 30 (.tmp 2), 30, "", #[], some (71, false)⟩,
    ⟨some 74, .call { callee := .value (.func 20), args := #[.tmp 72, .tmp 73, .const (.int .i64 2), .const (.int .i64 8)], argTypes := #[22, 30, 3, 3] }, 4, "", #[], some (71, false)⟩,
    ⟨some 75, .unOp .not 4 (.tmp 74), 4, "", #[], some (71, false)⟩,
    ⟨some 76, .pick (.tmp 71) (.const (.bool true)) (.tmp 75), 4, "", #[], none⟩] false)
  (.cond (.tmp 76)
    (.seq (.region 10 #[⟨some 0, .assign (.const (.bool false)), 4, "", #[], none⟩] false)
    .ret)
    .skip))
  (.seq (.seq (.region 11 #[⟨some 77, .buildSlice 22 5 #[(0, .const (.int .u8 48)), (1, .const (.int .u8 5)), (2, .const (.int .u8 2)), (3, .const (.int .u8 1)), (4, .const (.int .u8 7))], 22, "", fz, none⟩,
    ⟨some 78, .load 30 (.tmp 2), 30, "", #[], none⟩,
    ⟨some 79, .call { callee := .value (.func 20), args := #[.tmp 77, .tmp 78, .const (.int .i64 5), .const (.int .i64 7)], argTypes := #[22, 30, 3, 3] }, 4, "", #[], none⟩,
    ⟨some 80, .unOp .not 4 (.tmp 79), 4, "", #[], none⟩,
    ⟨some 81, .move (.tmp 80), 4, "", #[], none⟩,
    ⟨some 82, .buildSlice 22 5 #[(0, .const (.int .u8 48)), (1, .const (.int .u8 3)), (2, .const (.int .u8 2)), (3, .const (.int .u8 2)), (4, .const (.int .u8 7))], 22, "", fz, some (81, false)⟩,
    ⟨some 83, .load 30 (.tmp 2), 30, "", #[], some (81, false)⟩,
    ⟨some 84, .call { callee := .value (.func 20), args := #[.tmp 82, .tmp 83, .const (.int .i64 5), .const (.int .i64 7)], argTypes := #[22, 30, 3, 3] }, 4, "", #[], some (81, false)⟩,
    ⟨some 85, .unOp .not 4 (.tmp 84), 4, "", #[], some (81, false)⟩,
    ⟨some 86, .pick (.tmp 81) (.const (.bool true)) (.tmp 85), 4, "", #[], none⟩,
    ⟨some 87, .move (.tmp 86), 4, "", #[], none⟩,
    ⟨some 88, .buildSlice 22 4 #[(0, .const (.int .u8 48)), (1, .const (.int .u8 128)), (2, .const (.int .u8 0)), (3, .const (.int .u8 0))], 22, "", fz, some (87, false)⟩,
    ⟨some 89, .load 30 (.tmp 2), 30, "", #[], some (87, false)⟩,
    ⟨some 90, .call { callee := .value (.func 20), args := #[.tmp 88, .tmp 89, .const (.int .i64 1), .const (.int .i64 10)], argTypes := #[22, 30, 3, 3] }, 4, "", #[], some (87, false)⟩,
    ⟨some 91, .unOp .not 4 (.tmp 90), 4, "", #[], some (87, false)⟩,
    ⟨some 92, .pick (.tmp 87) (.const (.bool true)) (.tmp 91), 4, "", #[], none⟩,
    ⟨some 93, .move (.tmp 92), 4, "", #[], none⟩,
    ⟨some 94, .buildSlice 22 4 #[(0, .const (.int .u8 48)), (1, .const (.int .u8 2)), (2, .const (.int .u8 0)), (3, .const (.int .u8 0))], 22, "", fz, some (93, false)⟩,
    ⟨some 95, .load 30 (.tmp 2), 30, "", #[], some (93, false)⟩,
    ⟨some 96, .call { callee := .value (.func 20), args := #[.tmp 94, .tmp 95, .const (.int .i64 2), .const (.int .i64 9)], argTypes := #[22, 30, 3, 3] }, 4, "", #[], some (93, false)⟩,
    ⟨some 97, .unOp .not 4 (.tmp 96), 4, "", #[], some (93, false)⟩,
    ⟨some 98, .pick (.tmp 93) (.const (.bool true)) (.tmp 97), 4, "", #[], none⟩,
    ⟨some 99, .move (.tmp 98), 4, "", #[], none⟩,
    ⟨some 100, .buildSlice 22 3 #[(0, .const (.int .u8 48)), (1, .const (.int .u8 1)), (2, .const (.int .u8 5))], 22, "", fz, some (99, false)⟩,
    ⟨some 101, .load 30 (.tmp 2), 30, "", #[], some (99, false)⟩,
    ⟨some 102, .call { callee := .value (.func 20), args := #[.tmp 100, .tmp 101, .const (.int .i64 3), .const (.int .i64 7)], argTypes := #[22, 30, 3, 3] }, 4, "", #[], some (99, false)⟩,
    ⟨some 103, .unOp .not 4 (.tmp 102), 4, "", #[], some (99, false)⟩,
    ⟨some 104, .pick (.tmp 99) (.const (.bool true)) (.tmp 103), 4, "", #[], none⟩,
    ⟨some 105, .move (.tmp 104), 4, "", #[], none⟩,
    ⟨some 106, .load 30 (.tmp 2), 30, "", #[], some (105, false)⟩,
    ⟨some 107, .call { callee := .value (.func 20), args := #[.const (.slice none 0 0), .tmp 106, .const (.int .i64 0), .const (.int .i64 7)], argTypes := #[22, 30, 3, 3] }, 4, "", #[], some (105, false)⟩,
    ⟨some 108, .unOp .not 4 (.tmp 107), 4, "", #[], some (105, false)⟩,
    ⟨some 109, .pick (.tmp 105) (.const (.bool true)) (.tmp 108), 4, "", #[], none⟩] false)
  (.cond (.tmp 109)
    (.seq (.region 12 #[⟨some 0, .assign (.const (.bool false)), 4, "", #[], none⟩] false)
    .ret)
    .skip))
  (.seq (.region 13 #[⟨some 110, .build 27 #[(2, .const (.int .u32 4))], 27, "", #[], none⟩,
    ⟨some 111, .load 30 (.tmp 3), 30, "", #[], none⟩,
    ⟨some 112, .buildSlice 28 1 #[(0, .tmp 111)], 28, "", #[], none⟩,
    ⟨some 113, .build 30 #[(0, .tmp 110), (2, .tmp 112)], 30, "", #[], none⟩,
    ⟨some 114, .call { callee := .value (.func 32), args := #[.tmp 113], argTypes := #[30] }, 34, "", #[], none⟩,
    ⟨some 115, .binOp .eql 34 (.tmp 114) (.const (.int .i64 1)) 34, 4, "", #[], none⟩,
    ⟨some 116, .move (.tmp 115), 4, "", #[], none⟩,
    ⟨some 117, .load 30 (.tmp 3), 30, "", #[], some (116, true)⟩,
    ⟨some 118, .load 30 (.tmp 1), 30, "", #[], some (116, true)⟩,
    ⟨some 119, .call { callee := .value (.func 37), args := #[.tmp 117, .tmp 118], argTypes := #[30, 30] }, 3, "", #[], some (116, true)⟩,
    ⟨some 120, .binOp .eql 3 (.tmp 119) (.const (.int .i64 (-1))) 3, 4, "", #[], some (116, true)⟩,
    ⟨some 121, .pick (.tmp 116) (.tmp 120) (.const (.bool false)), 4, "", #[], none⟩,
    ⟨some 0, .assign (.tmp 121), 4, "", #[], none⟩] false)
  .ret)))))))))))
def fn18 : AFn := { ntmps := 122, results := [.tmp 0], body := c18, keep := fun | 0 => some [] | 1 => some [1] | 2 => some [1, 2] | 3 => some [1, 2, 3] | 4 => some [1, 2, 3, 31] | 5 => some [0] | 6 => some [1, 2, 3, 4, 5] | 7 => some [1, 2, 3, 4, 5, 7] | 8 => some [1, 2, 3, 4, 5, 7, 9, 11] | 9 => some [1, 2, 3, 76] | 10 => some [0] | 11 => some [1, 3, 109] | 12 => some [0] | 13 => some [0] | _ => none, head := fun  | _ => none, opn := fun _ => none, dyn := fun _ => [] }
def c20 : Code :=
  (.seq (.region 0 #[⟨some 5, .box 30 (.tmp 1), 0, "", #[], none⟩,
    ⟨some 8, .assign (.const (.bool false)), 4, "", #[], none⟩] false)
  (.seq (.region 1 #[⟨some 13, .move (.tmp 0), 22, "", #[], none⟩,
    ⟨some 14, .call { callee := .value (.func 34), args := #[.tmp 13], argTypes := #[22] }, 56, "", #[], none⟩,
    ⟨some 12, .move (.tmp 14), 56, "", #[], none⟩,
    ⟨some 15, .extract (.tmp 12) 0, 30, "", #[], none⟩,
    ⟨some 16, .extract (.tmp 12) 1, 3, "", #[], none⟩,
    ⟨some 17, .extract (.tmp 12) 2, 34, "", #[], none⟩,
    ⟨some 9, .alloc 30, 0, "", #[], none⟩,
    ⟨none, .store 30 (.tmp 9) (.tmp 15), 0, "", #[], none⟩,
    ⟨some 10, .assign (.tmp 16), 3, "", #[], none⟩,
    ⟨some 11, .assign (.tmp 17), 34, "", #[], none⟩] false)
  (.seq (.region 2 #[⟨some 18, .load 30 (.tmp 9), 30, "", #[], none⟩,
    ⟨some 19, .call { callee := .value (.func 26), args := #[.tmp 18, .const (.int .i64 9000)], argTypes := #[30, 3] }, 3, "", #[], none⟩,
    ⟨some 20, .binOp .leq 3 (.tmp 19) (.const (.int .i64 9000)) 3, 4, "", #[], none⟩,
    ⟨some 21, .move (.tmp 20), 4, "", #[], none⟩,
    ⟨some 22, .load 30 (.tmp 9), 30, "", #[], some (21, true)⟩,
    ⟨some 23, .load 30 (.tmp 5), 30, "", #[], some (21, true)⟩,
    ⟨some 24, .call { callee := .value (.func 24), args := #[.tmp 22, .tmp 23], argTypes := #[30, 30] }, 4, "", #[], some (21, true)⟩,
    ⟨some 25, .pick (.tmp 21) (.tmp 24) (.const (.bool false)), 4, "", #[], none⟩,
    ⟨some 26, .move (.tmp 25), 4, "", #[], none⟩,
    ⟨some 27, .load 30 (.tmp 9), 30, "", #[], some (26, true)⟩,
    ⟨some 28, .call { callee := .value (.func 27), args := #[.tmp 27], argTypes := #[30] }, 4, "", #[], some (26, true)⟩,
    ⟨some 29, .pick (.tmp 26) (.tmp 28) (.const (.bool false)), 4, "", #[], none⟩,
    ⟨some 30, .move (.tmp 29), 4, "", #[], none⟩,
    ⟨some 31, .move (.tmp 10), 3, "", #[], some (30, true)⟩,
    ⟨some 32, .move (.tmp 2), 3, "", #[], some (30, true)⟩,
    ⟨some 33, .binOp .eql 3 (.tmp 31) (.tmp 32) 3, 4, "", #[], some (30, true)⟩,
    ⟨some 34, .pick (.tmp 30) (.tmp 33) (.const (.bool false)), 4, "", #[], none⟩,
    ⟨some 35, .move (.tmp 34), 4, "", #[], none⟩,
    ⟨some 36, .move (.tmp 11), 34, "", #[], some (35, true)⟩,
    ⟨some 37, .move (.tmp 3), 3, "", #[], some (35, true)⟩,
    ⟨some 38, .binOp .eql 3 (.tmp 36) (.tmp 37) 3, 4, "", #[], some (35, true)⟩,
    ⟨some 39, .pick (.tmp 35) (.tmp 38) (.const (.bool false)), 4, "", #[], none⟩,
    ⟨some 8, .assign (.tmp 39), 4, "", #[], none⟩] false)
  .ret)))
def fn20 : AFn := { ntmps := 40, results := [.tmp 8], body := c20, keep := fun | 0 => some [0, 2, 3, 5] | 1 => some [2, 3, 5, 9, 10, 11] | 2 => some [8] | _ => none, head := fun  | _ => none, opn := fun _ => none, dyn := fun _ => [] }
def c21 : Code :=
  (.seq (.region 0 #[⟨some 1, .box 30 (.tmp 0), 0, "", #[], none⟩,
    ⟨some 2, .assign (.const (.slice none 0 0)), 22, "", #[], none⟩,
    ⟨some 3, .assign (.const (.int .i64 0)), 34, "", #[], none⟩] false)
  (.seq (.seq (.region 1 #[⟨some 6, .load 30 (.tmp 1), 30, "", #[], none⟩,
    ⟨some 7, .call { callee := .value (.func 32), args := #[.tmp 6], argTypes := #[30] }, 34, "", #[], none⟩,
    ⟨some 4, .assign (.tmp 7), 34, "", #[], none⟩] false)
  (.seq (.region 2 #[⟨some 8, .move (.tmp 4), 34, "", #[], none⟩,
    ⟨some 9, .binOp .neq 34 (.tmp 8) (.const (.int .i64 0)) 34, 4, "", #[], none⟩] false)
  (.cond (.tmp 9)
    (.seq (.region 3 #[⟨some 10, .move (.tmp 4), 34, "", #[], none⟩,
      ⟨some 2, .assign (.const (.slice none 0 0)), 22, "", #[], none⟩,
      ⟨some 3, .assign (.tmp 10), 34, "", #[], none⟩] false)
    .ret)
    .skip)))
  (.seq (.region 4 #[⟨some 11, .load 30 (.tmp 1), 30, "", #[], none⟩,
    ⟨some 12, .call { callee := .value (.func 69), args := #[.tmp 11], argTypes := #[30] }, 3, "", #[], none⟩,
    ⟨some 5, .assign (.tmp 12), 3, "", #[], none⟩] false)
  (.seq (.seq (.region 5 #[⟨some 13, .move (.tmp 5), 3, "", #[], none⟩,
    ⟨some 14, .binOp .gtr 3 (.tmp 13) (.const (.int .i64 1048576)) 3, 4, "", #[], none⟩] false)
  (.cond (.tmp 14)
    (.seq (.region 6 #[⟨some 2, .assign (.const (.slice none 0 0)), 22, "", #[], none⟩,
      ⟨some 3, .assign (.const (.int .i64 3)), 34, "", #[], none⟩] false)
    .ret)
    .skip))
  (.seq (.region 7 #[⟨some 15, .move (.tmp 5), 3, "", #[], none⟩,
    ⟨some 16, .makeSlice 22 (.const (.int .i64 0)) (.tmp 15), 22, "", #[], none⟩,
    ⟨some 17, .load 30 (.tmp 1), 30, "", #[], none⟩,
    ⟨some 18, .call { callee := .value (.func 70), args := #[.tmp 16, .tmp 17], argTypes := #[22, 30] }, 22, "", #[], none⟩,
    ⟨some 2, .assign (.tmp 18), 22, "", #[], none⟩,
    ⟨some 3, .assign (.const (.int .i64 0)), 34, "", #[], none⟩] true)
  .ret)))))
def fn21 : AFn := { ntmps := 19, results := [.tmp 2, .tmp 3], body := c21, keep := fun | 0 => some [1] | 1 => some [1, 4] | 2 => some [1, 4, 9] | 3 => some [2, 3] | 4 => some [1, 5] | 5 => some [1, 5, 14] | 6 => some [2, 3] | 7 => some [2, 3] | _ => none, head := fun  | _ => none, opn := opnT, dyn := fun | 7 => [(3, 3)] | _ => [] }
def c22 : Code :=
  (.seq (.region 0 #[⟨some 1, .box 40 (.tmp 0), 0, "", #[], none⟩,
    ⟨some 2, .alloc 30, 0, "", #[], none⟩] false)
  (.seq (.region 1 #[⟨some 3, .assign (.const (.slice none 0 0)), 28, "", #[], none⟩] false)
  (.seq (.seq (.region 2 #[⟨some 4, .assign (.const (.int .i64 0)), 3, "", #[], none⟩] false)
  (.block 0 (.loop (.seq (.seq (.region 3 #[⟨some 9, .move (.tmp 4), 3, "", #[], none⟩,
    ⟨some 10, .fieldAddr 40 (.tmp 1) 0, 0, "", #[], none⟩,
    ⟨some 11, .load 38 (.tmp 10), 38, "", #[], none⟩,
    ⟨some 12, .call { callee := .builtin .len, args := #[.tmp 11], argTypes := #[38] }, 3, "", #[], none⟩,
    ⟨some 13, .binOp .lss 3 (.tmp 9) (.tmp 12) 3, 4, "", #[], none⟩,
    ⟨some 14, .move (.tmp 13), 4, "", #[], none⟩,
    ⟨some 15, .move (.tmp 4), 3, "", #[], some (14, true)⟩,
    ⟨some 16, .binOp .lss 3 (.tmp 15) (.const (.int .i64 39)) 3, 4, "", #[], some (14, true)⟩,
    ⟨some 17, .pick (.tmp 14) (.tmp 16) (.const (.bool false)), 4, "", #[], none⟩] false)
  (.cond (.tmp 17)
    .skip
    (.exit 0)))
  (.seq (.block 1 (.seq (.region 5 #[⟨some 20, .fieldAddr 40 (.tmp 1) 0, 0, "", #[], none⟩,
    ⟨some 21, .load 38 (.tmp 20), 38, "", #[], none⟩,
    ⟨some 22, .move (.tmp 4), 3, "", #[], none⟩,
    ⟨some 23, .indexAddr 38 (.tmp 21) (.tmp 22), 0, "", #[], none⟩,
    ⟨some 24, .load 107 (.tmp 23), 107, "", #[], none⟩,
    ⟨some 5, .alloc 107, 0, "", #[], none⟩,
    ⟨none, .store 107 (.tmp 5) (.tmp 24), 0, "", #[], none⟩] false)
  (.seq (.seq (.region 6 #[⟨some 25, .fieldAddr 107 (.tmp 5) 0, 0, "", #[], none⟩,
    ⟨some 26, .load 5 (.tmp 25), 5, "", #[], none⟩,
    ⟨some 27, .binOp .rem 5 (.tmp 26) (.const (.int .u8 3)) 5, 5, "", #[], none⟩,
    ⟨some 28, .binOp .eql 5 (.tmp 27) (.const (.int .u8 0)) 5, 4, "", #[], none⟩] false)
  (.cond (.tmp 28)
    (.seq (.region 7 #[⟨some 29, .fieldAddr 107 (.tmp 5) 2, 0, "", #[], none⟩,
      ⟨some 30, .fieldAddr 105 (.tmp 29) 1, 0, "", #[], none⟩,
      ⟨none, .store 5 (.tmp 30) (.const (.int .u8 0)), 0, "", #[], none⟩] false)
    (.seq (.region 8 #[⟨some 31, .fieldAddr 107 (.tmp 5) 2, 0, "", #[], none⟩,
      ⟨some 32, .load 105 (.tmp 31), 105, "", #[], none⟩,
      ⟨some 33, .call { callee := .value (.func 71), args := #[.tmp 32], argTypes := #[105] }, 27, "", #[], none⟩,
      ⟨some 34, .build 30 #[(0, .tmp 33)], 30, "", #[], none⟩,
      ⟨some 6, .alloc 30, 0, "", #[], none⟩,
      ⟨none, .store 30 (.tmp 6) (.tmp 34), 0, "", #[], none⟩] false)
    (.seq (.region 9 #[⟨some 35, .fieldAddr 30 (.tmp 6) 1, 0, "", #[], none⟩,
      ⟨some 36, .load 22 (.tmp 35), 22, "", #[], none⟩,
      ⟨some 37, .fieldAddr 107 (.tmp 5) 3, 0, "", #[], none⟩,
      ⟨some 38, .load 22 (.tmp 37), 22, "", #[], none⟩,
      ⟨some 39, .fieldAddr 107 (.tmp 5) 3, 0, "", #[], none⟩,
      ⟨some 40, .load 22 (.tmp 39), 22, "", #[], none⟩,
      ⟨some 41, .call { callee := .builtin .len, args := #[.tmp 40], argTypes := #[22] }, 3, "", #[], none⟩,
      ⟨some 42, .call { callee := .builtin .min, args := #[.const (.int .i64 20), .tmp 41], argTypes := #[3, 3] }, 3, "", #[], none⟩,
      ⟨some 43, .slice 22 (.tmp 38) none (some (.tmp 42)) none, 22, "", #[], none⟩,
      ⟨some 44, .call { callee := .builtin .append, args := #[.tmp 36, .tmp 43], argTypes := #[22, 22] }, 22, "", fz, none⟩,
      ⟨some 45, .fieldAddr 30 (.tmp 6) 1, 0, "", #[], none⟩,
      ⟨none, .store 22 (.tmp 45) (.tmp 44), 0, "", #[], none⟩] true)
    (.seq (.region 10 #[⟨some 46, .move (.tmp 3), 28, "", #[], none⟩,
      ⟨some 47, .load 30 (.tmp 6), 30, "", #[], none⟩,
      ⟨some 48, .buildSlice 28 1 #[(0, .tmp 47)], 28, "", #[], none⟩,
      ⟨some 49, .call { callee := .builtin .append, args := #[.tmp 46, .tmp 48], argTypes := #[28, 28] }, 28, "", #[], none⟩,
      ⟨some 3, .assign (.tmp 49), 28, "", #[], none⟩] false)
    (.exit 1)))))
    .skip))
  (.seq (.region 11 #[⟨some 50, .fieldAddr 107 (.tmp 5) 2, 0, "", #[], none⟩,
    ⟨some 51, .fieldAddr 105 (.tmp 50) 1, 0, "", #[], none⟩,
    ⟨none, .store 5 (.tmp 51) (.const (.int .u8 1)), 0, "", #[], none⟩] false)
  (.seq (.region 12 #[⟨some 52, .fieldAddr 107 (.tmp 5) 1, 0, "", #[], none⟩,
    ⟨some 53, .load 5 (.tmp 52), 5, "", #[], none⟩,
    ⟨some 54, .binOp .rem 5 (.tmp 53) (.const (.int .u8 5)) 5, 5, "", #[], none⟩,
    ⟨some 55, .convert 5 3 (.tmp 54), 3, "", #[], none⟩,
    ⟨some 56, .move (.tmp 3), 28, "", #[], none⟩,
    ⟨some 57, .call { callee := .builtin .len, args := #[.tmp 56], argTypes := #[28] }, 3, "", #[], none⟩,
    ⟨some 58, .call { callee := .builtin .min, args := #[.tmp 55, .tmp 57], argTypes := #[3, 3] }, 3, "", #[], none⟩,
    ⟨some 7, .assign (.tmp 58), 3, "", #[], none⟩] false)
  (.seq (.seq (.region 13 #[⟨some 59, .fieldAddr 107 (.tmp 5) 0, 0, "", #[], none⟩,
    ⟨some 60, .load 5 (.tmp 59), 5, "", #[], none⟩,
    ⟨some 61, .binOp .rem 5 (.tmp 60) (.const (.int .u8 3)) 5, 5, "", #[], none⟩,
    ⟨some 62, .binOp .eql 5 (.tmp 61) (.const (.int .u8 2)) 5, 4, "", #[], none⟩] false)
  (.cond (.tmp 62)
    (.region 14 #[⟨some 63, .move (.tmp 3), 28, "", #[], none⟩,
      ⟨some 64, .call { callee := .builtin .len, args := #[.tmp 63], argTypes := #[28] }, 3, "", #[], none⟩,
      ⟨some 7, .assign (.tmp 64), 3, "", #[], none⟩] false)
    .skip))
  (.seq (.region 15 #[⟨some 65, .fieldAddr 107 (.tmp 5) 2, 0, "", #[], none⟩,
    ⟨some 66, .load 105 (.tmp 65), 105, "", #[], none⟩,
    ⟨some 67, .call { callee := .value (.func 71), args := #[.tmp 66], argTypes := #[105] }, 27, "", #[], none⟩,
    ⟨some 68, .build 30 #[(0, .tmp 67)], 30, "", #[], none⟩,
    ⟨some 8, .alloc 30, 0, "", #[], none⟩,
    ⟨none, .store 30 (.tmp 8) (.tmp 68), 0, "", #[], none⟩] false)
  (.seq (.region 16 #[⟨some 69, .fieldAddr 30 (.tmp 8) 2, 0, "", #[], none⟩,
    ⟨some 70, .load 28 (.tmp 69), 28, "", #[], none⟩,
    ⟨some 71, .move (.tmp 3), 28, "", #[], none⟩,
    ⟨some 72, .move (.tmp 3), 28, "", #[], none⟩,
    ⟨some 73, .call { callee := .builtin .len, args := #[.tmp 72], argTypes := #[28] }, 3, "", #[], none⟩,
    ⟨some 74, .move (.tmp 7), 3, "", #[], none⟩,
    ⟨some 75, .binOp .sub 3 (.tmp 73) (.tmp 74) 3, 3, "", #[], none⟩,
    ⟨some 76, .slice 28 (.tmp 71) (some (.tmp 75)) none none, 28, "", #[], none⟩,
    ⟨some 77, .call { callee := .builtin .append, args := #[.tmp 70, .tmp 76], argTypes := #[28, 28] }, 28, "", fz, none⟩,
    ⟨some 78, .fieldAddr 30 (.tmp 8) 2, 0, "", #[], none⟩,
    ⟨none, .store 28 (.tmp 78) (.tmp 77), 0, "", #[], none⟩] true)
  (.seq (.region 17 #[⟨some 79, .load 30 (.tmp 8), 30, "", #[], none⟩,
    ⟨some 80, .call { callee := .value (.func 40), args := #[.tmp 79], argTypes := #[30] }, 3, "", #[], none⟩,
    ⟨some 81, .binOp .lss 3 (.tmp 80) (.const (.int .i64 15)) 3, 4, "", #[], none⟩] false)
  (.cond (.tmp 81)
    (.region 18 #[⟨some 82, .buildSlice 28 0 #[], 28, "", #[], none⟩,
      ⟨some 83, .move (.tmp 3), 28, "", #[], none⟩,
      ⟨some 84, .move (.tmp 3), 28, "", #[], none⟩,
      ⟨some 85, .call { callee := .builtin .len, args := #[.tmp 84], argTypes := #[28] }, 3, "", #[], none⟩,
      ⟨some 86, .move (.tmp 7), 3, "", #[], none⟩,
      ⟨some 87, .binOp .sub 3 (.tmp 85) (.tmp 86) 3, 3, "", #[], none⟩,
      ⟨some 88, .slice 28 (.tmp 83) none (some (.tmp 87)) none, 28, "", #[], none⟩,
      ⟨some 89, .call { callee := .builtin .append, args := #[.tmp 82, .tmp 88], argTypes := #[28, 28] }, 28, "", #[], none⟩,
      ⟨some 90, .load 30 (.tmp 8), 30, "", #[], none⟩,
      ⟨some 91, .buildSlice 28 1 #[(0, .tmp 90)], 28, "", #[], none⟩,
      ⟨some 92, .call { callee := .builtin .append, args := #[.tmp 89, .tmp 91], argTypes := #[28, 28] }, 28, "", #[], none⟩,
      ⟨some 3, .assign (.tmp 92), 28, "", #[], none⟩] true)
    .skip))))))))))
  (.region 4 #[⟨some 18, .move (.tmp 4), 3, "", #[], none⟩,
    ⟨some 19, .binOp .add 3 (.tmp 18) (.const (.int .i64 1)) 3, 3, "", #[], none⟩,
    ⟨some 4, .assign (.tmp 19), 3, "", #[], none⟩] false))))))
  (.seq (.seq (.region 19 #[⟨some 93, .move (.tmp 3), 28, "", #[], none⟩,
    ⟨some 94, .call { callee := .builtin .len, args := #[.tmp 93], argTypes := #[28] }, 3, "", #[], none⟩,
    ⟨some 95, .binOp .eql 3 (.tmp 94) (.const (.int .i64 1)) 3, 4, "", #[], none⟩] false)
  (.cond (.tmp 95)
    (.seq (.region 20 #[⟨some 96, .move (.tmp 3), 28, "", #[], none⟩,
      ⟨some 97, .indexAddr 28 (.tmp 96) (.const (.int .i64 0)), 0, "", #[], none⟩,
      ⟨some 98, .load 30 (.tmp 97), 30, "", #[], none⟩,
      ⟨none, .store 30 (.tmp 2) (.tmp 98), 0, "", #[], none⟩] false)
    .ret)
    .skip))
  (.seq (.region 21 #[⟨some 99, .build 27 #[(1, .const (.bool true)), (2, .const (.int .u32 16))], 27, "", #[], none⟩,
    ⟨some 100, .move (.tmp 3), 28, "", #[], none⟩,
    ⟨some 101, .build 30 #[(0, .tmp 99), (2, .tmp 100)], 30, "", #[], none⟩,
    ⟨none, .store 30 (.tmp 2) (.tmp 101), 0, "", #[], none⟩] false)
  .ret)))))
def fn22 : AFn := { ntmps := 102, results := [.cell 2 30], body := c22, keep := fun | 0 => some [1, 2] | 1 => some [1, 2, 3] | 2 => some [1, 2, 3, 4] | 3 => some [1, 2, 3, 4, 17] | 4 => some [1, 2, 3, 4] | 5 => some [1, 2, 3, 4, 5] | 6 => some [1, 2, 3, 4, 5, 28] | 7 => some [1, 2, 3, 4, 5] | 8 => some [1, 2, 3, 4, 5, 6] | 9 => some [1, 2, 3, 4, 6] | 10 => some [1, 2, 3, 4] | 11 => some [1, 2, 3, 4, 5] | 12 => some [1, 2, 3, 4, 5, 7] | 13 => some [1, 2, 3, 4, 5, 7, 62] | 14 => some [1, 2, 3, 4, 5, 7] | 15 => some [1, 2, 3, 4, 7, 8] | 16 => some [1, 2, 3, 4, 7, 8] | 17 => some [1, 2, 3, 4, 7, 8, 81] | 18 => some [1, 2, 3, 4] | 19 => some [2, 3, 95] | 20 => some [2] | 21 => some [2] | _ => none, head := fun | 3 => some [1, 2, 3, 4] | _ => none, opn := fun _ => none, dyn := fun | 18 => [(7, 8)] | _ => [] }
def d23_0 : Code :=
  (.region 0 #[⟨some 2, .alloc 30, 0, "", #[], none⟩,
    ⟨some 3, .alloc 3, 0, "", #[], none⟩,
    ⟨some 4, .alloc 3, 0, "", #[], none⟩,
    ⟨some 5, .alloc 34, 0, "", #[], none⟩] false)
def d23_1 : Code :=
  (.region 1 #[⟨some 7, .move (.tmp 0), 22, "", #[], none⟩,
    ⟨some 8, .call { callee := .builtin .len, args := #[.tmp 7], argTypes := #[22] }, 3, "", #[], none⟩,
    ⟨some 9, .binOp .gtr 3 (.tmp 8) (.const (.int .i64 1048576)) 3, 4, "", #[], none⟩] false)
def d23_2 : Code :=
  (.cond (.tmp 9)
    (.seq (.region 2 #[⟨some 10, .build 30 #[], 30, "", #[], none⟩,
      ⟨none, .store 30 (.tmp 2) (.tmp 10), 0, "", #[], none⟩,
      ⟨none, .store 3 (.tmp 3) (.const (.int .i64 0)), 0, "", #[], none⟩,
      ⟨none, .store 3 (.tmp 4) (.const (.int .i64 0)), 0, "", #[], none⟩,
      ⟨none, .store 34 (.tmp 5) (.const (.int .i64 3)), 0, "", #[], none⟩] false)
    .ret)
    .skip)
def d23_4 : Code :=
  (.region 4 #[⟨some 12, .move (.tmp 0), 22, "", #[], none⟩,
    ⟨some 13, .build 113 #[(0, .tmp 12)], 113, "", #[], none⟩,
    ⟨some 6, .alloc 113, 0, "", #[], none⟩,
    ⟨none, .store 113 (.tmp 6) (.tmp 13), 0, "", #[], none⟩] false)
def d23_5 : Code :=
  (.region 5 #[⟨some 15, .move (.tmp 0), 22, "", #[], none⟩,
    ⟨some 16, .call { callee := .builtin .len, args := #[.tmp 15], argTypes := #[22] }, 3, "", #[], none⟩,
    ⟨some 17, .call { callee := .value (.func 73), args := #[.tmp 6, .const (.int .i64 0), .tmp 16, .const (.int .i64 1)], argTypes := #[113, 3, 3, 3] }, 114, "", #[], none⟩,
    ⟨some 14, .move (.tmp 17), 114, "", #[], none⟩,
    ⟨some 18, .extract (.tmp 14) 0, 30, "", #[], none⟩,
    ⟨some 19, .extract (.tmp 14) 1, 3, "", #[], none⟩,
    ⟨none, .store 30 (.tmp 2) (.tmp 18), 0, "", #[], none⟩,
    ⟨none, .store 3 (.tmp 3) (.tmp 19), 0, "", #[], none⟩] false)
def d23_6 : Code :=
  (.region 6 #[⟨some 20, .load 30 (.tmp 2), 30, "", #[], none⟩,
    ⟨some 21, .load 3 (.tmp 3), 3, "", #[], none⟩,
    ⟨none, .store 30 (.tmp 2) (.tmp 20), 0, "", #[], none⟩,
    ⟨none, .store 3 (.tmp 3) (.tmp 21), 0, "", #[], none⟩,
    ⟨none, .store 3 (.tmp 4) (.const (.int .i64 0)), 0, "", #[], none⟩,
    ⟨none, .store 34 (.tmp 5) (.const (.int .i64 0)), 0, "", #[], none⟩] true)
def d23_7 : Code :=
  .ret
def e23_0 : Code :=
  (.region 1 #[⟨some 8, .move (.tmp 4), 20, "", #[], none⟩,
    ⟨some 9, .binOp .neq 20 (.tmp 8) (.const .nilIface) 20, 4, "", #[], none⟩] false)
def e23_1 : Code :=
  (.cond (.tmp 9)
    (.seq (.region 2 #[⟨some 11, .move (.tmp 4), 20, "", #[], none⟩,
      ⟨some 12, .typeAssert (.tmp 11) 20 110 true, 111, "", #[], none⟩,
      ⟨some 10, .move (.tmp 12), 111, "", #[], none⟩,
      ⟨some 13, .extract (.tmp 10) 0, 110, "", #[], none⟩,
      ⟨some 14, .extract (.tmp 10) 1, 4, "", #[], none⟩,
      ⟨some 5, .alloc 110, 0, "", #[], none⟩,
      ⟨none, .store 110 (.tmp 5) (.tmp 13), 0, "", #[], none⟩,
      ⟨some 6, .assign (.tmp 14), 4, "", #[], none⟩] false)
    (.seq (.seq (.region 3 #[⟨some 15, .move (.tmp 6), 4, "", #[], none⟩,
      ⟨some 16, .unOp .not 4 (.tmp 15), 4, "", #[], none⟩] false)
    (.cond (.tmp 16)
      (.region 4 #[⟨some 17, .move (.tmp 4), 20, "", #[], none⟩,
        ⟨none, .panic (.tmp 17), 0, "", #[], none⟩] false)
      .skip))
    (.region 5 #[⟨some 18, .build 30 #[], 30, "", #[], none⟩,
      ⟨some 19, .fieldAddr 110 (.tmp 5) 0, 0, "", #[], none⟩,
      ⟨some 20, .load 3 (.tmp 19), 3, "", #[], none⟩,
      ⟨some 21, .fieldAddr 110 (.tmp 5) 1, 0, "", #[], none⟩,
      ⟨some 22, .load 34 (.tmp 21), 34, "", #[], none⟩,
      ⟨none, .store 30 (.tmp 0) (.tmp 18), 0, "", #[], none⟩,
      ⟨none, .store 3 (.tmp 1) (.const (.int .i64 0)), 0, "", #[], none⟩,
      ⟨none, .store 3 (.tmp 2) (.tmp 20), 0, "", #[], none⟩,
      ⟨none, .store 34 (.tmp 3) (.tmp 22), 0, "", #[], none⟩] true)))
    .skip)
def fn23 : AFn := { ntmps := 22, results := [.cell 2 30, .cell 3 3, .cell 4 3, .cell 5 34], body := .refuse "", keep := fun | 0 => some [0, 2, 3, 4, 5] | 1 => some [0, 2, 3, 4, 5, 9] | 2 => some [2, 3, 4, 5] | 3 => some [0, 2, 3, 4, 5] | 4 => some [0, 2, 3, 4, 5, 6] | 5 => some [2, 3, 4, 5] | 6 => some [2, 3, 4, 5] | _ => none, head := fun  | _ => none, opn := opnT, dyn := fun | 6 => [(1, 2)] | _ => [] }
def gfn23 : AFn := { ntmps := 23, results := [], body := .refuse "", keep := fun | 0 => some [0, 1, 2, 3, 4] | 1 => some [0, 1, 2, 3, 4, 9] | 2 => some [0, 1, 2, 3, 4, 5, 6] | 3 => some [0, 1, 2, 3, 4, 5, 16] | 4 => some [0, 1, 2, 3, 5] | 5 => some [] | _ => none, head := fun  | _ => none, opn := opnT, dyn := fun | 5 => [(2, 5), (4, 5), (2, 6), (4, 6), (4, 7)] | _ => [] }
def grd23 : Grd := { pre := [d23_0, d23_1, d23_2], t := 11, caps := [2, 3, 4, 5], post := [d23_4, d23_5, d23_6, d23_7], g := 72, rs := [4, 7], gfn := gfn23, gpost := [e23_0, e23_1] }
def c24 : Code :=
  (.seq (.region 0 #[⟨some 2, .box 30 (.tmp 0), 0, "", #[], none⟩,
    ⟨some 3, .box 30 (.tmp 1), 0, "", #[], none⟩,
    ⟨some 4, .assign (.const (.bool false)), 4, "", #[], none⟩] false)
  (.seq (.seq (.region 1 #[⟨some 6, .fieldAddr 30 (.tmp 2) 0, 0, "", #[], none⟩,
    ⟨some 7, .load 27 (.tmp 6), 27, "", #[], none⟩,
    ⟨some 8, .fieldAddr 30 (.tmp 3) 0, 0, "", #[], none⟩,
    ⟨some 9, .load 27 (.tmp 8), 27, "", #[], none⟩,
    ⟨some 10, .binOp .neq 27 (.tmp 7) (.tmp 9) 27, 4, "", #[], none⟩,
    ⟨some 11, .move (.tmp 10), 4, "", #[], none⟩,
    ⟨some 12, .fieldAddr 30 (.tmp 2) 1, 0, "", #[], some (11, false)⟩,
    ⟨some 13, .load 22 (.tmp 12), 22, "", #[], some (11, false)⟩,
    ⟨some 14, .convert 22 9 (.tmp 13), 9, "", #[], some (11, false)⟩,
    ⟨some 15, .fieldAddr 30 (.tmp 3) 1, 0, "", #[], some (11, false)⟩,
    ⟨some 16, .load 22 (.tmp 15), 22, "", #[], some (11, false)⟩,
    ⟨some 17, .convert 22 9 (.tmp 16), 9, "", #[], some (11, false)⟩,
    ⟨some 18, .binOp .neq 9 (.tmp 14) (.tmp 17) 9, 4, "", #[], some (11, false)⟩,
    ⟨some 19, .pick (.tmp 11) (.const (.bool true)) (.tmp 18), 4, "", #[], none⟩,
    ⟨some 20, .move (.tmp 19), 4, "", #[], none⟩,
    ⟨some 21, .fieldAddr 30 (.tmp 2) 2, 0, "", #[], some (20, false)⟩,
    ⟨some 22, .load 28 (.tmp 21), 28, "", #[], some (20, false)⟩,
    ⟨some 23, .call { callee := .builtin .len, args := #[.tmp 22], argTypes := #[28] }, 3, "", #[], some (20, false)⟩,
    ⟨some 24, .fieldAddr 30 (.tmp 3) 2, 0, "", #[], some (20, false)⟩,
    ⟨some 25, .load 28 (.tmp 24), 28, "", #[], some (20, false)⟩,
    ⟨some 26, .call { callee := .builtin .len, args := #[.tmp 25], argTypes := #[28] }, 3, "", #[], some (20, false)⟩,
    ⟨some 27, .binOp .neq 3 (.tmp 23) (.tmp 26) 3, 4, "", #[], some (20, false)⟩,
    ⟨some 28, .pick (.tmp 20) (.const (.bool true)) (.tmp 27), 4, "", #[], none⟩] false)
  (.cond (.tmp 28)
    (.seq (.region 2 #[⟨some 4, .assign (.const (.bool false)), 4, "", #[], none⟩] false)
    .ret)
    .skip))
  (.seq (.seq (.region 3 #[⟨some 5, .assign (.const (.int .i64 0)), 3, "", #[], none⟩] false)
  (.block 0 (.loop (.seq (.seq (.region 4 #[⟨some 29, .move (.tmp 5), 3, "", #[], none⟩,
    ⟨some 30, .fieldAddr 30 (.tmp 2) 2, 0, "", #[], none⟩,
    ⟨some 31, .load 28 (.tmp 30), 28, "", #[], none⟩,
    ⟨some 32, .call { callee := .builtin .len, args := #[.tmp 31], argTypes := #[28] }, 3, "", #[], none⟩,
    ⟨some 33, .binOp .lss 3 (.tmp 29) (.tmp 32) 3, 4, "", #[], none⟩] false)
  (.cond (.tmp 33)
    .skip
    (.exit 0)))
  (.seq (.block 1 (.seq (.region 6 #[⟨some 36, .fieldAddr 30 (.tmp 2) 2, 0, "", #[], none⟩,
    ⟨some 37, .load 28 (.tmp 36), 28, "", #[], none⟩,
    ⟨some 38, .move (.tmp 5), 3, "", #[], none⟩,
    ⟨some 39, .indexAddr 28 (.tmp 37) (.tmp 38), 0, "", #[], none⟩,
    ⟨some 40, .load 30 (.tmp 39), 30, "", #[], none⟩,
    ⟨some 41, .fieldAddr 30 (.tmp 3) 2, 0, "", #[], none⟩,
    ⟨some 42, .load 28 (.tmp 41), 28, "", #[], none⟩,
    ⟨some 43, .move (.tmp 5), 3, "", #[], none⟩,
    ⟨some 44, .indexAddr 28 (.tmp 42) (.tmp 43), 0, "", #[], none⟩,
    ⟨some 45, .load 30 (.tmp 44), 30, "", #[], none⟩,
    ⟨some 46, .call { callee := .value (.func 24), args := #[.tmp 40, .tmp 45], argTypes := #[30, 30] }, 4, "", #[], none⟩,
    ⟨some 47, .unOp .not 4 (.tmp 46), 4, "", #[], none⟩] true)
  (.cond (.tmp 47)
    (.seq (.region 7 #[⟨some 4, .assign (.const (.bool false)), 4, "", #[], none⟩] false)
    .ret)
    .skip)))
  (.region 5 #[⟨some 34, .move (.tmp 5), 3, "", #[], none⟩,
    ⟨some 35, .binOp .add 3 (.tmp 34) (.const (.int .i64 1)) 3, 3, "", #[], none⟩,
    ⟨some 5, .assign (.tmp 35), 3, "", #[], none⟩] false))))))
  (.seq (.region 8 #[⟨some 4, .assign (.const (.bool true)), 4, "", #[], none⟩] false)
  .ret))))
def fn24 : AFn := { ntmps := 48, results := [.tmp 4], body := c24, keep := fun | 0 => some [2, 3] | 1 => some [2, 3, 28] | 2 => some [4] | 3 => some [2, 3, 5] | 4 => some [2, 3, 5, 33] | 5 => some [2, 3, 5] | 6 => some [2, 3, 5, 47] | 7 => some [4] | 8 => some [4] | _ => none, head := fun | 4 => some [2, 3, 5] | _ => none, opn := fun _ => none, dyn := fun _ => [] }
def c25 : Code :=
  (.seq (.region 0 #[⟨some 2, .box 30 (.tmp 0), 0, "", #[], none⟩,
    ⟨some 4, .alloc 30, 0, "", #[], none⟩,
    ⟨some 5, .assign (.const (.int .i64 0)), 34, "", #[], none⟩] false)
  (.seq (.seq (.region 1 #[⟨some 9, .load 30 (.tmp 2), 30, "", #[], none⟩,
    ⟨some 10, .call { callee := .value (.func 32), args := #[.tmp 9], argTypes := #[30] }, 34, "", #[], none⟩,
    ⟨some 6, .assign (.tmp 10), 34, "", #[], none⟩] false)
  (.seq (.region 2 #[⟨some 11, .move (.tmp 6), 34, "", #[], none⟩,
    ⟨some 12, .binOp .neq 34 (.tmp 11) (.const (.int .i64 0)) 34, 4, "", #[], none⟩] false)
  (.cond (.tmp 12)
    (.seq (.region 3 #[⟨some 13, .build 30 #[], 30, "", #[], none⟩,
      ⟨some 14, .move (.tmp 6), 34, "", #[], none⟩,
      ⟨none, .store 30 (.tmp 4) (.tmp 13), 0, "", #[], none⟩,
      ⟨some 5, .assign (.tmp 14), 34, "", #[], none⟩] false)
    .ret)
    .skip)))
  (.seq (.seq (.region 4 #[⟨some 15, .move (.tmp 1), 47, "", #[], none⟩,
    ⟨some 16, .call { callee := .builtin .len, args := #[.tmp 15], argTypes := #[47] }, 3, "", #[], none⟩,
    ⟨some 17, .move (.const (.int .i64 0)), 3, "", #[], none⟩] false)
  (.block 0 (.loop (.seq (.region 5 #[⟨some 18, .binOp .lss 3 (.tmp 17) (.tmp 16) 3, 0, "", #[], none⟩] false)
  (.seq (.cond (.tmp 18)
    .skip
    (.exit 0))
  (.seq (.block 1 (.seq (.region 6 #[⟨some 19, .indexAddr 47 (.tmp 15) (.tmp 17), 0, "", #[], none⟩,
    ⟨some 20, .load 3 (.tmp 19), 3, "", #[], none⟩,
    ⟨some 8, .assign (.tmp 20), 3, "", #[], none⟩] false)
  (.seq (.seq (.region 7 #[⟨some 21, .move (.tmp 8), 3, "", #[], none⟩,
    ⟨some 22, .binOp .lss 3 (.tmp 21) (.const (.int .i64 0)) 3, 4, "", #[], none⟩,
    ⟨some 23, .move (.tmp 22), 4, "", #[], none⟩,
    ⟨some 24, .move (.tmp 8), 3, "", #[], some (23, false)⟩,
    ⟨some 25, .fieldAddr 30 (.tmp 2) 2, 0, "", #[], some (23, false)⟩,
    ⟨some 26, .load 28 (.tmp 25), 28, "", #[], some (23, false)⟩,
    ⟨some 27, .call { callee := .builtin .len, args := #[.tmp 26], argTypes := #[28] }, 3, "", #[], some (23, false)⟩,
    ⟨some 28, .binOp .geq 3 (.tmp 24) (.tmp 27) 3, 4, "", #[], some (23, false)⟩,
    ⟨some 29, .pick (.tmp 23) (.const (.bool true)) (.tmp 28), 4, "", #[], none⟩] false)
  (.cond (.tmp 29)
    (.seq (.region 8 #[⟨some 30, .build 30 #[], 30, "", #[], none⟩,
      ⟨none, .store 30 (.tmp 4) (.tmp 30), 0, "", #[], none⟩,
      ⟨some 5, .assign (.const (.int .i64 19)), 34, "", #[], none⟩] false)
    .ret)
    .skip))
  (.region 9 #[⟨some 31, .fieldAddr 30 (.tmp 2) 2, 0, "", #[], none⟩,
    ⟨some 32, .load 28 (.tmp 31), 28, "", #[], none⟩,
    ⟨some 33, .move (.tmp 8), 3, "", #[], none⟩,
    ⟨some 34, .indexAddr 28 (.tmp 32) (.tmp 33), 0, "", #[], none⟩,
    ⟨some 35, .load 30 (.tmp 34), 30, "", #[], none⟩,
    ⟨none, .store 30 (.tmp 2) (.tmp 35), 0, "", #[], none⟩] false))))
  (.region 10 #[⟨some 36, .binOp .add 3 (.tmp 17) (.const (.int .i64 1)) 3, 3, "", #[], none⟩,
    ⟨some 17, .move (.tmp 36), 3, "", #[], none⟩] false)))))))
  (.seq (.region 11 #[⟨some 37, .load 30 (.tmp 2), 30, "", #[], none⟩,
    ⟨some 38, .call { callee := .value (.func 74), args := #[.tmp 37], argTypes := #[30] }, 30, "", #[], none⟩,
    ⟨none, .store 30 (.tmp 4) (.tmp 38), 0, "", #[], none⟩,
    ⟨some 5, .assign (.const (.int .i64 0)), 34, "", #[], none⟩] false)
  .ret))))
def fn25 : AFn := { ntmps := 39, results := [.cell 4 30, .tmp 5], body := c25, keep := fun | 0 => some [1, 2, 4] | 1 => some [1, 2, 4, 6] | 2 => some [1, 2, 4, 6, 12] | 3 => some [4, 5] | 4 => some [2, 4, 15, 16, 17] | 5 => some [2, 4, 15, 16, 17, 18] | 6 => some [2, 4, 8, 15, 16, 17] | 7 => some [2, 4, 8, 15, 16, 17, 29] | 8 => some [4, 5] | 9 => some [2, 4, 15, 16, 17] | 10 => some [2, 4, 15, 16, 17] | 11 => some [4, 5] | _ => none, head := fun | 5 => some [2, 4, 15, 16, 17] | _ => none, opn := fun _ => none, dyn := fun _ => [] }
def c26 : Code :=
  (.seq (.region 0 #[⟨some 2, .box 30 (.tmp 0), 0, "", #[], none⟩,
    ⟨some 4, .assign (.const (.int .i64 0)), 3, "", #[], none⟩] false)
  (.seq (.seq (.region 1 #[⟨some 7, .move (.tmp 1), 3, "", #[], none⟩,
    ⟨some 8, .binOp .leq 3 (.tmp 7) (.const (.int .i64 0)) 3, 4, "", #[], none⟩] false)
  (.cond (.tmp 8)
    (.seq (.region 2 #[⟨some 4, .assign (.const (.int .i64 1)), 3, "", #[], none⟩] false)
    .ret)
    .skip))
  (.seq (.region 3 #[⟨some 5, .assign (.const (.int .i64 1)), 3, "", #[], none⟩] false)
  (.seq (.seq (.region 4 #[⟨some 6, .assign (.const (.int .i64 0)), 3, "", #[], none⟩] false)
  (.block 0 (.loop (.seq (.seq (.region 5 #[⟨some 9, .move (.tmp 6), 3, "", #[], none⟩,
    ⟨some 10, .fieldAddr 30 (.tmp 2) 2, 0, "", #[], none⟩,
    ⟨some 11, .load 28 (.tmp 10), 28, "", #[], none⟩,
    ⟨some 12, .call { callee := .builtin .len, args := #[.tmp 11], argTypes := #[28] }, 3, "", #[], none⟩,
    ⟨some 13, .binOp .lss 3 (.tmp 9) (.tmp 12) 3, 4, "", #[], none⟩,
    ⟨some 14, .move (.tmp 13), 4, "", #[], none⟩,
    ⟨some 15, .move (.tmp 5), 3, "", #[], some (14, true)⟩,
    ⟨some 16, .move (.tmp 1), 3, "", #[], some (14, true)⟩,
    ⟨some 17, .binOp .leq 3 (.tmp 15) (.tmp 16) 3, 4, "", #[], some (14, true)⟩,
    ⟨some 18, .pick (.tmp 14) (.tmp 17) (.const (.bool false)), 4, "", #[], none⟩] false)
  (.cond (.tmp 18)
    .skip
    (.exit 0)))
  (.seq (.block 1 (.region 7 #[⟨some 21, .move (.tmp 5), 3, "", #[], none⟩,
    ⟨some 22, .fieldAddr 30 (.tmp 2) 2, 0, "", #[], none⟩,
    ⟨some 23, .load 28 (.tmp 22), 28, "", #[], none⟩,
    ⟨some 24, .move (.tmp 6), 3, "", #[], none⟩,
    ⟨some 25, .indexAddr 28 (.tmp 23) (.tmp 24), 0, "", #[], none⟩,
    ⟨some 26, .load 30 (.tmp 25), 30, "", #[], none⟩,
    ⟨some 27, .move (.tmp 1), 3, "", #[], none⟩,
    ⟨some 28, .move (.tmp 5), 3, "", #[], none⟩,
    ⟨some 29, .binOp .sub 3 (.tmp 27) (.tmp 28) 3, 3, "", #[], none⟩,
    ⟨some 30, .call { callee := .value (.func 26), args := #[.tmp 26, .tmp 29], argTypes := #[30, 3] }, 3, "", #[], none⟩,
    ⟨some 31, .binOp .add 3 (.tmp 21) (.tmp 30) 3, 3, "", #[], none⟩,
    ⟨some 5, .assign (.tmp 31), 3, "", #[], none⟩] false))
  (.region 6 #[⟨some 19, .move (.tmp 6), 3, "", #[], none⟩,
    ⟨some 20, .binOp .add 3 (.tmp 19) (.const (.int .i64 1)) 3, 3, "", #[], none⟩,
    ⟨some 6, .assign (.tmp 20), 3, "", #[], none⟩] false))))))
  (.seq (.region 8 #[⟨some 32, .move (.tmp 5), 3, "", #[], none⟩,
    ⟨some 4, .assign (.tmp 32), 3, "", #[], none⟩] false)
  .ret)))))
def fn26 : AFn := { ntmps := 33, results := [.tmp 4], body := c26, keep := fun | 0 => some [1, 2] | 1 => some [1, 2, 8] | 2 => some [4] | 3 => some [1, 2, 5] | 4 => some [1, 2, 5, 6] | 5 => some [1, 2, 5, 6, 18] | 6 => some [1, 2, 5, 6] | 7 => some [1, 2, 5, 6] | 8 => some [4] | _ => none, head := fun | 5 => some [1, 2, 5, 6] | _ => none, opn := fun _ => none, dyn := fun _ => [] }
def c27 : Code :=
  (.seq (.region 0 #[⟨some 1, .box 30 (.tmp 0), 0, "", #[], none⟩,
    ⟨some 2, .assign (.const (.bool false)), 4, "", #[], none⟩] false)
  (.seq (.seq (.region 1 #[⟨some 4, .fieldAddr 30 (.tmp 1) 1, 0, "", #[], none⟩,
    ⟨some 5, .load 22 (.tmp 4), 22, "", #[], none⟩,
    ⟨some 6, .call { callee := .builtin .cap, args := #[.tmp 5], argTypes := #[22] }, 3, "", #[], none⟩,
    ⟨some 7, .fieldAddr 30 (.tmp 1) 1, 0, "", #[], none⟩,
    ⟨some 8, .load 22 (.tmp 7), 22, "", #[], none⟩,
    ⟨some 9, .call { callee := .builtin .len, args := #[.tmp 8], argTypes := #[22] }, 3, "", #[], none⟩,
    ⟨some 10, .binOp .neq 3 (.tmp 6) (.tmp 9) 3, 4, "", #[], none⟩,
    ⟨some 11, .move (.tmp 10), 4, "", #[], none⟩,
    ⟨some 12, .fieldAddr 30 (.tmp 1) 2, 0, "", #[], some (11, false)⟩,
    ⟨some 13, .load 28 (.tmp 12), 28, "", #[], some (11, false)⟩,
    ⟨some 14, .call { callee := .builtin .cap, args := #[.tmp 13], argTypes := #[28] }, 3, "", #[], some (11, false)⟩,
    ⟨some 15, .fieldAddr 30 (.tmp 1) 2, 0, "", #[], some (11, false)⟩,
    ⟨some 16, .load 28 (.tmp 15), 28, "", #[], some (11, false)⟩,
    ⟨some 17, .call { callee := .builtin .len, args := #[.tmp 16], argTypes := #[28] }, 3, "", #[], some (11, false)⟩,
    ⟨some 18, .binOp .neq 3 (.tmp 14) (.tmp 17) 3, 4, "", #[], some (11, false)⟩,
    ⟨some 19, .pick (.tmp 11) (.const (.bool true)) (.tmp 18), 4, "", #[], none⟩] false)
  (.cond (.tmp 19)
    (.seq (.region 2 #[⟨some 2, .assign (.const (.bool false)), 4, "", #[], none⟩] false)
    .ret)
    .skip))
  (.seq (.seq (.region 3 #[⟨some 3, .assign (.const (.int .i64 0)), 3, "", #[], none⟩] false)
  (.block 0 (.loop (.seq (.seq (.region 4 #[⟨some 20, .move (.tmp 3), 3, "", #[], none⟩,
    ⟨some 21, .fieldAddr 30 (.tmp 1) 2, 0, "", #[], none⟩,
    ⟨some 22, .load 28 (.tmp 21), 28, "", #[], none⟩,
    ⟨some 23, .call { callee := .builtin .len, args := #[.tmp 22], argTypes := #[28] }, 3, "", #[], none⟩,
    ⟨some 24, .binOp .lss 3 (.tmp 20) (.tmp 23) 3, 4, "", #[], none⟩] false)
  (.cond (.tmp 24)
    .skip
    (.exit 0)))
  (.seq (.block 1 (.seq (.region 6 #[⟨some 27, .fieldAddr 30 (.tmp 1) 2, 0, "", #[], none⟩,
    ⟨some 28, .load 28 (.tmp 27), 28, "", #[], none⟩,
    ⟨some 29, .move (.tmp 3), 3, "", #[], none⟩,
    ⟨some 30, .indexAddr 28 (.tmp 28) (.tmp 29), 0, "", #[], none⟩,
    ⟨some 31, .load 30 (.tmp 30), 30, "", #[], none⟩,
    ⟨some 32, .call { callee := .value (.func 27), args := #[.tmp 31], argTypes := #[30] }, 4, "", #[], none⟩,
    ⟨some 33, .unOp .not 4 (.tmp 32), 4, "", #[], none⟩] false)
  (.cond (.tmp 33)
    (.seq (.region 7 #[⟨some 2, .assign (.const (.bool false)), 4, "", #[], none⟩] false)
    .ret)
    .skip)))
  (.region 5 #[⟨some 25, .move (.tmp 3), 3, "", #[], none⟩,
    ⟨some 26, .binOp .add 3 (.tmp 25) (.const (.int .i64 1)) 3, 3, "", #[], none⟩,
    ⟨some 3, .assign (.tmp 26), 3, "", #[], none⟩] false))))))
  (.seq (.region 8 #[⟨some 2, .assign (.const (.bool true)), 4, "", #[], none⟩] false)
  .ret))))
def fn27 : AFn := { ntmps := 34, results := [.tmp 2], body := c27, keep := fun | 0 => some [1] | 1 => some [1, 19] | 2 => some [2] | 3 => some [1, 3] | 4 => some [1, 3, 24] | 5 => some [1, 3] | 6 => some [1, 3, 33] | 7 => some [2] | 8 => some [2] | _ => none, head := fun | 4 => some [1, 3] | _ => none, opn := fun _ => none, dyn := fun _ => [] }
def c28 : Code :=
  (.seq (.region 0 #[⟨some 1, .box 30 (.tmp 0), 0, "", #[], none⟩,
    ⟨some 2, .assign (.const (.int .i64 0)), 3, "", #[], none⟩] false)
  (.seq (.seq (.region 1 #[⟨some 4, .load 30 (.tmp 1), 30, "", #[], none⟩,
    ⟨some 5, .call { callee := .value (.func 32), args := #[.tmp 4], argTypes := #[30] }, 34, "", #[], none⟩,
    ⟨some 6, .binOp .neq 34 (.tmp 5) (.const (.int .i64 0)) 34, 4, "", #[], none⟩] false)
  (.cond (.tmp 6)
    (.seq (.region 2 #[⟨some 2, .assign (.const (.int .i64 0)), 3, "", #[], none⟩] false)
    .ret)
    .skip))
  (.seq (.region 3 #[⟨some 7, .load 30 (.tmp 1), 30, "", #[], none⟩,
    ⟨some 8, .call { callee := .value (.func 69), args := #[.tmp 7], argTypes := #[30] }, 3, "", #[], none⟩,
    ⟨some 3, .assign (.tmp 8), 3, "", #[], none⟩] false)
  (.seq (.seq (.region 4 #[⟨some 9, .move (.tmp 3), 3, "", #[], none⟩,
    ⟨some 10, .binOp .gtr 3 (.tmp 9) (.const (.int .i64 1048576)) 3, 4, "", #[], none⟩] false)
  (.cond (.tmp 10)
    (.seq (.region 5 #[⟨some 2, .assign (.const (.int .i64 0)), 3, "", #[], none⟩] false)
    .ret)
    .skip))
  (.seq (.region 6 #[⟨some 11, .move (.tmp 3), 3, "", #[], none⟩,
    ⟨some 2, .assign (.tmp 11), 3, "", #[], none⟩] false)
  .ret)))))
def fn28 : AFn := { ntmps := 12, results := [.tmp 2], body := c28, keep := fun | 0 => some [1] | 1 => some [1, 6] | 2 => some [2] | 3 => some [3] | 4 => some [3, 10] | 5 => some [2] | 6 => some [2] | _ => none, head := fun  | _ => none, opn := fun _ => none, dyn := fun _ => [] }
def c29 : Code :=
  (.seq (.region 0 #[⟨some 1, .box 30 (.tmp 0), 0, "", #[], none⟩,
    ⟨some 2, .assign (.const (.int .i64 0)), 3, "", #[], none⟩] false)
  (.seq (.region 1 #[⟨some 7, .load 30 (.tmp 1), 30, "", #[], none⟩,
    ⟨some 8, .call { callee := .value (.func 75), args := #[.tmp 7], argTypes := #[30] }, 116, "", #[], none⟩,
    ⟨some 6, .move (.tmp 8), 116, "", #[], none⟩,
    ⟨some 9, .extract (.tmp 6) 0, 34, "", #[], none⟩,
    ⟨some 10, .extract (.tmp 6) 1, 3, "", #[], none⟩,
    ⟨some 11, .extract (.tmp 6) 2, 3, "", #[], none⟩,
    ⟨some 3, .assign (.tmp 9), 34, "", #[], none⟩,
    ⟨some 4, .assign (.tmp 10), 3, "", #[], none⟩,
    ⟨some 5, .assign (.tmp 11), 3, "", #[], none⟩] false)
  (.seq (.region 2 #[⟨some 12, .move (.tmp 4), 3, "", #[], none⟩,
    ⟨some 2, .assign (.tmp 12), 3, "", #[], none⟩] false)
  .ret)))
def fn29 : AFn := { ntmps := 13, results := [.tmp 2], body := c29, keep := fun | 0 => some [1] | 1 => some [4] | 2 => some [2] | _ => none, head := fun  | _ => none, opn := fun _ => none, dyn := fun _ => [] }
def c30 : Code :=
  (.seq (.region 0 #[⟨some 1, .box 30 (.tmp 0), 0, "", #[], none⟩,
    ⟨some 2, .assign (.const (.int .i64 0)), 3, "", #[], none⟩] false)
  (.seq (.region 1 #[⟨some 7, .load 30 (.tmp 1), 30, "", #[], none⟩,
    ⟨some 8, .call { callee := .value (.func 75), args := #[.tmp 7], argTypes := #[30] }, 116, "", #[], none⟩,
    ⟨some 6, .move (.tmp 8), 116, "", #[], none⟩,
    ⟨some 9, .extract (.tmp 6) 0, 34, "", #[], none⟩,
    ⟨some 10, .extract (.tmp 6) 1, 3, "", #[], none⟩,
    ⟨some 11, .extract (.tmp 6) 2, 3, "", #[], none⟩,
    ⟨some 3, .assign (.tmp 9), 34, "", #[], none⟩,
    ⟨some 4, .assign (.tmp 10), 3, "", #[], none⟩,
    ⟨some 5, .assign (.tmp 11), 3, "", #[], none⟩] false)
  (.seq (.region 2 #[⟨some 12, .move (.tmp 5), 3, "", #[], none⟩,
    ⟨some 2, .assign (.tmp 12), 3, "", #[], none⟩] false)
  .ret)))
def fn30 : AFn := { ntmps := 13, results := [.tmp 2], body := c30, keep := fun | 0 => some [1] | 1 => some [5] | 2 => some [2] | _ => none, head := fun  | _ => none, opn := fun _ => none, dyn := fun _ => [] }
def c32 : Code :=
  (.seq (.region 0 #[⟨some 1, .box 30 (.tmp 0), 0, "", #[], none⟩,
    ⟨some 2, .assign (.const (.int .i64 0)), 34, "", #[], none⟩] false)
  (.seq (.region 1 #[⟨some 7, .load 30 (.tmp 1), 30, "", #[], none⟩,
    ⟨some 8, .call { callee := .value (.func 75), args := #[.tmp 7], argTypes := #[30] }, 116, "", #[], none⟩,
    ⟨some 6, .move (.tmp 8), 116, "", #[], none⟩,
    ⟨some 9, .extract (.tmp 6) 0, 34, "", #[], none⟩,
    ⟨some 10, .extract (.tmp 6) 1, 3, "", #[], none⟩,
    ⟨some 11, .extract (.tmp 6) 2, 3, "", #[], none⟩,
    ⟨some 3, .assign (.tmp 9), 34, "", #[], none⟩,
    ⟨some 4, .assign (.tmp 10), 3, "", #[], none⟩,
    ⟨some 5, .assign (.tmp 11), 3, "", #[], none⟩] false)
  (.seq (.region 2 #[⟨some 12, .move (.tmp 3), 34, "", #[], none⟩,
    ⟨some 2, .assign (.tmp 12), 34, "", #[], none⟩] false)
  .ret)))
def fn32 : AFn := { ntmps := 13, results := [.tmp 2], body := c32, keep := fun | 0 => some [1] | 1 => some [3] | 2 => some [2] | _ => none, head := fun  | _ => none, opn := fun _ => none, dyn := fun _ => [] }
def c34 : Code :=
  (.seq (.region 0 #[⟨some 2, .alloc 30, 0, "", #[], none⟩,
    ⟨some 3, .assign (.const (.int .i64 0)), 3, "", #[], none⟩,
    ⟨some 4, .assign (.const (.int .i64 0)), 34, "", #[], none⟩] false)
  (.seq (.region 1 #[⟨some 7, .move (.tmp 0), 22, "", #[], none⟩,
    ⟨some 8, .call { callee := .value (.func 23), args := #[.tmp 7], argTypes := #[22] }, 43, "", #[], none⟩,
    ⟨some 6, .move (.tmp 8), 43, "", #[], none⟩,
    ⟨some 9, .extract (.tmp 6) 0, 30, "", #[], none⟩,
    ⟨some 10, .extract (.tmp 6) 1, 3, "", #[], none⟩,
    ⟨some 11, .extract (.tmp 6) 2, 3, "", #[], none⟩,
    ⟨some 12, .extract (.tmp 6) 3, 34, "", #[], none⟩,
    ⟨none, .store 30 (.tmp 2) (.tmp 9), 0, "", #[], none⟩,
    ⟨some 5, .assign (.tmp 10), 3, "", #[], none⟩,
    ⟨some 3, .assign (.tmp 11), 3, "", #[], none⟩,
    ⟨some 4, .assign (.tmp 12), 34, "", #[], none⟩] false)
  (.seq (.block 0 (.seq (.region 2 #[⟨some 14, .move (.tmp 4), 34, "", #[], none⟩,
    ⟨some 15, .binOp .neq 34 (.tmp 14) (.const (.int .i64 0)) 34, 4, "", #[], none⟩,
    ⟨some 13, .assign (.tmp 15), 4, "", #[], none⟩] false)
  (.cond (.tmp 13)
    (.seq (.region 3 #[⟨some 16, .build 30 #[], 30, "", #[], none⟩,
      ⟨some 17, .move (.tmp 3), 3, "", #[], none⟩,
      ⟨some 18, .move (.tmp 4), 34, "", #[], none⟩,
      ⟨none, .store 30 (.tmp 2) (.tmp 16), 0, "", #[], none⟩,
      ⟨some 3, .assign (.tmp 17), 3, "", #[], none⟩,
      ⟨some 4, .assign (.tmp 18), 34, "", #[], none⟩] false)
    .ret)
    (.seq (.region 4 #[⟨some 20, .move (.tmp 5), 3, "", #[], none⟩,
      ⟨some 21, .move (.tmp 0), 22, "", #[], none⟩,
      ⟨some 22, .call { callee := .builtin .len, args := #[.tmp 21], argTypes := #[22] }, 3, "", #[], none⟩,
      ⟨some 23, .binOp .lss 3 (.tmp 20) (.tmp 22) 3, 4, "", #[], none⟩,
      ⟨some 19, .assign (.tmp 23), 4, "", #[], none⟩] false)
    (.cond (.tmp 19)
      (.seq (.region 5 #[⟨some 24, .build 30 #[], 30, "", #[], none⟩,
        ⟨some 25, .move (.tmp 5), 3, "", #[], none⟩,
        ⟨none, .store 30 (.tmp 2) (.tmp 24), 0, "", #[], none⟩,
        ⟨some 3, .assign (.tmp 25), 3, "", #[], none⟩,
        ⟨some 4, .assign (.const (.int .i64 8)), 34, "", #[], none⟩] false)
      .ret)
      .skip)))))
  (.seq (.region 6 #[⟨some 26, .load 30 (.tmp 2), 30, "", #[], none⟩,
    ⟨none, .store 30 (.tmp 2) (.tmp 26), 0, "", #[], none⟩,
    ⟨some 3, .assign (.const (.int .i64 0)), 3, "", #[], none⟩,
    ⟨some 4, .assign (.const (.int .i64 0)), 34, "", #[], none⟩] false)
  .ret))))
def fn34 : AFn := { ntmps := 27, results := [.cell 2 30, .tmp 3, .tmp 4], body := c34, keep := fun | 0 => some [0, 2] | 1 => some [0, 2, 3, 4, 5] | 2 => some [0, 2, 3, 4, 5, 13] | 3 => some [2, 3, 4] | 4 => some [2, 5, 19] | 5 => some [2, 3, 4] | 6 => some [2, 3, 4] | _ => none, head := fun  | _ => none, opn := fun _ => none, dyn := fun _ => [] }
def c35 : Code :=
  (.seq (.region 0 #[⟨some 1, .box 30 (.tmp 0), 0, "", #[], none⟩,
    ⟨some 2, .assign (.const (.slice none 0 0)), 22, "", #[], none⟩] false)
  (.seq (.region 1 #[⟨some 5, .buildSlice 22 0 #[], 22, "", #[], none⟩,
    ⟨some 6, .fieldAddr 30 (.tmp 1) 1, 0, "", #[], none⟩,
    ⟨some 7, .load 22 (.tmp 6), 22, "", #[], none⟩,
    ⟨some 8, .call { callee := .builtin .append, args := #[.tmp 5, .tmp 7], argTypes := #[22, 22] }, 22, "", #[], none⟩,
    ⟨some 3, .assign (.tmp 8), 22, "", #[], none⟩] false)
  (.seq (.seq (.region 2 #[⟨some 4, .assign (.const (.int .i64 0)), 3, "", #[], none⟩] false)
  (.block 0 (.loop (.seq (.seq (.region 3 #[⟨some 9, .move (.tmp 4), 3, "", #[], none⟩,
    ⟨some 10, .fieldAddr 30 (.tmp 1) 2, 0, "", #[], none⟩,
    ⟨some 11, .load 28 (.tmp 10), 28, "", #[], none⟩,
    ⟨some 12, .call { callee := .builtin .len, args := #[.tmp 11], argTypes := #[28] }, 3, "", #[], none⟩,
    ⟨some 13, .binOp .lss 3 (.tmp 9) (.tmp 12) 3, 4, "", #[], none⟩] false)
  (.cond (.tmp 13)
    .skip
    (.exit 0)))
  (.seq (.block 1 (.region 5 #[⟨some 16, .move (.tmp 3), 22, "", #[], none⟩,
    ⟨some 17, .fieldAddr 30 (.tmp 1) 2, 0, "", #[], none⟩,
    ⟨some 18, .load 28 (.tmp 17), 28, "", #[], none⟩,
    ⟨some 19, .move (.tmp 4), 3, "", #[], none⟩,
    ⟨some 20, .indexAddr 28 (.tmp 18) (.tmp 19), 0, "", #[], none⟩,
    ⟨some 21, .load 30 (.tmp 20), 30, "", #[], none⟩,
    ⟨some 22, .call { callee := .value (.func 35), args := #[.tmp 21], argTypes := #[30] }, 22, "", #[], none⟩,
    ⟨some 23, .call { callee := .builtin .append, args := #[.tmp 16, .tmp 22], argTypes := #[22, 22] }, 22, "", #[], none⟩,
    ⟨some 3, .assign (.tmp 23), 22, "", #[], none⟩] false))
  (.region 4 #[⟨some 14, .move (.tmp 4), 3, "", #[], none⟩,
    ⟨some 15, .binOp .add 3 (.tmp 14) (.const (.int .i64 1)) 3, 3, "", #[], none⟩,
    ⟨some 4, .assign (.tmp 15), 3, "", #[], none⟩] false))))))
  (.seq (.region 6 #[⟨some 24, .fieldAddr 30 (.tmp 1) 0, 0, "", #[], none⟩,
    ⟨some 25, .load 27 (.tmp 24), 27, "", #[], none⟩,
    ⟨some 26, .call { callee := .value (.func 76), args := #[.tmp 25], argTypes := #[27] }, 22, "", #[], none⟩,
    ⟨some 27, .move (.tmp 3), 22, "", #[], none⟩,
    ⟨some 28, .call { callee := .builtin .len, args := #[.tmp 27], argTypes := #[22] }, 3, "", #[], none⟩,
    ⟨some 29, .call { callee := .value (.func 77), args := #[.tmp 28], argTypes := #[3] }, 22, "", #[], none⟩,
    ⟨some 30, .call { callee := .builtin .append, args := #[.tmp 26, .tmp 29], argTypes := #[22, 22] }, 22, "", #[], none⟩,
    ⟨some 31, .move (.tmp 3), 22, "", #[], none⟩,
    ⟨some 32, .call { callee := .builtin .append, args := #[.tmp 30, .tmp 31], argTypes := #[22, 22] }, 22, "", #[], none⟩,
    ⟨some 2, .assign (.tmp 32), 22, "", #[], none⟩] false)
  .ret))))
def fn35 : AFn := { ntmps := 33, results := [.tmp 2], body := c35, keep := fun | 0 => some [1] | 1 => some [1, 3] | 2 => some [1, 3, 4] | 3 => some [1, 3, 4, 13] | 4 => some [1, 3, 4] | 5 => some [1, 3, 4] | 6 => some [2] | _ => none, head := fun | 3 => some [1, 3, 4] | _ => none, opn := opnT, dyn := fun _ => [] }
def c36 : Code :=
  (.seq (.region 0 #[⟨some 2, .box 30 (.tmp 0), 0, "", #[], none⟩,
    ⟨some 3, .box 30 (.tmp 1), 0, "", #[], none⟩,
    ⟨some 4, .assign (.const (.bool false)), 4, "", #[], none⟩] false)
  (.seq (.region 1 #[⟨some 5, .load 30 (.tmp 2), 30, "", #[], none⟩,
    ⟨some 6, .call { callee := .value (.func 32), args := #[.tmp 5], argTypes := #[30] }, 34, "", #[], none⟩,
    ⟨some 7, .binOp .eql 34 (.tmp 6) (.const (.int .i64 0)) 34, 4, "", #[], none⟩,
    ⟨some 8, .move (.tmp 7), 4, "", #[], none⟩,
    ⟨some 9, .load 30 (.tmp 3), 30, "", #[], some (8, true)⟩,
    ⟨some 10, .call { callee := .value (.func 32), args := #[.tmp 9], argTypes := #[30] }, 34, "", #[], some (8, true)⟩,
    ⟨some 11, .binOp .eql 34 (.tmp 10) (.const (.int .i64 0)) 34, 4, "", #[], some (8, true)⟩,
    ⟨some 12, .pick (.tmp 8) (.tmp 11) (.const (.bool false)), 4, "", #[], none⟩,
    ⟨some 13, .move (.tmp 12), 4, "", #[], none⟩,
    ⟨some 14, .load 30 (.tmp 2), 30, "", #[], some (13, true)⟩,
    ⟨some 15, .load 30 (.tmp 3), 30, "", #[], some (13, true)⟩,
    ⟨some 16, .call { callee := .value (.func 78), args := #[.tmp 14, .tmp 15], argTypes := #[30, 30] }, 4, "", #[], some (13, true)⟩,
    ⟨some 17, .pick (.tmp 13) (.tmp 16) (.const (.bool false)), 4, "", #[], none⟩,
    ⟨some 4, .assign (.tmp 17), 4, "", #[], none⟩] false)
  .ret))
def fn36 : AFn := { ntmps := 18, results := [.tmp 4], body := c36, keep := fun | 0 => some [2, 3] | 1 => some [4] | _ => none, head := fun  | _ => none, opn := fun _ => none, dyn := fun _ => [] }
def c37 : Code :=
  (.seq (.region 0 #[⟨some 2, .box 30 (.tmp 0), 0, "", #[], none⟩,
    ⟨some 3, .box 30 (.tmp 1), 0, "", #[], none⟩,
    ⟨some 4, .assign (.const (.int .i64 0)), 3, "", #[], none⟩] false)
  (.seq (.region 1 #[⟨some 10, .load 30 (.tmp 2), 30, "", #[], none⟩,
    ⟨some 11, .call { callee := .value (.func 21), args := #[.tmp 10], argTypes := #[30] }, 35, "", #[], none⟩,
    ⟨some 9, .move (.tmp 11), 35, "", #[], none⟩,
    ⟨some 12, .extract (.tmp 9) 0, 22, "", #[], none⟩,
    ⟨some 13, .extract (.tmp 9) 1, 34, "", #[], none⟩,
    ⟨some 5, .assign (.tmp 12), 22, "", #[], none⟩,
    ⟨some 6, .assign (.tmp 13), 34, "", #[], none⟩] false)
  (.seq (.region 2 #[⟨some 15, .load 30 (.tmp 3), 30, "", #[], none⟩,
    ⟨some 16, .call { callee := .value (.func 21), args := #[.tmp 15], argTypes := #[30] }, 35, "", #[], none⟩,
    ⟨some 14, .move (.tmp 16), 35, "", #[], none⟩,
    ⟨some 17, .extract (.tmp 14) 0, 22, "", #[], none⟩,
    ⟨some 18, .extract (.tmp 14) 1, 34, "", #[], none⟩,
    ⟨some 7, .assign (.tmp 17), 22, "", #[], none⟩,
    ⟨some 8, .assign (.tmp 18), 34, "", #[], none⟩] false)
  (.seq (.region 3 #[⟨some 19, .move (.tmp 5), 22, "", #[], none⟩,
    ⟨some 20, .move (.tmp 7), 22, "", #[], none⟩,
    ⟨some 21, .call { callee := .value (.func 79), args := #[.tmp 19, .tmp 20], argTypes := #[22, 22] }, 3, "", #[], none⟩,
    ⟨some 4, .assign (.tmp 21), 3, "", #[], none⟩] false)
  .ret))))
def fn37 : AFn := { ntmps := 22, results := [.tmp 4], body := c37, keep := fun | 0 => some [2, 3] | 1 => some [3, 5] | 2 => some [5, 7] | 3 => some [4] | _ => none, head := fun  | _ => none, opn := fun _ => none, dyn := fun _ => [] }
def c38 : Code :=
  (.seq (.region 0 #[⟨some 1, .box 30 (.tmp 0), 0, "", #[], none⟩,
    ⟨some 2, .assign (.const (.int .i64 0)), 3, "", #[], none⟩] false)
  (.seq (.seq (.region 1 #[⟨some 4, .load 30 (.tmp 1), 30, "", #[], none⟩,
    ⟨some 5, .call { callee := .value (.func 26), args := #[.tmp 4, .const (.int .i64 60)], argTypes := #[30, 3] }, 3, "", #[], none⟩,
    ⟨some 6, .binOp .gtr 3 (.tmp 5) (.const (.int .i64 60)) 3, 4, "", #[], none⟩] false)
  (.cond (.tmp 6)
    (.seq (.region 2 #[⟨some 2, .assign (.const (.int .i64 0)), 3, "", #[], none⟩] false)
    .ret)
    .skip))
  (.seq (.seq (.region 3 #[⟨some 7, .fieldAddr 30 (.tmp 1) 1, 0, "", #[], none⟩,
    ⟨some 8, .load 22 (.tmp 7), 22, "", #[], none⟩,
    ⟨some 9, .call { callee := .builtin .len, args := #[.tmp 8], argTypes := #[22] }, 3, "", #[], none⟩,
    ⟨some 10, .binOp .gtr 3 (.tmp 9) (.const (.int .i64 200)) 3, 4, "", #[], none⟩] false)
  (.cond (.tmp 10)
    (.seq (.region 4 #[⟨some 2, .assign (.const (.int .i64 0)), 3, "", #[], none⟩] false)
    .ret)
    .skip))
  (.seq (.seq (.region 5 #[⟨some 3, .assign (.const (.int .i64 0)), 3, "", #[], none⟩] false)
  (.block 0 (.loop (.seq (.seq (.region 6 #[⟨some 11, .move (.tmp 3), 3, "", #[], none⟩,
    ⟨some 12, .fieldAddr 30 (.tmp 1) 2, 0, "", #[], none⟩,
    ⟨some 13, .load 28 (.tmp 12), 28, "", #[], none⟩,
    ⟨some 14, .call { callee := .builtin .len, args := #[.tmp 13], argTypes := #[28] }, 3, "", #[], none⟩,
    ⟨some 15, .binOp .lss 3 (.tmp 11) (.tmp 14) 3, 4, "", #[], none⟩] false)
  (.cond (.tmp 15)
    .skip
    (.exit 0)))
  (.seq (.block 1 (.seq (.region 8 #[⟨some 18, .fieldAddr 30 (.tmp 1) 2, 0, "", #[], none⟩,
    ⟨some 19, .load 28 (.tmp 18), 28, "", #[], none⟩,
    ⟨some 20, .move (.tmp 3), 3, "", #[], none⟩,
    ⟨some 21, .indexAddr 28 (.tmp 19) (.tmp 20), 0, "", #[], none⟩,
    ⟨some 22, .load 30 (.tmp 21), 30, "", #[], none⟩,
    ⟨some 23, .call { callee := .value (.func 38), args := #[.tmp 22], argTypes := #[30] }, 3, "", #[], none⟩,
    ⟨some 24, .binOp .eql 3 (.tmp 23) (.const (.int .i64 0)) 3, 4, "", #[], none⟩] false)
  (.cond (.tmp 24)
    (.seq (.region 9 #[⟨some 2, .assign (.const (.int .i64 0)), 3, "", #[], none⟩] false)
    .ret)
    .skip)))
  (.region 7 #[⟨some 16, .move (.tmp 3), 3, "", #[], none⟩,
    ⟨some 17, .binOp .add 3 (.tmp 16) (.const (.int .i64 1)) 3, 3, "", #[], none⟩,
    ⟨some 3, .assign (.tmp 17), 3, "", #[], none⟩] false))))))
  (.seq (.region 10 #[⟨some 2, .assign (.const (.int .i64 1)), 3, "", #[], none⟩] false)
  .ret)))))
def fn38 : AFn := { ntmps := 25, results := [.tmp 2], body := c38, keep := fun | 0 => some [1] | 1 => some [1, 6] | 2 => some [2] | 3 => some [1, 10] | 4 => some [2] | 5 => some [1, 3] | 6 => some [1, 3, 15] | 7 => some [1, 3] | 8 => some [1, 3, 24] | 9 => some [2] | 10 => some [2] | _ => none, head := fun | 6 => some [1, 3] | _ => none, opn := fun _ => none, dyn := fun _ => [] }
def c39 : Code :=
  (.seq (.region 0 #[⟨some 3, .box 30 (.tmp 0), 0, "", #[], none⟩,
    ⟨some 6, .assign (.const (.int .i64 0)), 3, "", #[], none⟩,
    ⟨some 7, .assign (.const (.int .i64 0)), 3, "", #[], none⟩] false)
  (.seq (.seq (.region 1 #[⟨some 13, .fieldAddr 30 (.tmp 3) 0, 0, "", #[], none⟩,
    ⟨some 14, .load 27 (.tmp 13), 27, "", #[], none⟩,
    ⟨some 15, .call { callee := .value (.func 80), args := #[.tmp 14], argTypes := #[27] }, 3, "", #[], none⟩,
    ⟨some 8, .assign (.tmp 15), 3, "", #[], none⟩] false)
  (.seq (.region 2 #[⟨some 16, .move (.tmp 8), 3, "", #[], none⟩,
    ⟨some 17, .binOp .neq 3 (.tmp 16) (.const (.int .i64 0)) 3, 4, "", #[], none⟩] false)
  (.cond (.tmp 17)
    (.seq (.region 3 #[⟨some 18, .move (.tmp 8), 3, "", #[], none⟩,
      ⟨some 6, .assign (.tmp 18), 3, "", #[], none⟩,
      ⟨some 7, .assign (.const (.int .i64 0)), 3, "", #[], none⟩] false)
    .ret)
    .skip)))
  (.seq (.seq (.region 4 #[⟨some 19, .fieldAddr 30 (.tmp 3) 0, 0, "", #[], none⟩,
    ⟨some 20, .fieldAddr 27 (.tmp 19) 1, 0, "", #[], none⟩,
    ⟨some 21, .load 4 (.tmp 20), 4, "", #[], none⟩,
    ⟨some 22, .move (.tmp 21), 4, "", #[], none⟩,
    ⟨some 23, .fieldAddr 30 (.tmp 3) 1, 0, "", #[], some (22, true)⟩,
    ⟨some 24, .load 22 (.tmp 23), 22, "", #[], some (22, true)⟩,
    ⟨some 25, .call { callee := .builtin .len, args := #[.tmp 24], argTypes := #[22] }, 3, "", #[], some (22, true)⟩,
    ⟨some 26, .binOp .gtr 3 (.tmp 25) (.const (.int .i64 0)) 3, 4, "", #[], some (22, true)⟩,
    ⟨some 27, .pick (.tmp 22) (.tmp 26) (.const (.bool false)), 4, "", #[], none⟩,
    ⟨some 28, .move (.tmp 27), 4, "", #[], none⟩,
    ⟨some 29, .fieldAddr 30 (.tmp 3) 0, 0, "", #[], some (28, false)⟩,
    ⟨some 30, .fieldAddr 27 (.tmp 29) 1, 0, "", #[], some (28, false)⟩,
    ⟨some 31, .load 4 (.tmp 30), 4, "", #[], some (28, false)⟩,
    ⟨some 32, .unOp .not 4 (.tmp 31), 4, "", #[], some (28, false)⟩,
    ⟨some 33, .move (.tmp 32), 4, "", #[], some (28, false)⟩,
    ⟨some 34, .fieldAddr 30 (.tmp 3) 2, 0, "", #[], some (33, true)⟩,
    ⟨some 35, .load 28 (.tmp 34), 28, "", #[], some (33, true)⟩,
    ⟨some 36, .call { callee := .builtin .len, args := #[.tmp 35], argTypes := #[28] }, 3, "", #[], some (33, true)⟩,
    ⟨some 37, .binOp .gtr 3 (.tmp 36) (.const (.int .i64 0)) 3, 4, "", #[], some (33, true)⟩,
    ⟨some 38, .pick (.tmp 33) (.tmp 37) (.const (.bool false)), 4, "", #[], some (28, false)⟩,
    ⟨some 39, .pick (.tmp 28) (.const (.bool true)) (.tmp 38), 4, "", #[], none⟩] false)
  (.cond (.tmp 39)
    (.seq (.region 5 #[⟨some 6, .assign (.const (.int .i64 1)), 3, "", #[], none⟩,
      ⟨some 7, .assign (.const (.int .i64 0)), 3, "", #[], none⟩] false)
    .ret)
    .skip))
  (.seq (.seq (.region 6 #[⟨some 40, .move (.tmp 1), 3, "", #[], none⟩,
    ⟨some 41, .binOp .gtr 3 (.tmp 40) (.const (.int .i64 16)) 3, 4, "", #[], none⟩] false)
  (.cond (.tmp 41)
    (.seq (.region 7 #[⟨some 6, .assign (.const (.int .i64 12)), 3, "", #[], none⟩,
      ⟨some 7, .assign (.const (.int .i64 0)), 3, "", #[], none⟩] false)
    .ret)
    .skip))
  (.seq (.seq (.region 8 #[⟨some 42, .move (.tmp 2), 3, "", #[], none⟩,
    ⟨some 43, .binOp .geq 3 (.tmp 42) (.const (.int .i64 8192)) 3, 4, "", #[], none⟩] false)
  (.cond (.tmp 43)
    (.seq (.region 9 #[⟨some 6, .assign (.const (.int .i64 3)), 3, "", #[], none⟩,
      ⟨some 7, .assign (.const (.int .i64 0)), 3, "", #[], none⟩] false)
    .ret)
    .skip))
  (.seq (.region 10 #[⟨some 44, .move (.tmp 2), 3, "", #[], none⟩,
    ⟨some 45, .binOp .add 3 (.tmp 44) (.const (.int .i64 1)) 3, 3, "", #[], none⟩,
    ⟨some 9, .assign (.tmp 45), 3, "", #[], none⟩] false)
  (.seq (.seq (.region 11 #[⟨some 10, .assign (.const (.int .i64 0)), 3, "", #[], none⟩] false)
  (.block 0 (.loop (.seq (.seq (.region 12 #[⟨some 46, .move (.tmp 10), 3, "", #[], none⟩,
    ⟨some 47, .fieldAddr 30 (.tmp 3) 2, 0, "", #[], none⟩,
    ⟨some 48, .load 28 (.tmp 47), 28, "", #[], none⟩,
    ⟨some 49, .call { callee := .builtin .len, args := #[.tmp 48], argTypes := #[28] }, 3, "", #[], none⟩,
    ⟨some 50, .binOp .lss 3 (.tmp 46) (.tmp 49) 3, 4, "", #[], none⟩] false)
  (.cond (.tmp 50)
    .skip
    (.exit 0)))
  (.seq (.block 1 (.seq (.region 14 #[⟨some 54, .fieldAddr 30 (.tmp 3) 2, 0, "", #[], none⟩,
    ⟨some 55, .load 28 (.tmp 54), 28, "", #[], none⟩,
    ⟨some 56, .move (.tmp 10), 3, "", #[], none⟩,
    ⟨some 57, .indexAddr 28 (.tmp 55) (.tmp 56), 0, "", #[], none⟩,
    ⟨some 58, .load 30 (.tmp 57), 30, "", #[], none⟩,
    ⟨some 59, .move (.tmp 1), 3, "", #[], none⟩,
    ⟨some 60, .binOp .add 3 (.tmp 59) (.const (.int .i64 1)) 3, 3, "", #[], none⟩,
    ⟨some 61, .move (.tmp 9), 3, "", #[], none⟩,
    ⟨some 62, .call { callee := .value (.func 39), args := #[.tmp 58, .tmp 60, .tmp 61], argTypes := #[30, 3, 3] }, 62, "", #[], none⟩,
    ⟨some 53, .move (.tmp 62), 62, "", #[], none⟩,
    ⟨some 63, .extract (.tmp 53) 0, 3, "", #[], none⟩,
    ⟨some 64, .extract (.tmp 53) 1, 3, "", #[], none⟩,
    ⟨some 11, .assign (.tmp 63), 3, "", #[], none⟩,
    ⟨some 12, .assign (.tmp 64), 3, "", #[], none⟩] false)
  (.seq (.seq (.region 15 #[⟨some 65, .move (.tmp 11), 3, "", #[], none⟩,
    ⟨some 66, .binOp .neq 3 (.tmp 65) (.const (.int .i64 0)) 3, 4, "", #[], none⟩] false)
  (.cond (.tmp 66)
    (.seq (.region 16 #[⟨some 67, .move (.tmp 11), 3, "", #[], none⟩,
      ⟨some 6, .assign (.tmp 67), 3, "", #[], none⟩,
      ⟨some 7, .assign (.const (.int .i64 0)), 3, "", #[], none⟩] false)
    .ret)
    .skip))
  (.region 17 #[⟨some 68, .move (.tmp 12), 3, "", #[], none⟩,
    ⟨some 9, .assign (.tmp 68), 3, "", #[], none⟩] false))))
  (.region 13 #[⟨some 51, .move (.tmp 10), 3, "", #[], none⟩,
    ⟨some 52, .binOp .add 3 (.tmp 51) (.const (.int .i64 1)) 3, 3, "", #[], none⟩,
    ⟨some 10, .assign (.tmp 52), 3, "", #[], none⟩] false))))))
  (.seq (.region 18 #[⟨some 69, .move (.tmp 9), 3, "", #[], none⟩,
    ⟨some 6, .assign (.const (.int .i64 0)), 3, "", #[], none⟩,
    ⟨some 7, .assign (.tmp 69), 3, "", #[], none⟩] false)
  .ret))))))))
def fn39 : AFn := { ntmps := 70, results := [.tmp 6, .tmp 7], body := c39, keep := fun | 0 => some [1, 2, 3] | 1 => some [1, 2, 3, 8] | 2 => some [1, 2, 3, 8, 17] | 3 => some [6, 7] | 4 => some [1, 2, 3, 39] | 5 => some [6, 7] | 6 => some [1, 2, 3, 41] | 7 => some [6, 7] | 8 => some [1, 2, 3, 43] | 9 => some [6, 7] | 10 => some [1, 3, 9] | 11 => some [1, 3, 9, 10] | 12 => some [1, 3, 9, 10, 50] | 13 => some [1, 3, 9, 10] | 14 => some [1, 3, 10, 11, 12] | 15 => some [1, 3, 10, 11, 12, 66] | 16 => some [6, 7] | 17 => some [1, 3, 9, 10] | 18 => some [6, 7] | _ => none, head := fun | 12 => some [1, 3, 9, 10] | _ => none, opn := fun _ => none, dyn := fun _ => [] }
def c40 : Code :=
  (.seq (.region 0 #[⟨some 1, .box 30 (.tmp 0), 0, "", #[], none⟩,
    ⟨some 2, .assign (.const (.int .i64 0)), 3, "", #[], none⟩] false)
  (.seq (.region 1 #[⟨some 3, .assign (.const (.int .i64 0)), 3, "", #[], none⟩] false)
  (.seq (.seq (.region 2 #[⟨some 4, .assign (.const (.int .i64 0)), 3, "", #[], none⟩] false)
  (.block 0 (.loop (.seq (.seq (.region 3 #[⟨some 5, .move (.tmp 4), 3, "", #[], none⟩,
    ⟨some 6, .fieldAddr 30 (.tmp 1) 2, 0, "", #[], none⟩,
    ⟨some 7, .load 28 (.tmp 6), 28, "", #[], none⟩,
    ⟨some 8, .call { callee := .builtin .len, args := #[.tmp 7], argTypes := #[28] }, 3, "", #[], none⟩,
    ⟨some 9, .binOp .lss 3 (.tmp 5) (.tmp 8) 3, 4, "", #[], none⟩] false)
  (.cond (.tmp 9)
    .skip
    (.exit 0)))
  (.seq (.block 1 (.region 5 #[⟨some 12, .move (.tmp 3), 3, "", #[], none⟩,
    ⟨some 13, .fieldAddr 30 (.tmp 1) 2, 0, "", #[], none⟩,
    ⟨some 14, .load 28 (.tmp 13), 28, "", #[], none⟩,
    ⟨some 15, .move (.tmp 4), 3, "", #[], none⟩,
    ⟨some 16, .indexAddr 28 (.tmp 14) (.tmp 15), 0, "", #[], none⟩,
    ⟨some 17, .load 30 (.tmp 16), 30, "", #[], none⟩,
    ⟨some 18, .call { callee := .value (.func 40), args := #[.tmp 17], argTypes := #[30] }, 3, "", #[], none⟩,
    ⟨some 19, .call { callee := .builtin .max, args := #[.tmp 12, .tmp 18], argTypes := #[3, 3] }, 3, "", #[], none⟩,
    ⟨some 3, .assign (.tmp 19), 3, "", #[], none⟩] false))
  (.region 4 #[⟨some 10, .move (.tmp 4), 3, "", #[], none⟩,
    ⟨some 11, .binOp .add 3 (.tmp 10) (.const (.int .i64 1)) 3, 3, "", #[], none⟩,
    ⟨some 4, .assign (.tmp 11), 3, "", #[], none⟩] false))))))
  (.seq (.region 6 #[⟨some 20, .move (.tmp 3), 3, "", #[], none⟩,
    ⟨some 21, .binOp .add 3 (.tmp 20) (.const (.int .i64 1)) 3, 3, "", #[], none⟩,
    ⟨some 2, .assign (.tmp 21), 3, "", #[], none⟩] false)
  .ret))))
def fn40 : AFn := { ntmps := 22, results := [.tmp 2], body := c40, keep := fun | 0 => some [1] | 1 => some [1, 3] | 2 => some [1, 3, 4] | 3 => some [1, 3, 4, 9] | 4 => some [1, 3, 4] | 5 => some [1, 3, 4] | 6 => some [2] | _ => none, head := fun | 3 => some [1, 3, 4] | _ => none, opn := fun _ => none, dyn := fun _ => [] }
def c41 : Code :=
  (.seq (.region 0 #[⟨some 0, .alloc 30, 0, "", #[], none⟩] false)
  (.seq (.region 1 #[⟨some 1, .build 27 #[(1, .const (.bool true)), (2, .const (.int .u32 16))], 27, "", #[], none⟩,
    ⟨some 2, .build 27 #[(2, .const (.int .u32 2))], 27, "", #[], none⟩,
    ⟨some 3, .buildSlice 22 1 #[(0, .const (.int .u8 7))], 22, "", #[], none⟩,
    ⟨some 4, .build 30 #[(0, .tmp 2), (1, .tmp 3)], 30, "", #[], none⟩,
    ⟨some 5, .build 27 #[(2, .const (.int .u32 5))], 27, "", #[], none⟩,
    ⟨some 6, .build 30 #[(0, .tmp 5)], 30, "", #[], none⟩,
    ⟨some 7, .buildSlice 28 2 #[(0, .tmp 4), (1, .tmp 6)], 28, "", #[], none⟩,
    ⟨some 8, .build 30 #[(0, .tmp 1), (2, .tmp 7)], 30, "", #[], none⟩,
    ⟨none, .store 30 (.tmp 0) (.tmp 8), 0, "", #[], none⟩] false)
  .ret))
def fn41 : AFn := { ntmps := 9, results := [.cell 0 30], body := c41, keep := fun | 0 => some [0] | 1 => some [0] | _ => none, head := fun  | _ => none, opn := fun _ => none, dyn := fun _ => [] }
def c69 : Code :=
  (.seq (.region 0 #[⟨some 1, .box 30 (.tmp 0), 0, "", #[], none⟩,
    ⟨some 2, .assign (.const (.int .i64 0)), 3, "", #[], none⟩] false)
  (.seq (.region 1 #[⟨some 4, .load 30 (.tmp 1), 30, "", #[], none⟩,
    ⟨some 5, .call { callee := .value (.func 90), args := #[.tmp 4], argTypes := #[30] }, 3, "", #[], none⟩,
    ⟨some 3, .assign (.tmp 5), 3, "", #[], none⟩] false)
  (.seq (.seq (.region 2 #[⟨some 6, .move (.tmp 3), 3, "", #[], none⟩,
    ⟨some 7, .binOp .gtr 3 (.tmp 6) (.const (.int .i64 1048576)) 3, 4, "", #[], none⟩] false)
  (.cond (.tmp 7)
    (.seq (.region 3 #[⟨some 8, .move (.tmp 3), 3, "", #[], none⟩,
      ⟨some 2, .assign (.tmp 8), 3, "", #[], none⟩] false)
    .ret)
    .skip))
  (.seq (.region 4 #[⟨some 9, .fieldAddr 30 (.tmp 1) 0, 0, "", #[], none⟩,
    ⟨some 10, .load 27 (.tmp 9), 27, "", #[], none⟩,
    ⟨some 11, .call { callee := .value (.func 92), args := #[.tmp 10], argTypes := #[27] }, 3, "", #[], none⟩,
    ⟨some 12, .move (.tmp 3), 3, "", #[], none⟩,
    ⟨some 13, .call { callee := .value (.func 91), args := #[.tmp 11, .tmp 12], argTypes := #[3, 3] }, 3, "", #[], none⟩,
    ⟨some 2, .assign (.tmp 13), 3, "", #[], none⟩] false)
  .ret))))
def fn69 : AFn := { ntmps := 14, results := [.tmp 2], body := c69, keep := fun | 0 => some [1] | 1 => some [1, 3] | 2 => some [1, 3, 7] | 3 => some [2] | 4 => some [2] | _ => none, head := fun  | _ => none, opn := fun _ => none, dyn := fun _ => [] }
def c70 : Code :=
  (.seq (.region 0 #[⟨some 3, .box 30 (.tmp 1), 0, "", #[], none⟩,
    ⟨some 4, .assign (.const (.slice none 0 0)), 22, "", #[], none⟩] false)
  (.seq (.region 1 #[⟨some 12, .fieldAddr 30 (.tmp 3) 0, 0, "", #[], none⟩,
    ⟨some 13, .load 27 (.tmp 12), 27, "", #[], none⟩,
    ⟨some 14, .call { callee := .value (.func 93), args := #[.tmp 13], argTypes := #[27] }, 35, "", #[], none⟩,
    ⟨some 11, .move (.tmp 14), 35, "", #[], none⟩,
    ⟨some 15, .extract (.tmp 11) 0, 22, "", #[], none⟩,
    ⟨some 16, .extract (.tmp 11) 1, 34, "", #[], none⟩,
    ⟨some 5, .assign (.tmp 15), 22, "", #[], none⟩,
    ⟨some 6, .assign (.tmp 16), 34, "", #[], none⟩] false)
  (.seq (.region 2 #[⟨some 18, .load 30 (.tmp 3), 30, "", #[], none⟩,
    ⟨some 19, .call { callee := .value (.func 90), args := #[.tmp 18], argTypes := #[30] }, 3, "", #[], none⟩,
    ⟨some 20, .call { callee := .value (.func 94), args := #[.tmp 19], argTypes := #[3] }, 35, "", #[], none⟩,
    ⟨some 17, .move (.tmp 20), 35, "", #[], none⟩,
    ⟨some 21, .extract (.tmp 17) 0, 22, "", #[], none⟩,
    ⟨some 22, .extract (.tmp 17) 1, 34, "", #[], none⟩,
    ⟨some 7, .assign (.tmp 21), 22, "", #[], none⟩,
    ⟨some 8, .assign (.tmp 22), 34, "", #[], none⟩] false)
  (.seq (.region 3 #[⟨some 23, .move (.tmp 0), 22, "", #[], none⟩,
    ⟨some 24, .move (.tmp 5), 22, "", #[], none⟩,
    ⟨some 25, .call { callee := .builtin .append, args := #[.tmp 23, .tmp 24], argTypes := #[22, 22] }, 22, "", #[], none⟩,
    ⟨some 26, .move (.tmp 7), 22, "", #[], none⟩,
    ⟨some 27, .call { callee := .builtin .append, args := #[.tmp 25, .tmp 26], argTypes := #[22, 22] }, 22, "", #[], none⟩,
    ⟨some 0, .assign (.tmp 27), 22, "", #[], none⟩] false)
  (.seq (.region 4 #[⟨some 28, .move (.tmp 0), 22, "", #[], none⟩,
    ⟨some 29, .fieldAddr 30 (.tmp 3) 1, 0, "", #[], none⟩,
    ⟨some 30, .load 22 (.tmp 29), 22, "", #[], none⟩,
    ⟨some 31, .call { callee := .builtin .append, args := #[.tmp 28, .tmp 30], argTypes := #[22, 22] }, 22, "", #[], none⟩,
    ⟨some 0, .assign (.tmp 31), 22, "", #[], none⟩] false)
  (.seq (.seq (.region 5 #[⟨some 32, .fieldAddr 30 (.tmp 3) 2, 0, "", #[], none⟩,
    ⟨some 33, .load 28 (.tmp 32), 28, "", #[], none⟩,
    ⟨some 34, .call { callee := .builtin .len, args := #[.tmp 33], argTypes := #[28] }, 3, "", #[], none⟩,
    ⟨some 35, .move (.const (.int .i64 0)), 3, "", #[], none⟩] false)
  (.block 0 (.loop (.seq (.region 6 #[⟨some 36, .binOp .lss 3 (.tmp 35) (.tmp 34) 3, 0, "", #[], none⟩] false)
  (.seq (.cond (.tmp 36)
    .skip
    (.exit 0))
  (.seq (.block 1 (.seq (.region 7 #[⟨some 37, .indexAddr 28 (.tmp 33) (.tmp 35), 0, "", #[], none⟩,
    ⟨some 38, .load 30 (.tmp 37), 30, "", #[], none⟩,
    ⟨some 10, .alloc 30, 0, "", #[], none⟩,
    ⟨none, .store 30 (.tmp 10) (.tmp 38), 0, "", #[], none⟩] false)
  (.region 8 #[⟨some 39, .move (.tmp 0), 22, "", #[], none⟩,
    ⟨some 40, .load 30 (.tmp 10), 30, "", #[], none⟩,
    ⟨some 41, .call { callee := .value (.func 70), args := #[.tmp 39, .tmp 40], argTypes := #[22, 30] }, 22, "", #[], none⟩,
    ⟨some 0, .assign (.tmp 41), 22, "", #[], none⟩] false)))
  (.region 9 #[⟨some 42, .binOp .add 3 (.tmp 35) (.const (.int .i64 1)) 3, 3, "", #[], none⟩,
    ⟨some 35, .move (.tmp 42), 3, "", #[], none⟩] false)))))))
  (.seq (.region 10 #[⟨some 43, .move (.tmp 0), 22, "", #[], none⟩,
    ⟨some 4, .assign (.tmp 43), 22, "", #[], none⟩] false)
  .ret)))))))
def fn70 : AFn := { ntmps := 44, results := [.tmp 4], body := c70, keep := fun | 0 => some [0, 3] | 1 => some [0, 3, 5] | 2 => some [0, 3, 5, 7] | 3 => some [0, 3] | 4 => some [0, 3] | 5 => some [0, 33, 34, 35] | 6 => some [0, 33, 34, 35, 36] | 7 => some [0, 10, 33, 34, 35] | 8 => some [0, 33, 34, 35] | 9 => some [0, 33, 34, 35] | 10 => some [4] | _ => none, head := fun | 6 => some [0, 33, 34, 35] | _ => none, opn := opnT, dyn := fun _ => [] }
def c71 : Code :=
  (.seq (.region 0 #[⟨some 1, .box 105 (.tmp 0), 0, "", #[], none⟩,
    ⟨some 2, .alloc 27, 0, "", #[], none⟩] false)
  (.seq (.region 1 #[⟨some 4, .fieldAddr 105 (.tmp 1) 0, 0, "", #[], none⟩,
    ⟨some 5, .load 5 (.tmp 4), 5, "", #[], none⟩,
    ⟨some 6, .binOp .rem 5 (.tmp 5) (.const (.int .u8 4)) 5, 5, "", #[], none⟩,
    ⟨some 7, .fieldAddr 105 (.tmp 1) 1, 0, "", #[], none⟩,
    ⟨some 8, .load 5 (.tmp 7), 5, "", #[], none⟩,
    ⟨some 9, .binOp .rem 5 (.tmp 8) (.const (.int .u8 2)) 5, 5, "", #[], none⟩,
    ⟨some 10, .binOp .eql 5 (.tmp 9) (.const (.int .u8 1)) 5, 4, "", #[], none⟩,
    ⟨some 11, .fieldAddr 105 (.tmp 1) 2, 0, "", #[], none⟩,
    ⟨some 12, .load 25 (.tmp 11), 25, "", #[], none⟩,
    ⟨some 13, .binOp .rem 25 (.tmp 12) (.const (.int .u32 268435456)) 25, 25, "", #[], none⟩,
    ⟨some 14, .build 27 #[(0, .tmp 6), (1, .tmp 10), (2, .tmp 13)], 27, "", #[], none⟩,
    ⟨some 3, .alloc 27, 0, "", #[], none⟩,
    ⟨none, .store 27 (.tmp 3) (.tmp 14), 0, "", #[], none⟩] false)
  (.seq (.seq (.region 2 #[⟨some 15, .load 27 (.tmp 3), 27, "", #[], none⟩,
    ⟨some 16, .call { callee := .value (.func 80), args := #[.tmp 15], argTypes := #[27] }, 3, "", #[], none⟩,
    ⟨some 17, .binOp .neq 3 (.tmp 16) (.const (.int .i64 0)) 3, 4, "", #[], none⟩] false)
  (.cond (.tmp 17)
    (.region 3 #[⟨some 18, .fieldAddr 27 (.tmp 3) 2, 0, "", #[], none⟩,
      ⟨none, .store 25 (.tmp 18) (.const (.int .u32 4)), 0, "", #[], none⟩] false)
    .skip))
  (.seq (.region 4 #[⟨some 19, .load 27 (.tmp 3), 27, "", #[], none⟩,
    ⟨none, .store 27 (.tmp 2) (.tmp 19), 0, "", #[], none⟩] false)
  .ret))))
def fn71 : AFn := { ntmps := 20, results := [.cell 2 27], body := c71, keep := fun | 0 => some [1, 2] | 1 => some [2, 3] | 2 => some [2, 3, 17] | 3 => some [2, 3] | 4 => some [2] | _ => none, head := fun  | _ => none, opn := fun _ => none, dyn := fun _ => [] }
def c72 : Code :=
  (.seq (.region 0 #[⟨some 7, .call { callee := .builtin .recover, args := #[], argTypes := #[] }, 20, "", #[], none⟩,
    ⟨some 4, .assign (.tmp 7), 20, "", #[], none⟩] false)
  (.seq (.region 1 #[⟨some 8, .move (.tmp 4), 20, "", #[], none⟩,
    ⟨some 9, .binOp .neq 20 (.tmp 8) (.const .nilIface) 20, 4, "", #[], none⟩] false)
  (.cond (.tmp 9)
    (.seq (.region 2 #[⟨some 11, .move (.tmp 4), 20, "", #[], none⟩,
      ⟨some 12, .typeAssert (.tmp 11) 20 110 true, 111, "", #[], none⟩,
      ⟨some 10, .move (.tmp 12), 111, "", #[], none⟩,
      ⟨some 13, .extract (.tmp 10) 0, 110, "", #[], none⟩,
      ⟨some 14, .extract (.tmp 10) 1, 4, "", #[], none⟩,
      ⟨some 5, .alloc 110, 0, "", #[], none⟩,
      ⟨none, .store 110 (.tmp 5) (.tmp 13), 0, "", #[], none⟩,
      ⟨some 6, .assign (.tmp 14), 4, "", #[], none⟩] false)
    (.seq (.seq (.region 3 #[⟨some 15, .move (.tmp 6), 4, "", #[], none⟩,
      ⟨some 16, .unOp .not 4 (.tmp 15), 4, "", #[], none⟩] false)
    (.cond (.tmp 16)
      (.region 4 #[⟨some 17, .move (.tmp 4), 20, "", #[], none⟩,
        ⟨none, .panic (.tmp 17), 0, "", #[], none⟩] false)
      .skip))
    (.region 5 #[⟨some 18, .build 30 #[], 30, "", #[], none⟩,
      ⟨some 19, .fieldAddr 110 (.tmp 5) 0, 0, "", #[], none⟩,
      ⟨some 20, .load 3 (.tmp 19), 3, "", #[], none⟩,
      ⟨some 21, .fieldAddr 110 (.tmp 5) 1, 0, "", #[], none⟩,
      ⟨some 22, .load 34 (.tmp 21), 34, "", #[], none⟩,
      ⟨none, .store 30 (.tmp 0) (.tmp 18), 0, "", #[], none⟩,
      ⟨none, .store 3 (.tmp 1) (.const (.int .i64 0)), 0, "", #[], none⟩,
      ⟨none, .store 3 (.tmp 2) (.tmp 20), 0, "", #[], none⟩,
      ⟨none, .store 34 (.tmp 3) (.tmp 22), 0, "", #[], none⟩] true)))
    .skip)))
def fn72 : AFn := { ntmps := 23, results := [], body := c72, keep := fun | 0 => some [0, 1, 2, 3, 4] | 1 => some [0, 1, 2, 3, 4, 9] | 2 => some [0, 1, 2, 3, 4, 5, 6] | 3 => some [0, 1, 2, 3, 4, 5, 16] | 4 => some [0, 1, 2, 3, 5] | 5 => some [] | _ => none, head := fun  | _ => none, opn := fun _ => none, dyn := fun | 5 => [(2, 5), (4, 5), (2, 6), (4, 6), (4, 7)] | _ => [] }
def c73 : Code :=
  (.seq (.region 0 #[⟨some 8, .alloc 30, 0, "", #[], none⟩,
    ⟨some 9, .assign (.const (.int .i64 0)), 3, "", #[], none⟩] false)
  (.seq (.region 1 #[⟨some 17, .move (.tmp 0), 136, "", #[], none⟩,
    ⟨some 18, .nilCheck (.tmp 17), 0, "", #[], none⟩,
    ⟨some 19, .fieldAddr 113 (.tmp 18) 0, 0, "", #[], none⟩,
    ⟨some 20, .load 22 (.tmp 19), 22, "", #[], none⟩,
    ⟨some 21, .move (.tmp 1), 3, "", #[], none⟩,
    ⟨some 22, .move (.tmp 2), 3, "", #[], none⟩,
    ⟨some 23, .slice 22 (.tmp 20) (some (.tmp 21)) (some (.tmp 22)) none, 22, "", #[], none⟩,
    ⟨some 24, .call { callee := .value (.func 95), args := #[.tmp 23], argTypes := #[22] }, 137, "", #[], none⟩,
    ⟨some 16, .move (.tmp 24), 137, "", #[], none⟩,
    ⟨some 25, .extract (.tmp 16) 0, 27, "", #[], none⟩,
    ⟨some 26, .extract (.tmp 16) 1, 3, "", #[], none⟩,
    ⟨some 27, .extract (.tmp 16) 2, 34, "", #[], none⟩,
    ⟨some 10, .alloc 27, 0, "", #[], none⟩,
    ⟨none, .store 27 (.tmp 10) (.tmp 25), 0, "", #[], none⟩,
    ⟨some 11, .assign (.tmp 26), 3, "", #[], none⟩,
    ⟨some 12, .assign (.tmp 27), 34, "", #[], none⟩] false)
  (.seq (.block 0 (.seq (.region 2 #[⟨some 29, .move (.tmp 12), 34, "", #[], none⟩,
    ⟨some 30, .binOp .eql 34 (.tmp 29) (.const (.int .i64 7)) 34, 4, "", #[], none⟩,
    ⟨some 28, .assign (.tmp 30), 4, "", #[], none⟩] false)
  (.cond (.tmp 28)
    (.region 3 #[⟨some 31, .move (.tmp 2), 3, "", #[], none⟩,
      ⟨some 32, .move (.tmp 12), 34, "", #[], none⟩,
      ⟨some 33, .build 110 #[(0, .tmp 31), (1, .tmp 32)], 110, "", #[], none⟩,
      ⟨some 34, .makeInterface 110 (.tmp 33), 20, "", #[], none⟩,
      ⟨none, .panic (.tmp 34), 0, "", #[], none⟩] false)
    (.seq (.region 4 #[⟨some 36, .move (.tmp 12), 34, "", #[], none⟩,
      ⟨some 37, .binOp .neq 34 (.tmp 36) (.const (.int .i64 0)) 34, 4, "", #[], none⟩,
      ⟨some 35, .assign (.tmp 37), 4, "", #[], none⟩] false)
    (.cond (.tmp 35)
      (.region 5 #[⟨some 38, .move (.tmp 1), 3, "", #[], none⟩,
        ⟨some 39, .move (.tmp 12), 34, "", #[], none⟩,
        ⟨some 40, .build 110 #[(0, .tmp 38), (1, .tmp 39)], 110, "", #[], none⟩,
        ⟨some 41, .makeInterface 110 (.tmp 40), 20, "", #[], none⟩,
        ⟨none, .panic (.tmp 41), 0, "", #[], none⟩] false)
      (.seq (.region 6 #[⟨some 43, .move (.tmp 3), 3, "", #[], none⟩,
        ⟨some 44, .binOp .gtr 3 (.tmp 43) (.const (.int .i64 16)) 3, 4, "", #[], none⟩,
        ⟨some 42, .assign (.tmp 44), 4, "", #[], none⟩] false)
      (.cond (.tmp 42)
        (.region 7 #[⟨some 45, .move (.tmp 1), 3, "", #[], none⟩,
          ⟨some 46, .build 110 #[(0, .tmp 45), (1, .const (.int .i64 12))], 110, "", #[], none⟩,
          ⟨some 47, .makeInterface 110 (.tmp 46), 20, "", #[], none⟩,
          ⟨none, .panic (.tmp 47), 0, "", #[], none⟩] false)
        (.seq (.region 8 #[⟨some 49, .move (.tmp 0), 136, "", #[], none⟩,
          ⟨some 50, .nilCheck (.tmp 49), 0, "", #[], none⟩,
          ⟨some 51, .fieldAddr 113 (.tmp 50) 1, 0, "", #[], none⟩,
          ⟨some 52, .load 3 (.tmp 51), 3, "", #[], none⟩,
          ⟨some 53, .binOp .eql 3 (.tmp 52) (.const (.int .i64 8192)) 3, 4, "", #[], none⟩,
          ⟨some 48, .assign (.tmp 53), 4, "", #[], none⟩] false)
        (.cond (.tmp 48)
          (.region 9 #[⟨some 54, .move (.tmp 1), 3, "", #[], none⟩,
            ⟨some 55, .build 110 #[(0, .tmp 54), (1, .const (.int .i64 3))], 110, "", #[], none⟩,
            ⟨some 56, .makeInterface 110 (.tmp 55), 20, "", #[], none⟩,
            ⟨none, .panic (.tmp 56), 0, "", #[], none⟩] false)
          .skip)))))))))
  (.seq (.region 10 #[⟨some 57, .move (.tmp 0), 136, "", #[], none⟩,
    ⟨some 58, .nilCheck (.tmp 57), 0, "", #[], none⟩,
    ⟨some 59, .fieldAddr 113 (.tmp 58) 1, 0, "", #[], none⟩,
    ⟨some 60, .load 3 (.tmp 59), 3, "", #[], none⟩,
    ⟨some 61, .binOp .add 3 (.tmp 60) (.const (.int .i64 1)) 3, 3, "", #[], none⟩,
    ⟨some 62, .nilCheck (.tmp 57), 0, "", #[], none⟩,
    ⟨some 63, .fieldAddr 113 (.tmp 62) 1, 0, "", #[], none⟩,
    ⟨none, .store 3 (.tmp 63) (.tmp 61), 0, "", #[], none⟩] false)
  (.seq (.region 11 #[⟨some 64, .move (.tmp 1), 3, "", #[], none⟩,
    ⟨some 65, .move (.tmp 11), 3, "", #[], none⟩,
    ⟨some 66, .binOp .add 3 (.tmp 64) (.tmp 65) 3, 3, "", #[], none⟩,
    ⟨some 1, .assign (.tmp 66), 3, "", #[], none⟩] false)
  (.seq (.region 12 #[⟨some 68, .move (.tmp 0), 136, "", #[], none⟩,
    ⟨some 69, .nilCheck (.tmp 68), 0, "", #[], none⟩,
    ⟨some 70, .fieldAddr 113 (.tmp 69) 0, 0, "", #[], none⟩,
    ⟨some 71, .load 22 (.tmp 70), 22, "", #[], none⟩,
    ⟨some 72, .move (.tmp 1), 3, "", #[], none⟩,
    ⟨some 73, .move (.tmp 2), 3, "", #[], none⟩,
    ⟨some 74, .slice 22 (.tmp 71) (some (.tmp 72)) (some (.tmp 73)) none, 22, "", #[], none⟩,
    ⟨some 75, .call { callee := .value (.func 96), args := #[.tmp 74], argTypes := #[22] }, 139, "", #[], none⟩,
    ⟨some 67, .move (.tmp 75), 139, "", #[], none⟩,
    ⟨some 76, .extract (.tmp 67) 0, 3, "", #[], none⟩,
    ⟨some 77, .extract (.tmp 67) 1, 3, "", #[], none⟩,
    ⟨some 78, .extract (.tmp 67) 2, 34, "", #[], none⟩,
    ⟨some 13, .assign (.tmp 76), 3, "", #[], none⟩,
    ⟨some 11, .assign (.tmp 77), 3, "", #[], none⟩,
    ⟨some 12, .assign (.tmp 78), 34, "", #[], none⟩] false)
  (.seq (.block 1 (.seq (.region 13 #[⟨some 80, .move (.tmp 12), 34, "", #[], none⟩,
    ⟨some 81, .binOp .eql 34 (.tmp 80) (.const (.int .i64 7)) 34, 4, "", #[], none⟩,
    ⟨some 79, .assign (.tmp 81), 4, "", #[], none⟩] false)
  (.cond (.tmp 79)
    (.region 14 #[⟨some 82, .move (.tmp 2), 3, "", #[], none⟩,
      ⟨some 83, .move (.tmp 12), 34, "", #[], none⟩,
      ⟨some 84, .build 110 #[(0, .tmp 82), (1, .tmp 83)], 110, "", #[], none⟩,
      ⟨some 85, .makeInterface 110 (.tmp 84), 20, "", #[], none⟩,
      ⟨none, .panic (.tmp 85), 0, "", #[], none⟩] false)
    (.seq (.region 15 #[⟨some 87, .move (.tmp 12), 34, "", #[], none⟩,
      ⟨some 88, .binOp .neq 34 (.tmp 87) (.const (.int .i64 0)) 34, 4, "", #[], none⟩,
      ⟨some 86, .assign (.tmp 88), 4, "", #[], none⟩] false)
    (.cond (.tmp 86)
      (.region 16 #[⟨some 89, .move (.tmp 1), 3, "", #[], none⟩,
        ⟨some 90, .move (.tmp 12), 34, "", #[], none⟩,
        ⟨some 91, .build 110 #[(0, .tmp 89), (1, .tmp 90)], 110, "", #[], none⟩,
        ⟨some 92, .makeInterface 110 (.tmp 91), 20, "", #[], none⟩,
        ⟨none, .panic (.tmp 92), 0, "", #[], none⟩] false)
      (.seq (.region 17 #[⟨some 94, .move (.tmp 13), 3, "", #[], none⟩,
        ⟨some 95, .move (.tmp 2), 3, "", #[], none⟩,
        ⟨some 96, .move (.tmp 1), 3, "", #[], none⟩,
        ⟨some 97, .binOp .sub 3 (.tmp 95) (.tmp 96) 3, 3, "", #[], none⟩,
        ⟨some 98, .move (.tmp 11), 3, "", #[], none⟩,
        ⟨some 99, .binOp .sub 3 (.tmp 97) (.tmp 98) 3, 3, "", #[], none⟩,
        ⟨some 100, .binOp .gtr 3 (.tmp 94) (.tmp 99) 3, 4, "", #[], none⟩,
        ⟨some 93, .assign (.tmp 100), 4, "", #[], none⟩] false)
      (.cond (.tmp 93)
        (.region 18 #[⟨some 101, .move (.tmp 2), 3, "", #[], none⟩,
          ⟨some 102, .build 110 #[(0, .tmp 101), (1, .const (.int .i64 7))], 110, "", #[], none⟩,
          ⟨some 103, .makeInterface 110 (.tmp 102), 20, "", #[], none⟩,
          ⟨none, .panic (.tmp 103), 0, "", #[], none⟩] false)
        .skip)))))))
  (.seq (.region 19 #[⟨some 104, .move (.tmp 1), 3, "", #[], none⟩,
    ⟨some 105, .move (.tmp 11), 3, "", #[], none⟩,
    ⟨some 106, .binOp .add 3 (.tmp 104) (.tmp 105) 3, 3, "", #[], none⟩,
    ⟨some 1, .assign (.tmp 106), 3, "", #[], none⟩] false)
  (.seq (.region 20 #[⟨some 107, .move (.tmp 1), 3, "", #[], none⟩,
    ⟨some 108, .move (.tmp 13), 3, "", #[], none⟩,
    ⟨some 109, .binOp .add 3 (.tmp 107) (.tmp 108) 3, 3, "", #[], none⟩,
    ⟨some 2, .assign (.tmp 109), 3, "", #[], none⟩] false)
  (.seq (.region 21 #[⟨some 110, .load 27 (.tmp 10), 27, "", #[], none⟩,
    ⟨some 111, .build 30 #[(0, .tmp 110)], 30, "", #[], none⟩,
    ⟨some 14, .alloc 30, 0, "", #[], none⟩,
    ⟨none, .store 30 (.tmp 14) (.tmp 111), 0, "", #[], none⟩] false)
  (.seq (.seq (.region 22 #[⟨some 112, .fieldAddr 27 (.tmp 10) 1, 0, "", #[], none⟩,
    ⟨some 113, .load 4 (.tmp 112), 4, "", #[], none⟩,
    ⟨some 114, .unOp .not 4 (.tmp 113), 4, "", #[], none⟩] false)
  (.cond (.tmp 114)
    (.seq (.region 23 #[⟨some 115, .move (.tmp 0), 136, "", #[], none⟩,
      ⟨some 116, .nilCheck (.tmp 115), 0, "", #[], none⟩,
      ⟨some 117, .fieldAddr 113 (.tmp 116) 0, 0, "", #[], none⟩,
      ⟨some 118, .load 22 (.tmp 117), 22, "", #[], none⟩,
      ⟨some 119, .move (.tmp 1), 3, "", #[], none⟩,
      ⟨some 120, .move (.tmp 2), 3, "", #[], none⟩,
      ⟨some 121, .slice 22 (.tmp 118) (some (.tmp 119)) (some (.tmp 120)) none, 22, "", #[], none⟩,
      ⟨some 122, .call { callee := .value (.func 98), args := #[.tmp 121], argTypes := #[22] }, 22, "", #[], none⟩,
      ⟨some 123, .call { callee := .value (.func 97), args := #[.tmp 122], argTypes := #[22] }, 22, "", #[], none⟩,
      ⟨some 124, .fieldAddr 30 (.tmp 14) 1, 0, "", #[], none⟩,
      ⟨none, .store 22 (.tmp 124) (.tmp 123), 0, "", #[], none⟩] false)
    (.seq (.region 24 #[⟨some 125, .load 30 (.tmp 14), 30, "", #[], none⟩,
      ⟨some 126, .move (.tmp 2), 3, "", #[], none⟩,
      ⟨none, .store 30 (.tmp 8) (.tmp 125), 0, "", #[], none⟩,
      ⟨some 9, .assign (.tmp 126), 3, "", #[], none⟩] false)
    .ret))
    .skip))
  (.seq (.block 2 (.loop (.seq (.seq (.region 25 #[⟨some 127, .move (.tmp 1), 3, "", #[], none⟩,
    ⟨some 128, .move (.tmp 2), 3, "", #[], none⟩,
    ⟨some 129, .binOp .lss 3 (.tmp 127) (.tmp 128) 3, 4, "", #[], none⟩] false)
  (.cond (.tmp 129)
    .skip
    (.exit 2)))
  (.block 3 (.seq (.region 26 #[⟨some 15, .alloc 30, 0, "", #[], none⟩] false)
  (.seq (.region 27 #[⟨some 131, .move (.tmp 0), 136, "", #[], none⟩,
    ⟨some 132, .move (.tmp 1), 3, "", #[], none⟩,
    ⟨some 133, .move (.tmp 2), 3, "", #[], none⟩,
    ⟨some 134, .move (.tmp 3), 3, "", #[], none⟩,
    ⟨some 135, .binOp .add 3 (.tmp 134) (.const (.int .i64 1)) 3, 3, "", #[], none⟩,
    ⟨some 136, .call { callee := .value (.func 73), args := #[.tmp 131, .tmp 132, .tmp 133, .tmp 135], argTypes := #[136, 3, 3, 3] }, 114, "", #[], none⟩,
    ⟨some 130, .move (.tmp 136), 114, "", #[], none⟩,
    ⟨some 137, .extract (.tmp 130) 0, 30, "", #[], none⟩,
    ⟨some 138, .extract (.tmp 130) 1, 3, "", #[], none⟩,
    ⟨none, .store 30 (.tmp 15) (.tmp 137), 0, "", #[], none⟩,
    ⟨some 1, .assign (.tmp 138), 3, "", #[], none⟩] false)
  (.region 28 #[⟨some 139, .fieldAddr 30 (.tmp 14) 2, 0, "", #[], none⟩,
    ⟨some 140, .load 28 (.tmp 139), 28, "", #[], none⟩,
    ⟨some 141, .load 30 (.tmp 15), 30, "", #[], none⟩,
    ⟨some 142, .buildSlice 28 1 #[(0, .tmp 141)], 28, "", #[], none⟩,
    ⟨some 143, .call { callee := .builtin .append, args := #[.tmp 140, .tmp 142], argTypes := #[28, 28] }, 28, "", #[], none⟩,
    ⟨some 144, .fieldAddr 30 (.tmp 14) 2, 0, "", #[], none⟩,
    ⟨none, .store 28 (.tmp 144) (.tmp 143), 0, "", #[], none⟩] false)))))))
  (.seq (.region 29 #[⟨some 145, .fieldAddr 30 (.tmp 14) 2, 0, "", #[], none⟩,
    ⟨some 146, .load 28 (.tmp 145), 28, "", #[], none⟩,
    ⟨some 147, .call { callee := .value (.func 99), args := #[.tmp 146], argTypes := #[28] }, 28, "", #[], none⟩,
    ⟨some 148, .fieldAddr 30 (.tmp 14) 2, 0, "", #[], none⟩,
    ⟨none, .store 28 (.tmp 148) (.tmp 147), 0, "", #[], none⟩] false)
  (.seq (.region 30 #[⟨some 149, .load 30 (.tmp 14), 30, "", #[], none⟩,
    ⟨some 150, .move (.tmp 2), 3, "", #[], none⟩,
    ⟨none, .store 30 (.tmp 8) (.tmp 149), 0, "", #[], none⟩,
    ⟨some 9, .assign (.tmp 150), 3, "", #[], none⟩] false)
  .ret))))))))))))))
def fn73 : AFn := { ntmps := 151, results := [.cell 8 30, .tmp 9], body := c73, keep := fun | 0 => some [0, 1, 2, 3, 8] | 1 => some [0, 1, 2, 3, 8, 10, 11, 12] | 2 => some [0, 1, 2, 3, 8, 10, 11, 12, 28] | 3 => some [0, 1, 2, 3, 8, 10, 11] | 4 => some [0, 1, 2, 3, 8, 10, 11, 12, 35] | 5 => some [0, 1, 2, 3, 8, 10, 11] | 6 => some [0, 1, 2, 3, 8, 10, 11, 42] | 7 => some [0, 1, 2, 3, 8, 10, 11] | 8 => some [0, 1, 2, 3, 8, 10, 11, 48] | 9 => some [0, 1, 2, 3, 8, 10, 11] | 10 => some [0, 1, 2, 3, 8, 10, 11] | 11 => some [0, 1, 2, 3, 8, 10] | 12 => some [0, 1, 2, 3, 8, 10, 11, 12, 13] | 13 => some [0, 1, 2, 3, 8, 10, 11, 12, 13, 79] | 14 => some [0, 1, 3, 8, 10, 11, 13] | 15 => some [0, 1, 2, 3, 8, 10, 11, 12, 13, 86] | 16 => some [0, 1, 3, 8, 10, 11, 13] | 17 => some [0, 1, 2, 3, 8, 10, 11, 13, 93] | 18 => some [0, 1, 3, 8, 10, 11, 13] | 19 => some [0, 1, 3, 8, 10, 13] | 20 => some [0, 1, 2, 3, 8, 10] | 21 => some [0, 1, 2, 3, 8, 10, 14] | 22 => some [0, 1, 2, 3, 8, 14, 114] | 23 => some [2, 8, 14] | 24 => some [8, 9] | 25 => some [0, 1, 2, 3, 8, 14, 129] | 26 => some [0, 1, 2, 3, 8, 14, 15] | 27 => some [0, 1, 2, 3, 8, 14, 15] | 28 => some [0, 1, 2, 3, 8, 14] | 29 => some [2, 8, 14] | 30 => some [8, 9] | _ => none, head := fun | 25 => some [0, 1, 2, 3, 8, 14] | _ => none, opn := opnT, dyn := fun _ => [] }
def c74 : Code :=
  (.seq (.region 0 #[⟨some 1, .box 30 (.tmp 0), 0, "", #[], none⟩,
    ⟨some 2, .alloc 30, 0, "", #[], none⟩] false)
  (.seq (.region 1 #[⟨some 6, .fieldAddr 30 (.tmp 1) 0, 0, "", #[], none⟩,
    ⟨some 7, .load 27 (.tmp 6), 27, "", #[], none⟩,
    ⟨some 8, .fieldAddr 30 (.tmp 1) 1, 0, "", #[], none⟩,
    ⟨some 9, .load 22 (.tmp 8), 22, "", #[], none⟩,
    ⟨some 10, .call { callee := .value (.func 98), args := #[.tmp 9], argTypes := #[22] }, 22, "", #[], none⟩,
    ⟨some 11, .call { callee := .value (.func 97), args := #[.tmp 10], argTypes := #[22] }, 22, "", #[], none⟩,
    ⟨some 12, .build 30 #[(0, .tmp 7), (1, .tmp 11)], 30, "", #[], none⟩,
    ⟨some 3, .alloc 30, 0, "", #[], none⟩,
    ⟨none, .store 30 (.tmp 3) (.tmp 12), 0, "", #[], none⟩] true)
  (.seq (.seq (.region 2 #[⟨some 13, .fieldAddr 30 (.tmp 1) 2, 0, "", #[], none⟩,
    ⟨some 14, .load 28 (.tmp 13), 28, "", #[], none⟩,
    ⟨some 15, .call { callee := .builtin .len, args := #[.tmp 14], argTypes := #[28] }, 3, "", #[], none⟩,
    ⟨some 16, .binOp .gtr 3 (.tmp 15) (.const (.int .i64 0)) 3, 4, "", #[], none⟩] false)
  (.cond (.tmp 16)
    (.region 3 #[⟨some 17, .fieldAddr 30 (.tmp 1) 2, 0, "", #[], none⟩,
      ⟨some 18, .load 28 (.tmp 17), 28, "", #[], none⟩,
      ⟨some 19, .call { callee := .builtin .len, args := #[.tmp 18], argTypes := #[28] }, 3, "", #[], none⟩,
      ⟨some 20, .makeSlice 28 (.tmp 19) (.tmp 19), 28, "", #[], none⟩,
      ⟨some 21, .fieldAddr 30 (.tmp 3) 2, 0, "", #[], none⟩,
      ⟨none, .store 28 (.tmp 21) (.tmp 20), 0, "", #[], none⟩] false)
    .skip))
  (.seq (.seq (.region 4 #[⟨some 22, .fieldAddr 30 (.tmp 1) 2, 0, "", #[], none⟩,
    ⟨some 23, .load 28 (.tmp 22), 28, "", #[], none⟩,
    ⟨some 24, .call { callee := .builtin .len, args := #[.tmp 23], argTypes := #[28] }, 3, "", #[], none⟩,
    ⟨some 25, .move (.const (.int .i64 0)), 3, "", #[], none⟩] false)
  (.block 0 (.loop (.seq (.region 5 #[⟨some 26, .binOp .lss 3 (.tmp 25) (.tmp 24) 3, 0, "", #[], none⟩] false)
  (.seq (.cond (.tmp 26)
    .skip
    (.exit 0))
  (.seq (.block 1 (.seq (.region 6 #[⟨some 27, .move (.tmp 25), 3, "", #[], none⟩,
    ⟨some 28, .indexAddr 28 (.tmp 23) (.tmp 25), 0, "", #[], none⟩,
    ⟨some 29, .load 30 (.tmp 28), 30, "", #[], none⟩,
    ⟨some 5, .alloc 30, 0, "", #[], none⟩,
    ⟨some 4, .assign (.tmp 27), 3, "", #[], none⟩,
    ⟨none, .store 30 (.tmp 5) (.tmp 29), 0, "", #[], none⟩] false)
  (.region 7 #[⟨some 30, .fieldAddr 30 (.tmp 3) 2, 0, "", #[], none⟩,
    ⟨some 31, .load 28 (.tmp 30), 28, "", #[], none⟩,
    ⟨some 32, .move (.tmp 4), 3, "", #[], none⟩,
    ⟨some 33, .load 30 (.tmp 5), 30, "", #[], none⟩,
    ⟨some 34, .call { callee := .value (.func 74), args := #[.tmp 33], argTypes := #[30] }, 30, "", #[], none⟩,
    ⟨some 35, .indexAddr 28 (.tmp 31) (.tmp 32), 0, "", #[], none⟩,
    ⟨none, .store 30 (.tmp 35) (.tmp 34), 0, "", #[], none⟩] true)))
  (.region 8 #[⟨some 36, .binOp .add 3 (.tmp 25) (.const (.int .i64 1)) 3, 3, "", #[], none⟩,
    ⟨some 25, .move (.tmp 36), 3, "", #[], none⟩] false)))))))
  (.seq (.region 9 #[⟨some 37, .load 30 (.tmp 3), 30, "", #[], none⟩,
    ⟨none, .store 30 (.tmp 2) (.tmp 37), 0, "", #[], none⟩] false)
  .ret)))))
def fn74 : AFn := { ntmps := 38, results := [.cell 2 30], body := c74, keep := fun | 0 => some [1, 2] | 1 => some [1, 2, 3] | 2 => some [1, 2, 3, 16] | 3 => some [1, 2, 3] | 4 => some [2, 3, 23, 24, 25] | 5 => some [2, 3, 23, 24, 25, 26] | 6 => some [2, 3, 4, 5, 23, 24, 25] | 7 => some [2, 3, 23, 24, 25] | 8 => some [2, 3, 23, 24, 25] | 9 => some [2] | _ => none, head := fun | 5 => some [2, 3, 23, 24, 25] | _ => none, opn := fun _ => none, dyn := fun _ => [] }
def c75 : Code :=
  (.seq (.region 0 #[⟨some 1, .box 30 (.tmp 0), 0, "", #[], none⟩,
    ⟨some 2, .assign (.const (.int .i64 0)), 34, "", #[], none⟩,
    ⟨some 3, .alloc 3, 0, "", #[], none⟩,
    ⟨some 4, .alloc 3, 0, "", #[], none⟩] false)
  (.seq (.region 1 #[⟨some 5, .load 30 (.tmp 1), 30, "", #[], none⟩,
    ⟨some 6, .makeFunc (.func 101) #[] #[.tmp 3, .tmp 4], 145, "", #[], none⟩,
    ⟨some 7, .call { callee := .value (.func 100), args := #[.tmp 5, .tmp 6], argTypes := #[30, 145] }, 34, "", #[], none⟩,
    ⟨some 2, .assign (.tmp 7), 34, "", #[], none⟩] false)
  (.seq (.seq (.region 2 #[⟨some 8, .move (.tmp 2), 34, "", #[], none⟩,
    ⟨some 9, .binOp .neq 34 (.tmp 8) (.const (.int .i64 0)) 34, 4, "", #[], none⟩] false)
  (.cond (.tmp 9)
    (.seq (.region 3 #[⟨some 10, .move (.tmp 2), 34, "", #[], none⟩,
      ⟨some 2, .assign (.tmp 10), 34, "", #[], none⟩,
      ⟨none, .store 3 (.tmp 3) (.const (.int .i64 0)), 0, "", #[], none⟩,
      ⟨none, .store 3 (.tmp 4) (.const (.int .i64 0)), 0, "", #[], none⟩] false)
    .ret)
    .skip))
  (.seq (.region 4 #[⟨some 11, .load 3 (.tmp 3), 3, "", #[], none⟩,
    ⟨some 12, .load 3 (.tmp 4), 3, "", #[], none⟩,
    ⟨some 2, .assign (.const (.int .i64 0)), 34, "", #[], none⟩,
    ⟨none, .store 3 (.tmp 3) (.tmp 11), 0, "", #[], none⟩,
    ⟨none, .store 3 (.tmp 4) (.tmp 12), 0, "", #[], none⟩] true)
  .ret))))
def fn75 : AFn := { ntmps := 13, results := [.tmp 2, .cell 3 3, .cell 4 3], body := c75, keep := fun | 0 => some [1, 3, 4] | 1 => some [2, 3, 4] | 2 => some [2, 3, 4, 9] | 3 => some [2, 3, 4] | 4 => some [2, 3, 4] | _ => none, head := fun  | _ => none, opn := opnT, dyn := fun | 4 => [(1, 3)] | _ => [] }
def c76 : Code :=
  (.seq (.region 0 #[⟨some 1, .box 27 (.tmp 0), 0, "", #[], none⟩,
    ⟨some 2, .assign (.const (.slice none 0 0)), 22, "", #[], none⟩] false)
  (.seq (.region 1 #[⟨some 4, .fieldAddr 27 (.tmp 1) 0, 0, "", #[], none⟩,
    ⟨some 5, .load 24 (.tmp 4), 24, "", #[], none⟩,
    ⟨some 6, .convert 24 3 (.tmp 5), 3, "", #[], none⟩,
    ⟨some 7, .binOp .mul 3 (.const (.int .i64 64)) (.tmp 6) 3, 3, "", #[], none⟩,
    ⟨some 3, .assign (.tmp 7), 3, "", #[], none⟩] false)
  (.seq (.seq (.region 2 #[⟨some 8, .fieldAddr 27 (.tmp 1) 1, 0, "", #[], none⟩,
    ⟨some 9, .load 4 (.tmp 8), 4, "", #[], none⟩] false)
  (.cond (.tmp 9)
    (.region 3 #[⟨some 10, .move (.tmp 3), 3, "", #[], none⟩,
      ⟨some 11, .binOp .add 3 (.tmp 10) (.const (.int .i64 32)) 3, 3, "", #[], none⟩,
      ⟨some 3, .assign (.tmp 11), 3, "", #[], none⟩] false)
    .skip))
  (.seq (.seq (.region 4 #[⟨some 12, .fieldAddr 27 (.tmp 1) 2, 0, "", #[], none⟩,
    ⟨some 13, .load 25 (.tmp 12), 25, "", #[], none⟩,
    ⟨some 14, .binOp .lss 25 (.tmp 13) (.const (.int .u32 31)) 25, 4, "", #[], none⟩] false)
  (.cond (.tmp 14)
    (.seq (.region 5 #[⟨some 15, .move (.tmp 3), 3, "", #[], none⟩,
      ⟨some 16, .fieldAddr 27 (.tmp 1) 2, 0, "", #[], none⟩,
      ⟨some 17, .load 25 (.tmp 16), 25, "", #[], none⟩,
      ⟨some 18, .convert 25 3 (.tmp 17), 3, "", #[], none⟩,
      ⟨some 19, .binOp .add 3 (.tmp 15) (.tmp 18) 3, 3, "", #[], none⟩,
      ⟨some 20, .convert 3 5 (.tmp 19), 5, "", #[], none⟩,
      ⟨some 21, .buildSlice 22 1 #[(0, .tmp 20)], 22, "", #[], none⟩,
      ⟨some 2, .assign (.tmp 21), 22, "", #[], none⟩] false)
    .ret)
    .skip))
  (.seq (.region 6 #[⟨some 22, .move (.tmp 3), 3, "", #[], none⟩,
    ⟨some 23, .binOp .add 3 (.tmp 22) (.const (.int .i64 31)) 3, 3, "", #[], none⟩,
    ⟨some 24, .convert 3 5 (.tmp 23), 5, "", #[], none⟩,
    ⟨some 25, .buildSlice 22 1 #[(0, .tmp 24)], 22, "", #[], none⟩,
    ⟨some 26, .fieldAddr 27 (.tmp 1) 2, 0, "", #[], none⟩,
    ⟨some 27, .load 25 (.tmp 26), 25, "", #[], none⟩,
    ⟨some 28, .convert 25 3 (.tmp 27), 3, "", #[], none⟩,
    ⟨some 29, .call { callee := .value (.func 103), args := #[.tmp 28], argTypes := #[3] }, 22, "", #[], none⟩,
    ⟨some 30, .call { callee := .builtin .append, args := #[.tmp 25, .tmp 29], argTypes := #[22, 22] }, 22, "", #[], none⟩,
    ⟨some 2, .assign (.tmp 30), 22, "", #[], none⟩] false)
  .ret)))))
def fn76 : AFn := { ntmps := 31, results := [.tmp 2], body := c76, keep := fun | 0 => some [1] | 1 => some [1, 3] | 2 => some [1, 3, 9] | 3 => some [1, 3] | 4 => some [1, 3, 14] | 5 => some [2] | 6 => some [2] | _ => none, head := fun  | _ => none, opn := fun _ => none, dyn := fun _ => [] }
def c77 : Code :=
  (.seq (.region 0 #[⟨some 2, .assign (.const (.slice none 0 0)), 22, "", #[], none⟩] false)
  (.seq (.seq (.region 1 #[⟨some 4, .move (.tmp 0), 3, "", #[], none⟩,
    ⟨some 5, .binOp .lss 3 (.tmp 4) (.const (.int .i64 128)) 3, 4, "", #[], none⟩] false)
  (.cond (.tmp 5)
    (.seq (.region 2 #[⟨some 6, .move (.tmp 0), 3, "", #[], none⟩,
      ⟨some 7, .convert 3 5 (.tmp 6), 5, "", #[], none⟩,
      ⟨some 8, .buildSlice 22 1 #[(0, .tmp 7)], 22, "", #[], none⟩,
      ⟨some 2, .assign (.tmp 8), 22, "", #[], none⟩] false)
    .ret)
    .skip))
  (.seq (.region 3 #[⟨some 3, .assign (.const (.slice none 0 0)), 22, "", #[], none⟩] false)
  (.seq (.block 0 (.loop (.seq (.seq (.region 4 #[⟨some 9, .move (.tmp 0), 3, "", #[], none⟩,
    ⟨some 10, .binOp .gtr 3 (.tmp 9) (.const (.int .i64 0)) 3, 4, "", #[], none⟩] false)
  (.cond (.tmp 10)
    .skip
    (.exit 0)))
  (.block 1 (.seq (.region 5 #[⟨some 11, .move (.tmp 0), 3, "", #[], none⟩,
    ⟨some 12, .binOp .rem 3 (.tmp 11) (.const (.int .i64 256)) 3, 3, "", #[], none⟩,
    ⟨some 13, .convert 3 5 (.tmp 12), 5, "", #[], none⟩,
    ⟨some 14, .buildSlice 22 1 #[(0, .tmp 13)], 22, "", #[], none⟩,
    ⟨some 15, .move (.tmp 3), 22, "", #[], none⟩,
    ⟨some 16, .call { callee := .builtin .append, args := #[.tmp 14, .tmp 15], argTypes := #[22, 22] }, 22, "", #[], none⟩,
    ⟨some 3, .assign (.tmp 16), 22, "", #[], none⟩] false)
  (.region 6 #[⟨some 17, .move (.tmp 0), 3, "", #[], none⟩,
    ⟨some 18, .binOp .quo 3 (.tmp 17) (.const (.int .i64 256)) 3, 3, "", #[], none⟩,
    ⟨some 0, .assign (.tmp 18), 3, "", #[], none⟩] false))))))
  (.seq (.region 7 #[⟨some 19, .move (.tmp 3), 22, "", #[], none⟩,
    ⟨some 20, .call { callee := .builtin .len, args := #[.tmp 19], argTypes := #[22] }, 3, "", #[], none⟩,
    ⟨some 21, .binOp .add 3 (.const (.int .i64 128)) (.tmp 20) 3, 3, "", #[], none⟩,
    ⟨some 22, .convert 3 5 (.tmp 21), 5, "", #[], none⟩,
    ⟨some 23, .buildSlice 22 1 #[(0, .tmp 22)], 22, "", #[], none⟩,
    ⟨some 24, .move (.tmp 3), 22, "", #[], none⟩,
    ⟨some 25, .call { callee := .builtin .append, args := #[.tmp 23, .tmp 24], argTypes := #[22, 22] }, 22, "", #[], none⟩,
    ⟨some 2, .assign (.tmp 25), 22, "", #[], none⟩] false)
  .ret)))))
def fn77 : AFn := { ntmps := 26, results := [.tmp 2], body := c77, keep := fun | 0 => some [0] | 1 => some [0, 5] | 2 => some [2] | 3 => some [0, 3] | 4 => some [0, 3, 10] | 5 => some [0, 3] | 6 => some [0, 3] | 7 => some [2] | _ => none, head := fun | 4 => some [0, 3] | _ => none, opn := fun _ => none, dyn := fun _ => [] }
def c78 : Code :=
  (.seq (.region 0 #[⟨some 2, .box 30 (.tmp 0), 0, "", #[], none⟩,
    ⟨some 3, .box 30 (.tmp 1), 0, "", #[], none⟩,
    ⟨some 4, .assign (.const (.bool false)), 4, "", #[], none⟩] false)
  (.seq (.region 1 #[⟨some 5, .fieldAddr 30 (.tmp 2) 0, 0, "", #[], none⟩,
    ⟨some 6, .load 27 (.tmp 5), 27, "", #[], none⟩,
    ⟨some 7, .fieldAddr 30 (.tmp 3) 0, 0, "", #[], none⟩,
    ⟨some 8, .load 27 (.tmp 7), 27, "", #[], none⟩,
    ⟨some 9, .binOp .eql 27 (.tmp 6) (.tmp 8) 27, 4, "", #[], none⟩,
    ⟨some 10, .move (.tmp 9), 4, "", #[], none⟩,
    ⟨some 11, .fieldAddr 30 (.tmp 2) 1, 0, "", #[], some (10, true)⟩,
    ⟨some 12, .load 22 (.tmp 11), 22, "", #[], some (10, true)⟩,
    ⟨some 13, .fieldAddr 30 (.tmp 3) 1, 0, "", #[], some (10, true)⟩,
    ⟨some 14, .load 22 (.tmp 13), 22, "", #[], some (10, true)⟩,
    ⟨some 15, .call { callee := .value (.func 104), args := #[.tmp 12, .tmp 14], argTypes := #[22, 22] }, 4, "", #[], some (10, true)⟩,
    ⟨some 16, .pick (.tmp 10) (.tmp 15) (.const (.bool false)), 4, "", #[], none⟩,
    ⟨some 17, .move (.tmp 16), 4, "", #[], none⟩,
    ⟨some 18, .fieldAddr 30 (.tmp 2) 2, 0, "", #[], some (17, true)⟩,
    ⟨some 19, .load 28 (.tmp 18), 28, "", #[], some (17, true)⟩,
    ⟨some 20, .fieldAddr 30 (.tmp 3) 2, 0, "", #[], some (17, true)⟩,
    ⟨some 21, .load 28 (.tmp 20), 28, "", #[], some (17, true)⟩,
    ⟨some 22, .call { callee := .value (.func 105), args := #[.tmp 19, .tmp 21, .func 78], argTypes := #[28, 28, 45] }, 4, "", #[], some (17, true)⟩,
    ⟨some 23, .pick (.tmp 17) (.tmp 22) (.const (.bool false)), 4, "", #[], none⟩,
    ⟨some 4, .assign (.tmp 23), 4, "", #[], none⟩] false)
  .ret))
def fn78 : AFn := { ntmps := 24, results := [.tmp 4], body := c78, keep := fun | 0 => some [2, 3] | 1 => some [4] | _ => none, head := fun  | _ => none, opn := opnT, dyn := fun _ => [] }
def c79 : Code :=
  (.seq (.region 0 #[⟨some 4, .assign (.const (.int .i64 0)), 3, "", #[], none⟩] false)
  (.seq (.region 1 #[⟨some 5, .move (.tmp 0), 22, "", #[], none⟩,
    ⟨some 6, .move (.tmp 1), 22, "", #[], none⟩,
    ⟨some 7, .call { callee := .value (.func 106), args := #[.tmp 5, .tmp 6], argTypes := #[22, 22] }, 3, "", #[], none⟩,
    ⟨some 4, .assign (.tmp 7), 3, "", #[], none⟩] false)
  .ret))
def fn79 : AFn := { ntmps := 8, results := [.tmp 4], body := c79, keep := fun | 0 => some [0, 1] | 1 => some [4] | _ => none, head := fun  | _ => none, opn := fun _ => none, dyn := fun _ => [] }
def c80 : Code :=
  (.seq (.region 0 #[⟨some 1, .box 27 (.tmp 0), 0, "", #[], none⟩,
    ⟨some 2, .assign (.const (.int .i64 0)), 3, "", #[], none⟩] false)
  (.seq (.seq (.region 1 #[⟨some 3, .fieldAddr 27 (.tmp 1) 0, 0, "", #[], none⟩,
    ⟨some 4, .load 24 (.tmp 3), 24, "", #[], none⟩,
    ⟨some 5, .binOp .gtr 24 (.tmp 4) (.const (.int .u8 3)) 24, 4, "", #[], none⟩,
    ⟨some 6, .move (.tmp 5), 4, "", #[], none⟩,
    ⟨some 7, .fieldAddr 27 (.tmp 1) 2, 0, "", #[], some (6, false)⟩,
    ⟨some 8, .load 25 (.tmp 7), 25, "", #[], some (6, false)⟩,
    ⟨some 9, .binOp .gtr 25 (.tmp 8) (.const (.int .u32 268435455)) 25, 4, "", #[], some (6, false)⟩,
    ⟨some 10, .pick (.tmp 6) (.const (.bool true)) (.tmp 9), 4, "", #[], none⟩] false)
  (.cond (.tmp 10)
    (.seq (.region 2 #[⟨some 2, .assign (.const (.int .i64 1)), 3, "", #[], none⟩] false)
    .ret)
    .skip))
  (.seq (.seq (.region 3 #[⟨some 11, .fieldAddr 27 (.tmp 1) 0, 0, "", #[], none⟩,
    ⟨some 12, .load 24 (.tmp 11), 24, "", #[], none⟩,
    ⟨some 13, .binOp .eql 24 (.tmp 12) (.const (.int .u8 0)) 24, 4, "", #[], none⟩,
    ⟨some 14, .move (.tmp 13), 4, "", #[], none⟩,
    ⟨some 15, .fieldAddr 27 (.tmp 1) 2, 0, "", #[], some (14, true)⟩,
    ⟨some 16, .load 25 (.tmp 15), 25, "", #[], some (14, true)⟩,
    ⟨some 17, .binOp .eql 25 (.tmp 16) (.const (.int .u32 0)) 25, 4, "", #[], some (14, true)⟩,
    ⟨some 18, .move (.tmp 17), 4, "", #[], some (14, true)⟩,
    ⟨some 19, .fieldAddr 27 (.tmp 1) 1, 0, "", #[], some (18, false)⟩,
    ⟨some 20, .load 4 (.tmp 19), 4, "", #[], some (18, false)⟩,
    ⟨some 21, .unOp .not 4 (.tmp 20), 4, "", #[], some (18, false)⟩,
    ⟨some 22, .move (.tmp 21), 4, "", #[], some (18, false)⟩,
    ⟨some 23, .fieldAddr 27 (.tmp 1) 2, 0, "", #[], some (22, true)⟩,
    ⟨some 24, .load 25 (.tmp 23), 25, "", #[], some (22, true)⟩,
    ⟨some 25, .binOp .eql 25 (.tmp 24) (.const (.int .u32 16)) 25, 4, "", #[], some (22, true)⟩,
    ⟨some 26, .move (.tmp 25), 4, "", #[], some (22, true)⟩,
    ⟨some 27, .fieldAddr 27 (.tmp 1) 2, 0, "", #[], some (26, false)⟩,
    ⟨some 28, .load 25 (.tmp 27), 25, "", #[], some (26, false)⟩,
    ⟨some 29, .binOp .eql 25 (.tmp 28) (.const (.int .u32 17)) 25, 4, "", #[], some (26, false)⟩,
    ⟨some 30, .pick (.tmp 26) (.const (.bool true)) (.tmp 29), 4, "", #[], some (22, true)⟩,
    ⟨some 31, .pick (.tmp 22) (.tmp 30) (.const (.bool false)), 4, "", #[], some (18, false)⟩,
    ⟨some 32, .pick (.tmp 18) (.const (.bool true)) (.tmp 31), 4, "", #[], some (14, true)⟩,
    ⟨some 33, .pick (.tmp 14) (.tmp 32) (.const (.bool false)), 4, "", #[], none⟩] false)
  (.cond (.tmp 33)
    (.seq (.region 4 #[⟨some 2, .assign (.const (.int .i64 9)), 3, "", #[], none⟩] false)
    .ret)
    .skip))
  (.seq (.region 5 #[⟨some 2, .assign (.const (.int .i64 0)), 3, "", #[], none⟩] false)
  .ret))))
def fn80 : AFn := { ntmps := 34, results := [.tmp 2], body := c80, keep := fun | 0 => some [1] | 1 => some [1, 10] | 2 => some [2] | 3 => some [33] | 4 => some [2] | 5 => some [2] | _ => none, head := fun  | _ => none, opn := fun _ => none, dyn := fun _ => [] }
def c89 : Code :=
  (.seq (.region 0 #[⟨some 2, .assign (.const (.int .i64 0)), 3, "", #[], none⟩,
    ⟨some 3, .assign (.const (.int .i64 0)), 3, "", #[], none⟩,
    ⟨some 4, .assign (.const (.int .i64 0)), 3, "", #[], none⟩] false)
  (.seq (.seq (.region 1 #[⟨some 8, .move (.tmp 0), 22, "", #[], none⟩,
    ⟨some 9, .call { callee := .builtin .len, args := #[.tmp 8], argTypes := #[22] }, 3, "", #[], none⟩,
    ⟨some 10, .binOp .eql 3 (.tmp 9) (.const (.int .i64 0)) 3, 4, "", #[], none⟩] false)
  (.cond (.tmp 10)
    (.seq (.region 2 #[⟨some 2, .assign (.const (.int .i64 0)), 3, "", #[], none⟩,
      ⟨some 3, .assign (.const (.int .i64 0)), 3, "", #[], none⟩,
      ⟨some 4, .assign (.const (.int .i64 7)), 3, "", #[], none⟩] false)
    .ret)
    .skip))
  (.seq (.seq (.region 3 #[⟨some 11, .move (.tmp 0), 22, "", #[], none⟩,
    ⟨some 12, .indexAddr 22 (.tmp 11) (.const (.int .i64 0)), 0, "", #[], none⟩,
    ⟨some 13, .load 5 (.tmp 12), 5, "", #[], none⟩,
    ⟨some 14, .binOp .lss 5 (.tmp 13) (.const (.int .u8 128)) 5, 4, "", #[], none⟩] false)
  (.cond (.tmp 14)
    (.seq (.region 4 #[⟨some 15, .move (.tmp 0), 22, "", #[], none⟩,
      ⟨some 16, .indexAddr 22 (.tmp 15) (.const (.int .i64 0)), 0, "", #[], none⟩,
      ⟨some 17, .load 5 (.tmp 16), 5, "", #[], none⟩,
      ⟨some 18, .convert 5 3 (.tmp 17), 3, "", #[], none⟩,
      ⟨some 2, .assign (.tmp 18), 3, "", #[], none⟩,
      ⟨some 3, .assign (.const (.int .i64 1)), 3, "", #[], none⟩,
      ⟨some 4, .assign (.const (.int .i64 0)), 3, "", #[], none⟩] false)
    .ret)
    .skip))
  (.seq (.region 5 #[⟨some 19, .move (.tmp 0), 22, "", #[], none⟩,
    ⟨some 20, .indexAddr 22 (.tmp 19) (.const (.int .i64 0)), 0, "", #[], none⟩,
    ⟨some 21, .load 5 (.tmp 20), 5, "", #[], none⟩,
    ⟨some 22, .convert 5 3 (.tmp 21), 3, "", #[], none⟩,
    ⟨some 23, .binOp .sub 3 (.tmp 22) (.const (.int .i64 128)) 3, 3, "", #[], none⟩,
    ⟨some 5, .assign (.tmp 23), 3, "", #[], none⟩] false)
  (.seq (.seq (.region 6 #[⟨some 24, .move (.tmp 5), 3, "", #[], none⟩,
    ⟨some 25, .binOp .lss 3 (.tmp 24) (.const (.int .i64 1)) 3, 4, "", #[], none⟩,
    ⟨some 26, .move (.tmp 25), 4, "", #[], none⟩,
    ⟨some 27, .move (.tmp 5), 3, "", #[], some (26, false)⟩,
    ⟨some 28, .binOp .gtr 3 (.tmp 27) (.const (.int .i64 3)) 3, 4, "", #[], some (26, false)⟩,
    ⟨some 29, .pick (.tmp 26) (.const (.bool true)) (.tmp 28), 4, "", #[], none⟩] false)
  (.cond (.tmp 29)
    (.seq (.region 7 #[⟨some 2, .assign (.const (.int .i64 0)), 3, "", #[], none⟩,
      ⟨some 3, .assign (.const (.int .i64 0)), 3, "", #[], none⟩,
      ⟨some 4, .assign (.const (.int .i64 10)), 3, "", #[], none⟩] false)
    .ret)
    .skip))
  (.seq (.seq (.region 8 #[⟨some 30, .move (.tmp 0), 22, "", #[], none⟩,
    ⟨some 31, .call { callee := .builtin .len, args := #[.tmp 30], argTypes := #[22] }, 3, "", #[], none⟩,
    ⟨some 32, .move (.tmp 5), 3, "", #[], none⟩,
    ⟨some 33, .binOp .add 3 (.tmp 32) (.const (.int .i64 1)) 3, 3, "", #[], none⟩,
    ⟨some 34, .binOp .lss 3 (.tmp 31) (.tmp 33) 3, 4, "", #[], none⟩] false)
  (.cond (.tmp 34)
    (.seq (.region 9 #[⟨some 2, .assign (.const (.int .i64 0)), 3, "", #[], none⟩,
      ⟨some 3, .assign (.const (.int .i64 0)), 3, "", #[], none⟩,
      ⟨some 4, .assign (.const (.int .i64 7)), 3, "", #[], none⟩] false)
    .ret)
    .skip))
  (.seq (.region 10 #[⟨some 6, .assign (.const (.int .i64 0)), 3, "", #[], none⟩] false)
  (.seq (.seq (.region 11 #[⟨some 7, .assign (.const (.int .i64 1)), 3, "", #[], none⟩] false)
  (.block 0 (.loop (.seq (.seq (.region 12 #[⟨some 35, .move (.tmp 7), 3, "", #[], none⟩,
    ⟨some 36, .move (.tmp 5), 3, "", #[], none⟩,
    ⟨some 37, .binOp .leq 3 (.tmp 35) (.tmp 36) 3, 4, "", #[], none⟩] false)
  (.cond (.tmp 37)
    .skip
    (.exit 0)))
  (.seq (.block 1 (.region 14 #[⟨some 40, .move (.tmp 6), 3, "", #[], none⟩,
    ⟨some 41, .binOp .mul 3 (.const (.int .i64 256)) (.tmp 40) 3, 3, "", #[], none⟩,
    ⟨some 42, .move (.tmp 0), 22, "", #[], none⟩,
    ⟨some 43, .move (.tmp 7), 3, "", #[], none⟩,
    ⟨some 44, .indexAddr 22 (.tmp 42) (.tmp 43), 0, "", #[], none⟩,
    ⟨some 45, .load 5 (.tmp 44), 5, "", #[], none⟩,
    ⟨some 46, .convert 5 3 (.tmp 45), 3, "", #[], none⟩,
    ⟨some 47, .binOp .add 3 (.tmp 41) (.tmp 46) 3, 3, "", #[], none⟩,
    ⟨some 6, .assign (.tmp 47), 3, "", #[], none⟩] false))
  (.region 13 #[⟨some 38, .move (.tmp 7), 3, "", #[], none⟩,
    ⟨some 39, .binOp .add 3 (.tmp 38) (.const (.int .i64 1)) 3, 3, "", #[], none⟩,
    ⟨some 7, .assign (.tmp 39), 3, "", #[], none⟩] false))))))
  (.seq (.seq (.region 15 #[⟨some 48, .move (.tmp 0), 22, "", #[], none⟩,
    ⟨some 49, .indexAddr 22 (.tmp 48) (.const (.int .i64 1)), 0, "", #[], none⟩,
    ⟨some 50, .load 5 (.tmp 49), 5, "", #[], none⟩,
    ⟨some 51, .binOp .eql 5 (.tmp 50) (.const (.int .u8 0)) 5, 4, "", #[], none⟩,
    ⟨some 52, .move (.tmp 51), 4, "", #[], none⟩,
    ⟨some 53, .move (.tmp 6), 3, "", #[], some (52, false)⟩,
    ⟨some 54, .binOp .lss 3 (.tmp 53) (.const (.int .i64 128)) 3, 4, "", #[], some (52, false)⟩,
    ⟨some 55, .pick (.tmp 52) (.const (.bool true)) (.tmp 54), 4, "", #[], none⟩] false)
  (.cond (.tmp 55)
    (.seq (.region 16 #[⟨some 2, .assign (.const (.int .i64 0)), 3, "", #[], none⟩,
      ⟨some 3, .assign (.const (.int .i64 0)), 3, "", #[], none⟩,
      ⟨some 4, .assign (.const (.int .i64 10)), 3, "", #[], none⟩] false)
    .ret)
    .skip))
  (.seq (.region 17 #[⟨some 56, .move (.tmp 6), 3, "", #[], none⟩,
    ⟨some 57, .move (.tmp 5), 3, "", #[], none⟩,
    ⟨some 58, .binOp .add 3 (.tmp 57) (.const (.int .i64 1)) 3, 3, "", #[], none⟩,
    ⟨some 2, .assign (.tmp 56), 3, "", #[], none⟩,
    ⟨some 3, .assign (.tmp 58), 3, "", #[], none⟩,
    ⟨some 4, .assign (.const (.int .i64 0)), 3, "", #[], none⟩] false)
  .ret))))))))))
def fn89 : AFn := { ntmps := 59, results := [.tmp 2, .tmp 3, .tmp 4], body := c89, keep := fun | 0 => some [0] | 1 => some [0, 10] | 2 => some [2, 3, 4] | 3 => some [0, 14] | 4 => some [2, 3, 4] | 5 => some [0, 5] | 6 => some [0, 5, 29] | 7 => some [2, 3, 4] | 8 => some [0, 5, 34] | 9 => some [2, 3, 4] | 10 => some [0, 5, 6] | 11 => some [0, 5, 6, 7] | 12 => some [0, 5, 6, 7, 37] | 13 => some [0, 5, 6, 7] | 14 => some [0, 5, 6, 7] | 15 => some [5, 6, 55] | 16 => some [2, 3, 4] | 17 => some [2, 3, 4] | _ => none, head := fun | 12 => some [0, 5, 6, 7] | _ => none, opn := fun _ => none, dyn := fun _ => [] }
def c90 : Code :=
  (.seq (.region 0 #[⟨some 1, .box 30 (.tmp 0), 0, "", #[], none⟩,
    ⟨some 2, .assign (.const (.int .i64 0)), 3, "", #[], none⟩] false)
  (.seq (.seq (.region 1 #[⟨some 6, .fieldAddr 30 (.tmp 1) 0, 0, "", #[], none⟩,
    ⟨some 7, .fieldAddr 27 (.tmp 6) 1, 0, "", #[], none⟩,
    ⟨some 8, .load 4 (.tmp 7), 4, "", #[], none⟩,
    ⟨some 9, .unOp .not 4 (.tmp 8), 4, "", #[], none⟩] false)
  (.cond (.tmp 9)
    (.seq (.region 2 #[⟨some 10, .fieldAddr 30 (.tmp 1) 1, 0, "", #[], none⟩,
      ⟨some 11, .load 22 (.tmp 10), 22, "", #[], none⟩,
      ⟨some 12, .call { callee := .builtin .len, args := #[.tmp 11], argTypes := #[22] }, 3, "", #[], none⟩,
      ⟨some 2, .assign (.tmp 12), 3, "", #[], none⟩] false)
    .ret)
    .skip))
  (.seq (.region 3 #[⟨some 3, .assign (.const (.int .i64 0)), 3, "", #[], none⟩] false)
  (.seq (.seq (.region 4 #[⟨some 13, .fieldAddr 30 (.tmp 1) 2, 0, "", #[], none⟩,
    ⟨some 14, .load 28 (.tmp 13), 28, "", #[], none⟩,
    ⟨some 15, .call { callee := .builtin .len, args := #[.tmp 14], argTypes := #[28] }, 3, "", #[], none⟩,
    ⟨some 16, .move (.const (.int .i64 0)), 3, "", #[], none⟩] false)
  (.block 0 (.loop (.seq (.region 5 #[⟨some 17, .binOp .lss 3 (.tmp 16) (.tmp 15) 3, 0, "", #[], none⟩] false)
  (.seq (.cond (.tmp 17)
    .skip
    (.exit 0))
  (.seq (.block 1 (.seq (.region 6 #[⟨some 18, .indexAddr 28 (.tmp 14) (.tmp 16), 0, "", #[], none⟩,
    ⟨some 19, .load 30 (.tmp 18), 30, "", #[], none⟩,
    ⟨some 5, .alloc 30, 0, "", #[], none⟩,
    ⟨none, .store 30 (.tmp 5) (.tmp 19), 0, "", #[], none⟩] false)
  (.region 7 #[⟨some 20, .move (.tmp 3), 3, "", #[], none⟩,
    ⟨some 21, .load 30 (.tmp 5), 30, "", #[], none⟩,
    ⟨some 22, .call { callee := .value (.func 69), args := #[.tmp 21], argTypes := #[30] }, 3, "", #[], none⟩,
    ⟨some 23, .binOp .add 3 (.tmp 20) (.tmp 22) 3, 3, "", #[], none⟩,
    ⟨some 24, .call { callee := .builtin .min, args := #[.tmp 23, .const (.int .i64 1048577)], argTypes := #[3, 3] }, 3, "", #[], none⟩,
    ⟨some 3, .assign (.tmp 24), 3, "", #[], none⟩] false)))
  (.region 8 #[⟨some 25, .binOp .add 3 (.tmp 16) (.const (.int .i64 1)) 3, 3, "", #[], none⟩,
    ⟨some 16, .move (.tmp 25), 3, "", #[], none⟩] false)))))))
  (.seq (.region 9 #[⟨some 26, .move (.tmp 3), 3, "", #[], none⟩,
    ⟨some 2, .assign (.tmp 26), 3, "", #[], none⟩] false)
  .ret)))))
def fn90 : AFn := { ntmps := 27, results := [.tmp 2], body := c90, keep := fun | 0 => some [1] | 1 => some [1, 9] | 2 => some [2] | 3 => some [1, 3] | 4 => some [3, 14, 15, 16] | 5 => some [3, 14, 15, 16, 17] | 6 => some [3, 5, 14, 15, 16] | 7 => some [3, 14, 15, 16] | 8 => some [3, 14, 15, 16] | 9 => some [2] | _ => none, head := fun | 5 => some [3, 14, 15, 16] | _ => none, opn := fun _ => none, dyn := fun _ => [] }
def c91 : Code :=
  (.seq (.region 0 #[⟨some 4, .assign (.const (.int .i64 0)), 3, "", #[], none⟩] false)
  (.seq (.seq (.region 1 #[⟨some 5, .move (.tmp 0), 3, "", #[], none⟩,
    ⟨some 6, .binOp .lss 3 (.tmp 5) (.const (.int .i64 1)) 3, 4, "", #[], none⟩,
    ⟨some 7, .move (.tmp 6), 4, "", #[], none⟩,
    ⟨some 8, .move (.tmp 0), 3, "", #[], some (7, false)⟩,
    ⟨some 9, .binOp .gtr 3 (.tmp 8) (.const (.int .i64 5)) 3, 4, "", #[], some (7, false)⟩,
    ⟨some 10, .pick (.tmp 7) (.const (.bool true)) (.tmp 9), 4, "", #[], none⟩,
    ⟨some 11, .move (.tmp 10), 4, "", #[], none⟩,
    ⟨some 12, .move (.tmp 1), 3, "", #[], some (11, false)⟩,
    ⟨some 13, .call { callee := .value (.func 110), args := #[.tmp 12], argTypes := #[3] }, 3, "", #[], some (11, false)⟩,
    ⟨some 14, .binOp .eql 3 (.tmp 13) (.const (.int .i64 0)) 3, 4, "", #[], some (11, false)⟩,
    ⟨some 15, .pick (.tmp 11) (.const (.bool true)) (.tmp 14), 4, "", #[], none⟩] false)
  (.cond (.tmp 15)
    (.seq (.region 2 #[⟨some 4, .assign (.const (.int .i64 0)), 3, "", #[], none⟩] false)
    .ret)
    .skip))
  (.seq (.region 3 #[⟨some 16, .move (.tmp 0), 3, "", #[], none⟩,
    ⟨some 17, .move (.tmp 1), 3, "", #[], none⟩,
    ⟨some 18, .call { callee := .value (.func 110), args := #[.tmp 17], argTypes := #[3] }, 3, "", #[], none⟩,
    ⟨some 19, .binOp .add 3 (.tmp 16) (.tmp 18) 3, 3, "", #[], none⟩,
    ⟨some 20, .move (.tmp 1), 3, "", #[], none⟩,
    ⟨some 21, .binOp .add 3 (.tmp 19) (.tmp 20) 3, 3, "", #[], none⟩,
    ⟨some 4, .assign (.tmp 21), 3, "", #[], none⟩] false)
  .ret)))
def fn91 : AFn := { ntmps := 22, results := [.tmp 4], body := c91, keep := fun | 0 => some [0, 1] | 1 => some [0, 1, 15] | 2 => some [4] | 3 => some [4] | _ => none, head := fun  | _ => none, opn := fun _ => none, dyn := fun _ => [] }
def c92 : Code :=
  (.seq (.region 0 #[⟨some 1, .box 27 (.tmp 0), 0, "", #[], none⟩,
    ⟨some 2, .assign (.const (.int .i64 0)), 3, "", #[], none⟩] false)
  (.seq (.region 1 #[⟨some 6, .load 27 (.tmp 1), 27, "", #[], none⟩,
    ⟨some 7, .call { callee := .value (.func 93), args := #[.tmp 6], argTypes := #[27] }, 35, "", #[], none⟩,
    ⟨some 5, .move (.tmp 7), 35, "", #[], none⟩,
    ⟨some 8, .extract (.tmp 5) 0, 22, "", #[], none⟩,
    ⟨some 9, .extract (.tmp 5) 1, 34, "", #[], none⟩,
    ⟨some 3, .assign (.tmp 8), 22, "", #[], none⟩,
    ⟨some 4, .assign (.tmp 9), 34, "", #[], none⟩] false)
  (.seq (.region 2 #[⟨some 10, .move (.tmp 3), 22, "", #[], none⟩,
    ⟨some 11, .call { callee := .builtin .len, args := #[.tmp 10], argTypes := #[22] }, 3, "", #[], none⟩,
    ⟨some 2, .assign (.tmp 11), 3, "", #[], none⟩] false)
  .ret)))
def fn92 : AFn := { ntmps := 12, results := [.tmp 2], body := c92, keep := fun | 0 => some [1] | 1 => some [3] | 2 => some [2] | _ => none, head := fun  | _ => none, opn := fun _ => none, dyn := fun _ => [] }
def c93 : Code :=
  (.seq (.region 0 #[⟨some 1, .box 27 (.tmp 0), 0, "", #[], none⟩,
    ⟨some 2, .assign (.const (.slice none 0 0)), 22, "", #[], none⟩,
    ⟨some 3, .assign (.const (.int .i64 0)), 34, "", #[], none⟩] false)
  (.seq (.seq (.region 1 #[⟨some 8, .load 27 (.tmp 1), 27, "", #[], none⟩,
    ⟨some 9, .call { callee := .value (.func 102), args := #[.tmp 8], argTypes := #[27] }, 34, "", #[], none⟩,
    ⟨some 4, .assign (.tmp 9), 34, "", #[], none⟩] false)
  (.seq (.region 2 #[⟨some 10, .move (.tmp 4), 34, "", #[], none⟩,
    ⟨some 11, .binOp .neq 34 (.tmp 10) (.const (.int .i64 0)) 34, 4, "", #[], none⟩] false)
  (.cond (.tmp 11)
    (.seq (.region 3 #[⟨some 12, .move (.tmp 4), 34, "", #[], none⟩,
      ⟨some 2, .assign (.const (.slice none 0 0)), 22, "", #[], none⟩,
      ⟨some 3, .assign (.tmp 12), 34, "", #[], none⟩] false)
    .ret)
    .skip)))
  (.seq (.region 4 #[⟨some 13, .fieldAddr 27 (.tmp 1) 0, 0, "", #[], none⟩,
    ⟨some 14, .load 24 (.tmp 13), 24, "", #[], none⟩,
    ⟨some 15, .binOp .shl 5 (.tmp 14) (.const (.int .u64 6)) 151, 5, "", #[], none⟩,
    ⟨some 5, .assign (.tmp 15), 5, "", #[], none⟩] false)
  (.seq (.seq (.region 5 #[⟨some 16, .fieldAddr 27 (.tmp 1) 1, 0, "", #[], none⟩,
    ⟨some 17, .load 4 (.tmp 16), 4, "", #[], none⟩] false)
  (.cond (.tmp 17)
    (.region 6 #[⟨some 18, .move (.tmp 5), 5, "", #[], none⟩,
      ⟨some 19, .binOp .or 5 (.tmp 18) (.const (.int .u8 32)) 5, 5, "", #[], none⟩,
      ⟨some 5, .assign (.tmp 19), 5, "", #[], none⟩] false)
    .skip))
  (.seq (.seq (.region 7 #[⟨some 20, .fieldAddr 27 (.tmp 1) 2, 0, "", #[], none⟩,
    ⟨some 21, .load 25 (.tmp 20), 25, "", #[], none⟩,
    ⟨some 22, .binOp .lss 25 (.tmp 21) (.const (.int .u32 31)) 25, 4, "", #[], none⟩] false)
  (.cond (.tmp 22)
    (.seq (.region 8 #[⟨some 23, .move (.tmp 5), 5, "", #[], none⟩,
      ⟨some 24, .fieldAddr 27 (.tmp 1) 2, 0, "", #[], none⟩,
      ⟨some 25, .load 25 (.tmp 24), 25, "", #[], none⟩,
      ⟨some 26, .convert 25 5 (.tmp 25), 5, "", #[], none⟩,
      ⟨some 27, .binOp .or 5 (.tmp 23) (.tmp 26) 5, 5, "", #[], none⟩,
      ⟨some 28, .buildSlice 22 1 #[(0, .tmp 27)], 22, "", #[], none⟩,
      ⟨some 2, .assign (.tmp 28), 22, "", #[], none⟩,
      ⟨some 3, .assign (.const (.int .i64 0)), 34, "", #[], none⟩] false)
    .ret)
    .skip))
  (.seq (.region 9 #[⟨some 29, .move (.tmp 5), 5, "", #[], none⟩,
    ⟨some 30, .binOp .or 5 (.tmp 29) (.const (.int .u8 31)) 5, 5, "", #[], none⟩,
    ⟨some 31, .buildSlice 22 1 #[(0, .tmp 30)], 22, "", #[], none⟩,
    ⟨some 6, .alloc 22, 0, "", #[], none⟩,
    ⟨none, .store 22 (.tmp 6) (.tmp 31), 0, "", #[], none⟩] false)
  (.seq (.seq (.region 10 #[⟨some 32, .fieldAddr 27 (.tmp 1) 2, 0, "", #[], none⟩,
    ⟨some 33, .load 25 (.tmp 32), 25, "", #[], none⟩,
    ⟨some 34, .call { callee := .value (.func 111), args := #[.tmp 33], argTypes := #[25] }, 153, "", #[], none⟩] false)
  (.block 0 (.refuse "")))
  (.seq (.region 13 #[⟨some 40, .load 22 (.tmp 6), 22, "", #[], none⟩,
    ⟨some 41, .call { callee := .value (.func 97), args := #[.tmp 40], argTypes := #[22] }, 22, "", #[], none⟩,
    ⟨some 2, .assign (.tmp 41), 22, "", #[], none⟩,
    ⟨some 3, .assign (.const (.int .i64 0)), 34, "", #[], none⟩] false)
  .ret))))))))
def fn93 : AFn := { ntmps := 42, results := [.tmp 2, .tmp 3], body := c93, keep := fun | 0 => some [1, 35] | 1 => some [1, 4, 35] | 2 => some [1, 4, 11, 35] | 3 => some [2, 3] | 4 => some [1, 5, 35] | 5 => some [1, 5, 17, 35] | 6 => some [1, 5, 35] | 7 => some [1, 5, 22, 35] | 8 => some [2, 3] | 9 => some [1, 6, 35] | 10 => some [6, 34, 35] | 11 => some [6, 7, 35] | 12 => some [6, 35] | 13 => some [2, 3] | _ => none, head := fun  | _ => none, opn := fun _ => none, dyn := fun _ => [] }
def c94 : Code :=
  (.seq (.region 0 #[⟨some 2, .assign (.const (.slice none 0 0)), 22, "", #[], none⟩,
    ⟨some 3, .assign (.const (.int .i64 0)), 34, "", #[], none⟩] false)
  (.seq (.block 0 (.seq (.region 1 #[⟨some 6, .move (.tmp 0), 3, "", #[], none⟩,
    ⟨some 7, .binOp .lss 3 (.tmp 6) (.const (.int .i64 0)) 3, 4, "", #[], none⟩,
    ⟨some 5, .assign (.tmp 7), 4, "", #[], none⟩] false)
  (.cond (.tmp 5)
    (.seq (.region 2 #[⟨some 2, .assign (.const (.slice none 0 0)), 22, "", #[], none⟩,
      ⟨some 3, .assign (.const (.int .i64 1)), 34, "", #[], none⟩] false)
    .ret)
    (.seq (.region 3 #[⟨some 9, .move (.tmp 0), 3, "", #[], none⟩,
      ⟨some 10, .binOp .gtr 3 (.tmp 9) (.const (.int .i64 16777215)) 3, 4, "", #[], none⟩,
      ⟨some 8, .assign (.tmp 10), 4, "", #[], none⟩] false)
    (.cond (.tmp 8)
      (.seq (.region 4 #[⟨some 2, .assign (.const (.slice none 0 0)), 22, "", #[], none⟩,
        ⟨some 3, .assign (.const (.int .i64 3)), 34, "", #[], none⟩] false)
      .ret)
      (.seq (.region 5 #[⟨some 12, .move (.tmp 0), 3, "", #[], none⟩,
        ⟨some 13, .binOp .leq 3 (.tmp 12) (.const (.int .i64 127)) 3, 4, "", #[], none⟩,
        ⟨some 11, .assign (.tmp 13), 4, "", #[], none⟩] false)
      (.cond (.tmp 11)
        (.seq (.region 6 #[⟨some 14, .move (.tmp 0), 3, "", #[], none⟩,
          ⟨some 15, .convert 3 5 (.tmp 14), 5, "", #[], none⟩,
          ⟨some 16, .buildSlice 22 1 #[(0, .tmp 15)], 22, "", #[], none⟩,
          ⟨some 2, .assign (.tmp 16), 22, "", #[], none⟩,
          ⟨some 3, .assign (.const (.int .i64 0)), 34, "", #[], none⟩] false)
        .ret)
        .skip)))))))
  (.seq (.region 7 #[⟨some 17, .buildSlice 22 1 #[(0, .const (.int .u8 0))], 22, "", #[], none⟩,
    ⟨some 4, .assign (.tmp 17), 22, "", #[], none⟩] false)
  (.seq (.block 1 (.seq (.block 4 (.seq (.block 3 (.seq (.block 2 (.seq (.seq (.seq (.region 8 #[⟨some 19, .move (.tmp 0), 3, "", #[], none⟩,
    ⟨some 20, .binOp .gtr 3 (.tmp 19) (.const (.int .i64 65535)) 3, 4, "", #[], none⟩,
    ⟨some 18, .assign (.tmp 20), 4, "", #[], none⟩] false)
  (.cond (.tmp 18)
    (.exit 2)
    .skip))
  (.seq (.region 9 #[⟨some 22, .move (.tmp 0), 3, "", #[], none⟩,
    ⟨some 23, .binOp .gtr 3 (.tmp 22) (.const (.int .i64 255)) 3, 4, "", #[], none⟩,
    ⟨some 21, .assign (.tmp 23), 4, "", #[], none⟩] false)
  (.cond (.tmp 21)
    (.exit 3)
    .skip)))
  (.exit 4)))
  (.region 10 #[⟨some 24, .move (.tmp 4), 22, "", #[], none⟩,
    ⟨some 25, .move (.tmp 0), 3, "", #[], none⟩,
    ⟨some 26, .binOp .shr 3 (.tmp 25) (.const (.int .u64 16)) 151, 3, "", #[], none⟩,
    ⟨some 27, .convert 3 5 (.tmp 26), 5, "", #[], none⟩,
    ⟨some 28, .buildSlice 22 1 #[(0, .tmp 27)], 22, "", #[], none⟩,
    ⟨some 29, .call { callee := .builtin .append, args := #[.tmp 24, .tmp 28], argTypes := #[22, 22] }, 22, "", #[], none⟩,
    ⟨some 4, .assign (.tmp 29), 22, "", #[], none⟩] false)))
  (.region 11 #[⟨some 30, .move (.tmp 4), 22, "", #[], none⟩,
    ⟨some 31, .move (.tmp 0), 3, "", #[], none⟩,
    ⟨some 32, .binOp .shr 3 (.tmp 31) (.const (.int .u64 8)) 151, 3, "", #[], none⟩,
    ⟨some 33, .convert 3 5 (.tmp 32), 5, "", #[], none⟩,
    ⟨some 34, .buildSlice 22 1 #[(0, .tmp 33)], 22, "", #[], none⟩,
    ⟨some 35, .call { callee := .builtin .append, args := #[.tmp 30, .tmp 34], argTypes := #[22, 22] }, 22, "", #[], none⟩,
    ⟨some 4, .assign (.tmp 35), 22, "", #[], none⟩] false)))
  (.seq (.region 12 #[⟨some 36, .move (.tmp 4), 22, "", #[], none⟩,
    ⟨some 37, .move (.tmp 0), 3, "", #[], none⟩,
    ⟨some 38, .convert 3 5 (.tmp 37), 5, "", #[], none⟩,
    ⟨some 39, .buildSlice 22 1 #[(0, .tmp 38)], 22, "", #[], none⟩,
    ⟨some 40, .call { callee := .builtin .append, args := #[.tmp 36, .tmp 39], argTypes := #[22, 22] }, 22, "", #[], none⟩,
    ⟨some 4, .assign (.tmp 40), 22, "", #[], none⟩] false)
  (.exit 1))))
  (.seq (.region 13 #[⟨some 41, .move (.tmp 4), 22, "", #[], none⟩,
    ⟨some 42, .move (.tmp 4), 22, "", #[], none⟩,
    ⟨some 43, .call { callee := .builtin .len, args := #[.tmp 42], argTypes := #[22] }, 3, "", #[], none⟩,
    ⟨some 44, .binOp .sub 3 (.tmp 43) (.const (.int .i64 1)) 3, 3, "", #[], none⟩,
    ⟨some 45, .convert 3 5 (.tmp 44), 5, "", #[], none⟩,
    ⟨some 46, .binOp .add 5 (.const (.int .u8 128)) (.tmp 45) 5, 5, "", #[], none⟩,
    ⟨some 47, .indexAddr 22 (.tmp 41) (.const (.int .i64 0)), 0, "", #[], none⟩,
    ⟨none, .store 5 (.tmp 47) (.tmp 46), 0, "", #[], none⟩] false)
  (.seq (.region 14 #[⟨some 48, .move (.tmp 4), 22, "", #[], none⟩,
    ⟨some 49, .call { callee := .value (.func 97), args := #[.tmp 48], argTypes := #[22] }, 22, "", #[], none⟩,
    ⟨some 2, .assign (.tmp 49), 22, "", #[], none⟩,
    ⟨some 3, .assign (.const (.int .i64 0)), 34, "", #[], none⟩] false)
  .ret))))))
def fn94 : AFn := { ntmps := 50, results := [.tmp 2, .tmp 3], body := c94, keep := fun | 0 => some [0] | 1 => some [0, 5] | 2 => some [2, 3] | 3 => some [0, 8] | 4 => some [2, 3] | 5 => some [0, 11] | 6 => some [2, 3] | 7 => some [0, 4] | 8 => some [0, 4, 18] | 9 => some [0, 4, 21] | 10 => some [0, 4] | 11 => some [0, 4] | 12 => some [4] | 13 => some [4] | 14 => some [2, 3] | _ => none, head := fun  | _ => none, opn := fun _ => none, dyn := fun _ => [] }
def c95 : Code :=
  (.seq (.region 0 #[⟨some 2, .alloc 27, 0, "", #[], none⟩,
    ⟨some 3, .assign (.const (.int .i64 0)), 3, "", #[], none⟩,
    ⟨some 4, .assign (.const (.int .i64 0)), 34, "", #[], none⟩] false)
  (.seq (.seq (.region 1 #[⟨some 5, .move (.tmp 0), 22, "", #[], none⟩,
    ⟨some 6, .call { callee := .builtin .len, args := #[.tmp 5], argTypes := #[22] }, 3, "", #[], none⟩,
    ⟨some 7, .binOp .eql 3 (.tmp 6) (.const (.int .i64 0)) 3, 4, "", #[], none⟩] false)
  (.cond (.tmp 7)
    (.seq (.region 2 #[⟨some 8, .build 27 #[], 27, "", #[], none⟩,
      ⟨none, .store 27 (.tmp 2) (.tmp 8), 0, "", #[], none⟩,
      ⟨some 3, .assign (.const (.int .i64 0)), 3, "", #[], none⟩,
      ⟨some 4, .assign (.const (.int .i64 7)), 34, "", #[], none⟩] false)
    .ret)
    .skip))
  (.seq (.region 3 #[⟨some 9, .move (.tmp 0), 22, "", #[], none⟩,
    ⟨some 10, .indexAddr 22 (.tmp 9) (.const (.int .i64 0)), 0, "", #[], none⟩,
    ⟨some 11, .load 5 (.tmp 10), 5, "", #[], none⟩,
    ⟨some 12, .binOp .shr 5 (.tmp 11) (.const (.int .u64 6)) 151, 5, "", #[], none⟩,
    ⟨some 13, .move (.tmp 0), 22, "", #[], none⟩,
    ⟨some 14, .indexAddr 22 (.tmp 13) (.const (.int .i64 0)), 0, "", #[], none⟩,
    ⟨some 15, .load 5 (.tmp 14), 5, "", #[], none⟩,
    ⟨some 16, .binOp .and 5 (.tmp 15) (.const (.int .u8 32)) 5, 5, "", #[], none⟩,
    ⟨some 17, .binOp .neq 5 (.tmp 16) (.const (.int .u8 0)) 5, 4, "", #[], none⟩,
    ⟨some 18, .move (.tmp 0), 22, "", #[], none⟩,
    ⟨some 19, .indexAddr 22 (.tmp 18) (.const (.int .i64 0)), 0, "", #[], none⟩,
    ⟨some 20, .load 5 (.tmp 19), 5, "", #[], none⟩,
    ⟨some 21, .binOp .and 5 (.tmp 20) (.const (.int .u8 31)) 5, 5, "", #[], none⟩,
    ⟨some 22, .convert 5 25 (.tmp 21), 25, "", #[], none⟩,
    ⟨some 23, .build 27 #[(0, .tmp 12), (1, .tmp 17), (2, .tmp 22)], 27, "", #[], none⟩,
    ⟨none, .store 27 (.tmp 2) (.tmp 23), 0, "", #[], none⟩] true)
  (.seq (.region 4 #[⟨some 3, .assign (.const (.int .i64 1)), 3, "", #[], none⟩] false)
  (.seq (.seq (.region 5 #[⟨some 24, .fieldAddr 27 (.tmp 2) 2, 0, "", #[], none⟩,
    ⟨some 25, .load 25 (.tmp 24), 25, "", #[], none⟩,
    ⟨some 26, .binOp .eql 25 (.tmp 25) (.const (.int .u32 31)) 25, 4, "", #[], none⟩] false)
  (.cond (.tmp 26)
    (.region 6 #[⟨some 28, .move (.tmp 0), 22, "", #[], none⟩,
      ⟨some 29, .call { callee := .value (.func 112), args := #[.tmp 28], argTypes := #[22] }, 155, "", #[], none⟩,
      ⟨some 27, .move (.tmp 29), 155, "", #[], none⟩,
      ⟨some 30, .extract (.tmp 27) 0, 25, "", #[], none⟩,
      ⟨some 31, .extract (.tmp 27) 1, 3, "", #[], none⟩,
      ⟨some 32, .extract (.tmp 27) 2, 34, "", #[], none⟩,
      ⟨some 33, .fieldAddr 27 (.tmp 2) 2, 0, "", #[], none⟩,
      ⟨none, .store 25 (.tmp 33) (.tmp 30), 0, "", #[], none⟩,
      ⟨some 3, .assign (.tmp 31), 3, "", #[], none⟩,
      ⟨some 4, .assign (.tmp 32), 34, "", #[], none⟩] false)
    .skip))
  (.seq (.seq (.region 7 #[⟨some 34, .move (.tmp 4), 34, "", #[], none⟩,
    ⟨some 35, .binOp .eql 34 (.tmp 34) (.const (.int .i64 0)) 34, 4, "", #[], none⟩] false)
  (.cond (.tmp 35)
    (.region 8 #[⟨some 36, .load 27 (.tmp 2), 27, "", #[], none⟩,
      ⟨some 37, .call { callee := .value (.func 102), args := #[.tmp 36], argTypes := #[27] }, 34, "", #[], none⟩,
      ⟨some 4, .assign (.tmp 37), 34, "", #[], none⟩] false)
    .skip))
  (.seq (.seq (.region 9 #[⟨some 38, .move (.tmp 4), 34, "", #[], none⟩,
    ⟨some 39, .binOp .neq 34 (.tmp 38) (.const (.int .i64 0)) 34, 4, "", #[], none⟩] false)
  (.cond (.tmp 39)
    (.seq (.region 10 #[⟨some 40, .build 27 #[], 27, "", #[], none⟩,
      ⟨some 41, .move (.tmp 4), 34, "", #[], none⟩,
      ⟨none, .store 27 (.tmp 2) (.tmp 40), 0, "", #[], none⟩,
      ⟨some 3, .assign (.const (.int .i64 0)), 3, "", #[], none⟩,
      ⟨some 4, .assign (.tmp 41), 34, "", #[], none⟩] false)
    .ret)
    .skip))
  (.seq (.region 11 #[⟨some 42, .load 27 (.tmp 2), 27, "", #[], none⟩,
    ⟨some 43, .move (.tmp 3), 3, "", #[], none⟩,
    ⟨none, .store 27 (.tmp 2) (.tmp 42), 0, "", #[], none⟩,
    ⟨some 3, .assign (.tmp 43), 3, "", #[], none⟩,
    ⟨some 4, .assign (.const (.int .i64 0)), 34, "", #[], none⟩] false)
  .ret))))))))
def fn95 : AFn := { ntmps := 44, results := [.cell 2 27, .tmp 3, .tmp 4], body := c95, keep := fun | 0 => some [0, 2, 4] | 1 => some [0, 2, 4, 7] | 2 => some [2, 3, 4] | 3 => some [0, 2, 4] | 4 => some [0, 2, 3, 4] | 5 => some [0, 2, 3, 4, 26] | 6 => some [2, 3, 4] | 7 => some [2, 3, 4, 35] | 8 => some [2, 3, 4] | 9 => some [2, 3, 4, 39] | 10 => some [2, 3, 4] | 11 => some [2, 3, 4] | _ => none, head := fun  | _ => none, opn := fun _ => none, dyn := fun _ => [] }
def c96 : Code :=
  (.seq (.region 0 #[⟨some 2, .assign (.const (.int .i64 0)), 3, "", #[], none⟩,
    ⟨some 3, .assign (.const (.int .i64 0)), 3, "", #[], none⟩,
    ⟨some 4, .assign (.const (.int .i64 0)), 34, "", #[], none⟩] false)
  (.seq (.seq (.region 1 #[⟨some 7, .move (.tmp 0), 22, "", #[], none⟩,
    ⟨some 8, .call { callee := .builtin .len, args := #[.tmp 7], argTypes := #[22] }, 3, "", #[], none⟩,
    ⟨some 9, .binOp .eql 3 (.tmp 8) (.const (.int .i64 0)) 3, 4, "", #[], none⟩] false)
  (.cond (.tmp 9)
    (.seq (.region 2 #[⟨some 2, .assign (.const (.int .i64 0)), 3, "", #[], none⟩,
      ⟨some 3, .assign (.const (.int .i64 0)), 3, "", #[], none⟩,
      ⟨some 4, .assign (.const (.int .i64 7)), 34, "", #[], none⟩] false)
    .ret)
    .skip))
  (.seq (.seq (.region 3 #[⟨some 10, .move (.tmp 0), 22, "", #[], none⟩,
    ⟨some 11, .indexAddr 22 (.tmp 10) (.const (.int .i64 0)), 0, "", #[], none⟩,
    ⟨some 12, .load 5 (.tmp 11), 5, "", #[], none⟩,
    ⟨some 13, .binOp .leq 5 (.tmp 12) (.const (.int .u8 127)) 5, 4, "", #[], none⟩] false)
  (.cond (.tmp 13)
    (.seq (.region 4 #[⟨some 14, .move (.tmp 0), 22, "", #[], none⟩,
      ⟨some 15, .indexAddr 22 (.tmp 14) (.const (.int .i64 0)), 0, "", #[], none⟩,
      ⟨some 16, .load 5 (.tmp 15), 5, "", #[], none⟩,
      ⟨some 17, .convert 5 3 (.tmp 16), 3, "", #[], none⟩,
      ⟨some 2, .assign (.tmp 17), 3, "", #[], none⟩,
      ⟨some 3, .assign (.const (.int .i64 1)), 3, "", #[], none⟩,
      ⟨some 4, .assign (.const (.int .i64 0)), 34, "", #[], none⟩] false)
    .ret)
    .skip))
  (.seq (.region 5 #[⟨some 5, .alloc 158, 0, "", #[], none⟩] false)
  (.seq (.region 6 #[⟨some 18, .move (.tmp 0), 22, "", #[], none⟩,
    ⟨some 19, .indexAddr 22 (.tmp 18) (.const (.int .i64 0)), 0, "", #[], none⟩,
    ⟨some 20, .load 5 (.tmp 19), 5, "", #[], none⟩,
    ⟨some 21, .convert 5 3 (.tmp 20), 3, "", #[], none⟩,
    ⟨some 22, .binOp .sub 3 (.tmp 21) (.const (.int .i64 128)) 3, 3, "", #[], none⟩,
    ⟨some 6, .assign (.tmp 22), 3, "", #[], none⟩] false)
  (.seq (.block 0 (.seq (.region 7 #[⟨some 24, .move (.tmp 6), 3, "", #[], none⟩,
    ⟨some 25, .binOp .eql 3 (.tmp 24) (.const (.int .i64 0)) 3, 4, "", #[], none⟩,
    ⟨some 26, .move (.tmp 25), 4, "", #[], none⟩,
    ⟨some 27, .move (.tmp 6), 3, "", #[], some (26, false)⟩,
    ⟨some 28, .binOp .gtr 3 (.tmp 27) (.const (.int .i64 3)) 3, 4, "", #[], some (26, false)⟩,
    ⟨some 29, .pick (.tmp 26) (.const (.bool true)) (.tmp 28), 4, "", #[], none⟩,
    ⟨some 23, .assign (.tmp 29), 4, "", #[], none⟩] false)
  (.cond (.tmp 23)
    (.seq (.region 8 #[⟨some 2, .assign (.const (.int .i64 0)), 3, "", #[], none⟩,
      ⟨some 3, .assign (.const (.int .i64 0)), 3, "", #[], none⟩,
      ⟨some 4, .assign (.const (.int .i64 10)), 34, "", #[], none⟩] false)
    .ret)
    (.seq (.region 9 #[⟨some 31, .move (.tmp 0), 22, "", #[], none⟩,
      ⟨some 32, .call { callee := .builtin .len, args := #[.tmp 31], argTypes := #[22] }, 3, "", #[], none⟩,
      ⟨some 33, .move (.tmp 6), 3, "", #[], none⟩,
      ⟨some 34, .binOp .leq 3 (.tmp 32) (.tmp 33) 3, 4, "", #[], none⟩,
      ⟨some 30, .assign (.tmp 34), 4, "", #[], none⟩] false)
    (.cond (.tmp 30)
      (.seq (.region 10 #[⟨some 2, .assign (.const (.int .i64 0)), 3, "", #[], none⟩,
        ⟨some 3, .assign (.const (.int .i64 0)), 3, "", #[], none⟩,
        ⟨some 4, .assign (.const (.int .i64 7)), 34, "", #[], none⟩] false)
      .ret)
      .skip)))))
  (.seq (.region 11 #[⟨some 35, .move (.tmp 6), 3, "", #[], none⟩,
    ⟨some 36, .binOp .sub 3 (.const (.int .i64 3)) (.tmp 35) 3, 3, "", #[], none⟩,
    ⟨some 37, .slice 158 (.tmp 5) (some (.tmp 36)) none none, 22, "", #[], none⟩,
    ⟨some 38, .move (.tmp 0), 22, "", #[], none⟩,
    ⟨some 39, .slice 22 (.tmp 38) (some (.const (.int .i64 1))) none none, 22, "", #[], none⟩,
    ⟨some 40, .call { callee := .builtin .copy, args := #[.tmp 37, .tmp 39], argTypes := #[22, 22] }, 3, "", #[], none⟩] true)
  (.seq (.region 12 #[⟨some 41, .indexAddr 158 (.tmp 5) (.const (.int .i64 0)), 0, "", #[], none⟩,
    ⟨some 42, .load 5 (.tmp 41), 5, "", #[], none⟩,
    ⟨some 43, .convert 5 3 (.tmp 42), 3, "", #[], none⟩,
    ⟨some 44, .binOp .shl 3 (.tmp 43) (.const (.int .u64 16)) 151, 3, "", #[], none⟩,
    ⟨some 45, .indexAddr 158 (.tmp 5) (.const (.int .i64 1)), 0, "", #[], none⟩,
    ⟨some 46, .load 5 (.tmp 45), 5, "", #[], none⟩,
    ⟨some 47, .convert 5 3 (.tmp 46), 3, "", #[], none⟩,
    ⟨some 48, .binOp .shl 3 (.tmp 47) (.const (.int .u64 8)) 151, 3, "", #[], none⟩,
    ⟨some 49, .binOp .or 3 (.tmp 44) (.tmp 48) 3, 3, "", #[], none⟩,
    ⟨some 50, .indexAddr 158 (.tmp 5) (.const (.int .i64 2)), 0, "", #[], none⟩,
    ⟨some 51, .load 5 (.tmp 50), 5, "", #[], none⟩,
    ⟨some 52, .convert 5 3 (.tmp 51), 3, "", #[], none⟩,
    ⟨some 53, .binOp .or 3 (.tmp 49) (.tmp 52) 3, 3, "", #[], none⟩,
    ⟨some 2, .assign (.tmp 53), 3, "", #[], none⟩] false)
  (.seq (.seq (.region 13 #[⟨some 54, .move (.tmp 0), 22, "", #[], none⟩,
    ⟨some 55, .indexAddr 22 (.tmp 54) (.const (.int .i64 1)), 0, "", #[], none⟩,
    ⟨some 56, .load 5 (.tmp 55), 5, "", #[], none⟩,
    ⟨some 57, .binOp .eql 5 (.tmp 56) (.const (.int .u8 0)) 5, 4, "", #[], none⟩,
    ⟨some 58, .move (.tmp 57), 4, "", #[], none⟩,
    ⟨some 59, .move (.tmp 2), 3, "", #[], some (58, false)⟩,
    ⟨some 60, .binOp .leq 3 (.tmp 59) (.const (.int .i64 127)) 3, 4, "", #[], some (58, false)⟩,
    ⟨some 61, .pick (.tmp 58) (.const (.bool true)) (.tmp 60), 4, "", #[], none⟩] false)
  (.cond (.tmp 61)
    (.seq (.region 14 #[⟨some 2, .assign (.const (.int .i64 0)), 3, "", #[], none⟩,
      ⟨some 3, .assign (.const (.int .i64 0)), 3, "", #[], none⟩,
      ⟨some 4, .assign (.const (.int .i64 10)), 34, "", #[], none⟩] false)
    .ret)
    .skip))
  (.seq (.region 15 #[⟨some 62, .move (.tmp 2), 3, "", #[], none⟩,
    ⟨some 63, .move (.tmp 6), 3, "", #[], none⟩,
    ⟨some 64, .binOp .add 3 (.tmp 63) (.const (.int .i64 1)) 3, 3, "", #[], none⟩,
    ⟨some 2, .assign (.tmp 62), 3, "", #[], none⟩,
    ⟨some 3, .assign (.tmp 64), 3, "", #[], none⟩,
    ⟨some 4, .assign (.const (.int .i64 0)), 34, "", #[], none⟩] false)
  .ret))))))))))
def fn96 : AFn := { ntmps := 65, results := [.tmp 2, .tmp 3, .tmp 4], body := c96, keep := fun | 0 => some [0] | 1 => some [0, 9] | 2 => some [2, 3, 4] | 3 => some [0, 13] | 4 => some [2, 3, 4] | 5 => some [0, 5] | 6 => some [0, 5, 6] | 7 => some [0, 5, 6, 23] | 8 => some [2, 3, 4] | 9 => some [0, 5, 6, 30] | 10 => some [2, 3, 4] | 11 => some [0, 5, 6] | 12 => some [0, 2, 6] | 13 => some [2, 6, 61] | 14 => some [2, 3, 4] | 15 => some [2, 3, 4] | _ => none, head := fun  | _ => none, opn := fun _ => none, dyn := fun _ => [] }
def c97 : Code :=
  (.seq (.region 0 #[⟨some 2, .assign (.const (.slice none 0 0)), 22, "", #[], none⟩] false)
  (.seq (.region 1 #[⟨some 3, .move (.tmp 0), 22, "", #[], none⟩,
    ⟨some 4, .move (.tmp 0), 22, "", #[], none⟩,
    ⟨some 5, .call { callee := .builtin .len, args := #[.tmp 4], argTypes := #[22] }, 3, "", #[], none⟩,
    ⟨some 6, .move (.tmp 0), 22, "", #[], none⟩,
    ⟨some 7, .call { callee := .builtin .len, args := #[.tmp 6], argTypes := #[22] }, 3, "", #[], none⟩,
    ⟨some 8, .slice 22 (.tmp 3) none (some (.tmp 5)) (some (.tmp 7)), 22, "", #[], none⟩,
    ⟨some 2, .assign (.tmp 8), 22, "", #[], none⟩] false)
  .ret))
def fn97 : AFn := { ntmps := 9, results := [.tmp 2], body := c97, keep := fun | 0 => some [0] | 1 => some [2] | _ => none, head := fun  | _ => none, opn := fun _ => none, dyn := fun _ => [] }
def c98 : Code :=
  (.seq (.region 0 #[⟨some 2, .assign (.const (.slice none 0 0)), 22, "", #[], none⟩] false)
  (.seq (.seq (.region 1 #[⟨some 3, .move (.tmp 0), 22, "", #[], none⟩,
    ⟨some 4, .binOp .eql 22 (.tmp 3) (.const (.slice none 0 0)) 22, 4, "", #[], none⟩] false)
  (.cond (.tmp 4)
    (.seq (.region 2 #[⟨some 2, .assign (.const (.slice none 0 0)), 22, "", #[], none⟩] false)
    .ret)
    .skip))
  (.seq (.region 3 #[⟨some 5, .buildSlice 22 0 #[], 22, "", #[], none⟩,
    ⟨some 6, .move (.tmp 0), 22, "", #[], none⟩,
    ⟨some 7, .call { callee := .builtin .append, args := #[.tmp 5, .tmp 6], argTypes := #[22, 22] }, 22, "", #[], none⟩,
    ⟨some 2, .assign (.tmp 7), 22, "", #[], none⟩] false)
  .ret)))
def fn98 : AFn := { ntmps := 8, results := [.tmp 2], body := c98, keep := fun | 0 => some [0] | 1 => some [0, 4] | 2 => some [2] | 3 => some [2] | _ => none, head := fun  | _ => none, opn := fun _ => none, dyn := fun _ => [] }
def c99 : Code :=
  (.seq (.region 0 #[⟨some 2, .assign (.const (.slice none 0 0)), 28, "", #[], none⟩] false)
  (.seq (.region 1 #[⟨some 3, .move (.tmp 0), 28, "", #[], none⟩,
    ⟨some 4, .move (.tmp 0), 28, "", #[], none⟩,
    ⟨some 5, .call { callee := .builtin .len, args := #[.tmp 4], argTypes := #[28] }, 3, "", #[], none⟩,
    ⟨some 6, .move (.tmp 0), 28, "", #[], none⟩,
    ⟨some 7, .call { callee := .builtin .len, args := #[.tmp 6], argTypes := #[28] }, 3, "", #[], none⟩,
    ⟨some 8, .slice 28 (.tmp 3) none (some (.tmp 5)) (some (.tmp 7)), 28, "", #[], none⟩,
    ⟨some 2, .assign (.tmp 8), 28, "", #[], none⟩] false)
  .ret))
def fn99 : AFn := { ntmps := 9, results := [.tmp 2], body := c99, keep := fun | 0 => some [0] | 1 => some [2] | _ => none, head := fun  | _ => none, opn := fun _ => none, dyn := fun _ => [] }
def c100 : Code :=
  (.seq (.region 0 #[⟨some 2, .box 30 (.tmp 0), 0, "", #[], none⟩,
    ⟨some 3, .box 145 (.tmp 1), 0, "", #[], none⟩,
    ⟨some 4, .assign (.const (.int .i64 0)), 34, "", #[], none⟩] false)
  (.seq (.region 1 #[⟨some 5, .alloc 145, 0, "", #[], none⟩] false)
  (.seq (.region 2 #[⟨some 6, .makeFunc (.func 113) #[] #[.tmp 3, .tmp 5], 145, "", #[], none⟩,
    ⟨none, .store 145 (.tmp 5) (.tmp 6), 0, "", #[], none⟩] false)
  (.seq (.region 3 #[⟨some 7, .load 145 (.tmp 5), 145, "", #[], none⟩,
    ⟨some 8, .load 30 (.tmp 2), 30, "", #[], none⟩,
    ⟨some 9, .call { callee := .value (.tmp 7), args := #[.tmp 8, .const (.int .i64 1)], argTypes := #[30, 3] }, 34, "", #[], none⟩,
    ⟨some 4, .assign (.tmp 9), 34, "", #[], none⟩] false)
  .ret))))
def fn100 : AFn := { ntmps := 10, results := [.tmp 4], body := c100, keep := fun | 0 => some [2, 3] | 1 => some [2, 3, 5] | 2 => some [2, 5] | 3 => some [4] | _ => none, head := fun  | _ => none, opn := opnT, dyn := fun _ => [] }
def c101 : Code :=
  (.seq (.region 0 #[⟨some 4, .box 30 (.tmp 0), 0, "", #[], none⟩,
    ⟨some 6, .assign (.const (.int .i64 0)), 34, "", #[], none⟩] false)
  (.seq (.seq (.region 1 #[⟨some 8, .fieldAddr 30 (.tmp 4) 0, 0, "", #[], none⟩,
    ⟨some 9, .load 27 (.tmp 8), 27, "", #[], none⟩,
    ⟨some 10, .call { callee := .value (.func 102), args := #[.tmp 9], argTypes := #[27] }, 34, "", #[], none⟩,
    ⟨some 7, .assign (.tmp 10), 34, "", #[], none⟩] false)
  (.seq (.region 2 #[⟨some 11, .move (.tmp 7), 34, "", #[], none⟩,
    ⟨some 12, .binOp .neq 34 (.tmp 11) (.const (.int .i64 0)) 34, 4, "", #[], none⟩] false)
  (.cond (.tmp 12)
    (.seq (.region 3 #[⟨some 13, .move (.tmp 7), 34, "", #[], none⟩,
      ⟨some 6, .assign (.tmp 13), 34, "", #[], none⟩] false)
    .ret)
    .skip)))
  (.seq (.block 0 (.seq (.region 4 #[⟨some 15, .fieldAddr 30 (.tmp 4) 0, 0, "", #[], none⟩,
    ⟨some 16, .fieldAddr 27 (.tmp 15) 1, 0, "", #[], none⟩,
    ⟨some 17, .load 4 (.tmp 16), 4, "", #[], none⟩,
    ⟨some 18, .move (.tmp 17), 4, "", #[], none⟩,
    ⟨some 19, .fieldAddr 30 (.tmp 4) 1, 0, "", #[], some (18, true)⟩,
    ⟨some 20, .load 22 (.tmp 19), 22, "", #[], some (18, true)⟩,
    ⟨some 21, .call { callee := .builtin .len, args := #[.tmp 20], argTypes := #[22] }, 3, "", #[], some (18, true)⟩,
    ⟨some 22, .binOp .gtr 3 (.tmp 21) (.const (.int .i64 0)) 3, 4, "", #[], some (18, true)⟩,
    ⟨some 23, .pick (.tmp 18) (.tmp 22) (.const (.bool false)), 4, "", #[], none⟩,
    ⟨some 24, .move (.tmp 23), 4, "", #[], none⟩,
    ⟨some 25, .fieldAddr 30 (.tmp 4) 0, 0, "", #[], some (24, false)⟩,
    ⟨some 26, .fieldAddr 27 (.tmp 25) 1, 0, "", #[], some (24, false)⟩,
    ⟨some 27, .load 4 (.tmp 26), 4, "", #[], some (24, false)⟩,
    ⟨some 28, .unOp .not 4 (.tmp 27), 4, "", #[], some (24, false)⟩,
    ⟨some 29, .move (.tmp 28), 4, "", #[], some (24, false)⟩,
    ⟨some 30, .fieldAddr 30 (.tmp 4) 2, 0, "", #[], some (29, true)⟩,
    ⟨some 31, .load 28 (.tmp 30), 28, "", #[], some (29, true)⟩,
    ⟨some 32, .call { callee := .builtin .len, args := #[.tmp 31], argTypes := #[28] }, 3, "", #[], some (29, true)⟩,
    ⟨some 33, .binOp .gtr 3 (.tmp 32) (.const (.int .i64 0)) 3, 4, "", #[], some (29, true)⟩,
    ⟨some 34, .pick (.tmp 29) (.tmp 33) (.const (.bool false)), 4, "", #[], some (24, false)⟩,
    ⟨some 35, .pick (.tmp 24) (.const (.bool true)) (.tmp 34), 4, "", #[], none⟩,
    ⟨some 14, .assign (.tmp 35), 4, "", #[], none⟩] false)
  (.cond (.tmp 14)
    (.seq (.region 5 #[⟨some 6, .assign (.const (.int .i64 1)), 34, "", #[], none⟩] false)
    .ret)
    (.seq (.region 6 #[⟨some 37, .move (.tmp 1), 3, "", #[], none⟩,
      ⟨some 38, .binOp .gtr 3 (.tmp 37) (.const (.int .i64 16)) 3, 4, "", #[], none⟩,
      ⟨some 36, .assign (.tmp 38), 4, "", #[], none⟩] false)
    (.cond (.tmp 36)
      (.seq (.region 7 #[⟨some 6, .assign (.const (.int .i64 12)), 34, "", #[], none⟩] false)
      .ret)
      (.seq (.region 8 #[⟨some 40, .load 3 (.tmp 2), 3, "", #[], none⟩,
        ⟨some 41, .binOp .eql 3 (.tmp 40) (.const (.int .i64 8192)) 3, 4, "", #[], none⟩,
        ⟨some 39, .assign (.tmp 41), 4, "", #[], none⟩] false)
      (.cond (.tmp 39)
        (.seq (.region 9 #[⟨some 6, .assign (.const (.int .i64 3)), 34, "", #[], none⟩] false)
        .ret)
        .skip)))))))
  (.seq (.region 10 #[⟨some 42, .load 3 (.tmp 2), 3, "", #[], none⟩,
    ⟨some 43, .binOp .add 3 (.tmp 42) (.const (.int .i64 1)) 3, 3, "", #[], none⟩,
    ⟨none, .store 3 (.tmp 2) (.tmp 43), 0, "", #[], none⟩] false)
  (.seq (.region 11 #[⟨some 44, .load 3 (.tmp 3), 3, "", #[], none⟩,
    ⟨some 45, .move (.tmp 1), 3, "", #[], none⟩,
    ⟨some 46, .call { callee := .builtin .max, args := #[.tmp 44, .tmp 45], argTypes := #[3, 3] }, 3, "", #[], none⟩,
    ⟨none, .store 3 (.tmp 3) (.tmp 46), 0, "", #[], none⟩] false)
  (.seq (.region 12 #[⟨some 6, .assign (.const (.int .i64 0)), 34, "", #[], none⟩] false)
  .ret))))))
def fn101 : AFn := { ntmps := 47, results := [.tmp 6], body := c101, keep := fun | 0 => some [1, 2, 3, 4] | 1 => some [1, 2, 3, 4, 7] | 2 => some [1, 2, 3, 4, 7, 12] | 3 => some [6] | 4 => some [1, 2, 3, 14] | 5 => some [6] | 6 => some [1, 2, 3, 36] | 7 => some [6] | 8 => some [1, 2, 3, 39] | 9 => some [6] | 10 => some [1, 3] | 11 => some [] | 12 => some [6] | _ => none, head := fun  | _ => none, opn := fun _ => none, dyn := fun _ => [] }
def c102 : Code :=
  (.seq (.region 0 #[⟨some 1, .box 27 (.tmp 0), 0, "", #[], none⟩,
    ⟨some 2, .assign (.const (.int .i64 0)), 34, "", #[], none⟩] false)
  (.seq (.seq (.region 1 #[⟨some 3, .fieldAddr 27 (.tmp 1) 0, 0, "", #[], none⟩,
    ⟨some 4, .load 24 (.tmp 3), 24, "", #[], none⟩,
    ⟨some 5, .binOp .gtr 24 (.tmp 4) (.const (.int .u8 3)) 24, 4, "", #[], none⟩,
    ⟨some 6, .move (.tmp 5), 4, "", #[], none⟩,
    ⟨some 7, .fieldAddr 27 (.tmp 1) 2, 0, "", #[], some (6, false)⟩,
    ⟨some 8, .load 25 (.tmp 7), 25, "", #[], some (6, false)⟩,
    ⟨some 9, .binOp .gtr 25 (.tmp 8) (.const (.int .u32 268435455)) 25, 4, "", #[], some (6, false)⟩,
    ⟨some 10, .pick (.tmp 6) (.const (.bool true)) (.tmp 9), 4, "", #[], none⟩] false)
  (.cond (.tmp 10)
    (.seq (.region 2 #[⟨some 2, .assign (.const (.int .i64 1)), 34, "", #[], none⟩] false)
    .ret)
    .skip))
  (.seq (.seq (.region 3 #[⟨some 11, .fieldAddr 27 (.tmp 1) 0, 0, "", #[], none⟩,
    ⟨some 12, .load 24 (.tmp 11), 24, "", #[], none⟩,
    ⟨some 13, .binOp .neq 24 (.tmp 12) (.const (.int .u8 0)) 24, 4, "", #[], none⟩] false)
  (.cond (.tmp 13)
    (.seq (.region 4 #[⟨some 2, .assign (.const (.int .i64 0)), 34, "", #[], none⟩] false)
    .ret)
    .skip))
  (.seq (.seq (.region 5 #[⟨some 14, .fieldAddr 27 (.tmp 1) 2, 0, "", #[], none⟩,
    ⟨some 15, .load 25 (.tmp 14), 25, "", #[], none⟩] false)
  (.block 0 (.seq (.region 6 #[⟨some 17, .binOp .eql 25 (.tmp 15) (.const (.int .u32 0)) 25, 4, "", #[], none⟩,
    ⟨some 16, .assign (.tmp 17), 4, "", #[], none⟩] false)
  (.cond (.tmp 16)
    (.seq (.region 7 #[⟨some 2, .assign (.const (.int .i64 9)), 34, "", #[], none⟩] false)
    .ret)
    (.seq (.seq (.region 8 #[⟨some 19, .binOp .eql 25 (.tmp 15) (.const (.int .u32 16)) 25, 4, "", #[], none⟩,
      ⟨some 18, .assign (.tmp 19), 4, "", #[], none⟩] false)
    (.cond (.tmp 18)
      .skip
      (.region 9 #[⟨some 20, .binOp .eql 25 (.tmp 15) (.const (.int .u32 17)) 25, 4, "", #[], none⟩,
        ⟨some 18, .assign (.tmp 20), 4, "", #[], none⟩] false)))
    (.cond (.tmp 18)
      (.seq (.region 10 #[⟨some 21, .fieldAddr 27 (.tmp 1) 1, 0, "", #[], none⟩,
        ⟨some 22, .load 4 (.tmp 21), 4, "", #[], none⟩,
        ⟨some 23, .unOp .not 4 (.tmp 22), 4, "", #[], none⟩] false)
      (.cond (.tmp 23)
        (.seq (.region 11 #[⟨some 2, .assign (.const (.int .i64 9)), 34, "", #[], none⟩] false)
        .ret)
        .skip))
      .skip))))))
  (.seq (.region 12 #[⟨some 2, .assign (.const (.int .i64 0)), 34, "", #[], none⟩] false)
  .ret)))))
def fn102 : AFn := { ntmps := 24, results := [.tmp 2], body := c102, keep := fun | 0 => some [1] | 1 => some [1, 10] | 2 => some [2] | 3 => some [1, 13] | 4 => some [2] | 5 => some [1, 15] | 6 => some [1, 15, 16] | 7 => some [2] | 8 => some [1, 15, 18] | 9 => some [1, 18] | 10 => some [23] | 11 => some [2] | 12 => some [2] | _ => none, head := fun  | _ => none, opn := fun _ => none, dyn := fun _ => [] }
def c103 : Code :=
  (.seq (.region 0 #[⟨some 2, .assign (.const (.slice none 0 0)), 22, "", #[], none⟩] false)
  (.seq (.region 1 #[⟨some 4, .move (.tmp 0), 3, "", #[], none⟩,
    ⟨some 5, .binOp .rem 3 (.tmp 4) (.const (.int .i64 128)) 3, 3, "", #[], none⟩,
    ⟨some 6, .convert 3 5 (.tmp 5), 5, "", #[], none⟩,
    ⟨some 7, .buildSlice 22 1 #[(0, .tmp 6)], 22, "", #[], none⟩,
    ⟨some 3, .assign (.tmp 7), 22, "", #[], none⟩] false)
  (.seq (.seq (.region 2 #[⟨some 8, .move (.tmp 0), 3, "", #[], none⟩,
    ⟨some 9, .binOp .quo 3 (.tmp 8) (.const (.int .i64 128)) 3, 3, "", #[], none⟩,
    ⟨some 0, .assign (.tmp 9), 3, "", #[], none⟩] false)
  (.block 0 (.loop (.seq (.seq (.region 3 #[⟨some 10, .move (.tmp 0), 3, "", #[], none⟩,
    ⟨some 11, .binOp .gtr 3 (.tmp 10) (.const (.int .i64 0)) 3, 4, "", #[], none⟩] false)
  (.cond (.tmp 11)
    .skip
    (.exit 0)))
  (.seq (.block 1 (.region 5 #[⟨some 14, .move (.tmp 0), 3, "", #[], none⟩,
    ⟨some 15, .binOp .rem 3 (.tmp 14) (.const (.int .i64 128)) 3, 3, "", #[], none⟩,
    ⟨some 16, .binOp .add 3 (.const (.int .i64 128)) (.tmp 15) 3, 3, "", #[], none⟩,
    ⟨some 17, .convert 3 5 (.tmp 16), 5, "", #[], none⟩,
    ⟨some 18, .buildSlice 22 1 #[(0, .tmp 17)], 22, "", #[], none⟩,
    ⟨some 19, .move (.tmp 3), 22, "", #[], none⟩,
    ⟨some 20, .call { callee := .builtin .append, args := #[.tmp 18, .tmp 19], argTypes := #[22, 22] }, 22, "", #[], none⟩,
    ⟨some 3, .assign (.tmp 20), 22, "", #[], none⟩] false))
  (.region 4 #[⟨some 12, .move (.tmp 0), 3, "", #[], none⟩,
    ⟨some 13, .binOp .quo 3 (.tmp 12) (.const (.int .i64 128)) 3, 3, "", #[], none⟩,
    ⟨some 0, .assign (.tmp 13), 3, "", #[], none⟩] false))))))
  (.seq (.region 6 #[⟨some 21, .move (.tmp 3), 22, "", #[], none⟩,
    ⟨some 2, .assign (.tmp 21), 22, "", #[], none⟩] false)
  .ret))))
def fn103 : AFn := { ntmps := 22, results := [.tmp 2], body := c103, keep := fun | 0 => some [0] | 1 => some [0, 3] | 2 => some [0, 3] | 3 => some [0, 3, 11] | 4 => some [0, 3] | 5 => some [0, 3] | 6 => some [2] | _ => none, head := fun | 3 => some [0, 3] | _ => none, opn := fun _ => none, dyn := fun _ => [] }
def c104 : Code :=
  (.seq (.region 0 #[⟨some 4, .assign (.const (.bool false)), 4, "", #[], none⟩] false)
  (.seq (.region 1 #[⟨some 5, .move (.tmp 0), 22, "", #[], none⟩,
    ⟨some 6, .convert 22 9 (.tmp 5), 9, "", #[], none⟩,
    ⟨some 7, .move (.tmp 1), 22, "", #[], none⟩,
    ⟨some 8, .convert 22 9 (.tmp 7), 9, "", #[], none⟩,
    ⟨some 9, .binOp .eql 9 (.tmp 6) (.tmp 8) 9, 4, "", #[], none⟩,
    ⟨some 4, .assign (.tmp 9), 4, "", #[], none⟩] false)
  .ret))
def fn104 : AFn := { ntmps := 10, results := [.tmp 4], body := c104, keep := fun | 0 => some [0, 1] | 1 => some [4] | _ => none, head := fun  | _ => none, opn := fun _ => none, dyn := fun _ => [] }
def c105 : Code :=
  (.seq (.region 0 #[⟨some 6, .assign (.const (.bool false)), 4, "", #[], none⟩] false)
  (.seq (.seq (.region 1 #[⟨some 10, .move (.tmp 0), 28, "", #[], none⟩,
    ⟨some 11, .call { callee := .builtin .len, args := #[.tmp 10], argTypes := #[28] }, 3, "", #[], none⟩,
    ⟨some 12, .move (.tmp 1), 28, "", #[], none⟩,
    ⟨some 13, .call { callee := .builtin .len, args := #[.tmp 12], argTypes := #[28] }, 3, "", #[], none⟩,
    ⟨some 14, .binOp .neq 3 (.tmp 11) (.tmp 13) 3, 4, "", #[], none⟩] false)
  (.cond (.tmp 14)
    (.seq (.region 2 #[⟨some 6, .assign (.const (.bool false)), 4, "", #[], none⟩] false)
    .ret)
    .skip))
  (.seq (.seq (.region 3 #[⟨some 15, .move (.tmp 0), 28, "", #[], none⟩,
    ⟨some 16, .call { callee := .builtin .len, args := #[.tmp 15], argTypes := #[28] }, 3, "", #[], none⟩,
    ⟨some 17, .move (.const (.int .i64 0)), 3, "", #[], none⟩] false)
  (.block 0 (.loop (.seq (.region 4 #[⟨some 18, .binOp .lss 3 (.tmp 17) (.tmp 16) 3, 0, "", #[], none⟩] false)
  (.seq (.cond (.tmp 18)
    .skip
    (.exit 0))
  (.seq (.block 1 (.seq (.region 5 #[⟨some 19, .move (.tmp 17), 3, "", #[], none⟩,
    ⟨some 20, .indexAddr 28 (.tmp 15) (.tmp 17), 0, "", #[], none⟩,
    ⟨some 21, .load 30 (.tmp 20), 30, "", #[], none⟩,
    ⟨some 8, .alloc 30, 0, "", #[], none⟩,
    ⟨some 7, .assign (.tmp 19), 3, "", #[], none⟩,
    ⟨none, .store 30 (.tmp 8) (.tmp 21), 0, "", #[], none⟩] false)
  (.seq (.region 6 #[⟨some 22, .move (.tmp 1), 28, "", #[], none⟩,
    ⟨some 23, .move (.tmp 7), 3, "", #[], none⟩,
    ⟨some 24, .indexAddr 28 (.tmp 22) (.tmp 23), 0, "", #[], none⟩,
    ⟨some 25, .load 30 (.tmp 24), 30, "", #[], none⟩,
    ⟨some 9, .alloc 30, 0, "", #[], none⟩,
    ⟨none, .store 30 (.tmp 9) (.tmp 25), 0, "", #[], none⟩] false)
  (.seq (.region 7 #[⟨some 26, .move (.tmp 2), 45, "", #[], none⟩,
    ⟨some 27, .load 30 (.tmp 8), 30, "", #[], none⟩,
    ⟨some 28, .load 30 (.tmp 9), 30, "", #[], none⟩,
    ⟨some 29, .call { callee := .value (.tmp 26), args := #[.tmp 27, .tmp 28], argTypes := #[30, 30] }, 4, "", #[], none⟩,
    ⟨some 30, .unOp .not 4 (.tmp 29), 4, "", #[], none⟩] false)
  (.cond (.tmp 30)
    (.seq (.region 8 #[⟨some 6, .assign (.const (.bool false)), 4, "", #[], none⟩] false)
    .ret)
    .skip)))))
  (.region 9 #[⟨some 31, .binOp .add 3 (.tmp 17) (.const (.int .i64 1)) 3, 3, "", #[], none⟩,
    ⟨some 17, .move (.tmp 31), 3, "", #[], none⟩] false)))))))
  (.seq (.region 10 #[⟨some 6, .assign (.const (.bool true)), 4, "", #[], none⟩] false)
  .ret))))
def fn105 : AFn := { ntmps := 32, results := [.tmp 6], body := c105, keep := fun | 0 => some [0, 1, 2] | 1 => some [0, 1, 2, 14] | 2 => some [6] | 3 => some [1, 2, 15, 16, 17] | 4 => some [1, 2, 15, 16, 17, 18] | 5 => some [1, 2, 7, 8, 15, 16, 17] | 6 => some [1, 2, 8, 9, 15, 16, 17] | 7 => some [1, 2, 15, 16, 17, 30] | 8 => some [6] | 9 => some [1, 2, 15, 16, 17] | 10 => some [6] | _ => none, head := fun | 4 => some [1, 2, 15, 16, 17] | _ => none, opn := opnT, dyn := fun _ => [] }
def c110 : Code :=
  (.seq (.region 0 #[⟨some 2, .assign (.const (.int .i64 0)), 3, "", #[], none⟩] false)
  (.seq (.region 1 #[⟨some 6, .move (.tmp 0), 3, "", #[], none⟩,
    ⟨some 7, .call { callee := .value (.func 94), args := #[.tmp 6], argTypes := #[3] }, 35, "", #[], none⟩,
    ⟨some 5, .move (.tmp 7), 35, "", #[], none⟩,
    ⟨some 8, .extract (.tmp 5) 0, 22, "", #[], none⟩,
    ⟨some 9, .extract (.tmp 5) 1, 34, "", #[], none⟩,
    ⟨some 3, .assign (.tmp 8), 22, "", #[], none⟩,
    ⟨some 4, .assign (.tmp 9), 34, "", #[], none⟩] false)
  (.seq (.region 2 #[⟨some 10, .move (.tmp 3), 22, "", #[], none⟩,
    ⟨some 11, .call { callee := .builtin .len, args := #[.tmp 10], argTypes := #[22] }, 3, "", #[], none⟩,
    ⟨some 2, .assign (.tmp 11), 3, "", #[], none⟩] false)
  .ret)))
def fn110 : AFn := { ntmps := 12, results := [.tmp 2], body := c110, keep := fun | 0 => some [0] | 1 => some [3] | 2 => some [2] | _ => none, head := fun  | _ => none, opn := fun _ => none, dyn := fun _ => [] }
def c111 : Code :=
  (.seq (.region 0 #[⟨some 1, .box 25 (.tmp 0), 0, "", #[], none⟩,
    ⟨some 2, .assign (.const .nilFunc), 153, "", #[], none⟩] false)
  (.seq (.region 1 #[⟨some 3, .makeFunc (.func 114) #[] #[.tmp 1], 152, "", #[], none⟩,
    ⟨some 2, .assign (.tmp 3), 153, "", #[], none⟩] false)
  .ret))
def fn111 : AFn := { ntmps := 4, results := [.tmp 2], body := c111, keep := fun | 0 => some [1] | 1 => some [2] | _ => none, head := fun  | _ => none, opn := fun _ => none, dyn := fun _ => [] }
def c112 : Code :=
  (.seq (.region 0 #[⟨some 2, .assign (.const (.int .u32 0)), 25, "", #[], none⟩,
    ⟨some 3, .assign (.const (.int .i64 0)), 3, "", #[], none⟩,
    ⟨some 4, .assign (.const (.int .i64 0)), 34, "", #[], none⟩] false)
  (.seq (.seq (.region 1 #[⟨some 3, .assign (.const (.int .i64 1)), 3, "", #[], none⟩] false)
  (.block 0 (.loop (.seq (.block 1 (.seq (.seq (.region 3 #[⟨some 8, .move (.tmp 3), 3, "", #[], none⟩,
    ⟨some 9, .move (.tmp 0), 22, "", #[], none⟩,
    ⟨some 10, .call { callee := .builtin .len, args := #[.tmp 9], argTypes := #[22] }, 3, "", #[], none⟩,
    ⟨some 11, .binOp .eql 3 (.tmp 8) (.tmp 10) 3, 4, "", #[], none⟩] false)
  (.cond (.tmp 11)
    (.seq (.region 4 #[⟨some 2, .assign (.const (.int .u32 0)), 25, "", #[], none⟩,
      ⟨some 3, .assign (.const (.int .i64 0)), 3, "", #[], none⟩,
      ⟨some 4, .assign (.const (.int .i64 7)), 34, "", #[], none⟩] false)
    .ret)
    .skip))
  (.seq (.region 5 #[⟨some 12, .move (.tmp 0), 22, "", #[], none⟩,
    ⟨some 13, .move (.tmp 3), 3, "", #[], none⟩,
    ⟨some 14, .indexAddr 22 (.tmp 12) (.tmp 13), 0, "", #[], none⟩,
    ⟨some 15, .load 5 (.tmp 14), 5, "", #[], none⟩,
    ⟨some 5, .assign (.tmp 15), 5, "", #[], none⟩] false)
  (.seq (.seq (.region 6 #[⟨some 16, .move (.tmp 3), 3, "", #[], none⟩,
    ⟨some 17, .binOp .eql 3 (.tmp 16) (.const (.int .i64 1)) 3, 4, "", #[], none⟩,
    ⟨some 18, .move (.tmp 17), 4, "", #[], none⟩,
    ⟨some 19, .move (.tmp 5), 5, "", #[], some (18, true)⟩,
    ⟨some 20, .binOp .eql 5 (.tmp 19) (.const (.int .u8 128)) 5, 4, "", #[], some (18, true)⟩,
    ⟨some 21, .pick (.tmp 18) (.tmp 20) (.const (.bool false)), 4, "", #[], none⟩,
    ⟨some 22, .move (.tmp 21), 4, "", #[], none⟩,
    ⟨some 23, .move (.tmp 3), 3, "", #[], some (22, false)⟩,
    ⟨some 24, .binOp .eql 3 (.tmp 23) (.const (.int .i64 4)) 3, 4, "", #[], some (22, false)⟩,
    ⟨some 25, .move (.tmp 24), 4, "", #[], some (22, false)⟩,
    ⟨some 26, .move (.tmp 5), 5, "", #[], some (25, true)⟩,
    ⟨some 27, .binOp .geq 5 (.tmp 26) (.const (.int .u8 128)) 5, 4, "", #[], some (25, true)⟩,
    ⟨some 28, .pick (.tmp 25) (.tmp 27) (.const (.bool false)), 4, "", #[], some (22, false)⟩,
    ⟨some 29, .pick (.tmp 22) (.const (.bool true)) (.tmp 28), 4, "", #[], none⟩] false)
  (.cond (.tmp 29)
    (.seq (.region 7 #[⟨some 2, .assign (.const (.int .u32 0)), 25, "", #[], none⟩,
      ⟨some 3, .assign (.const (.int .i64 0)), 3, "", #[], none⟩,
      ⟨some 4, .assign (.const (.int .i64 9)), 34, "", #[], none⟩] false)
    .ret)
    .skip))
  (.seq (.region 8 #[⟨some 30, .move (.tmp 2), 25, "", #[], none⟩,
    ⟨some 31, .binOp .shl 25 (.tmp 30) (.const (.int .u64 7)) 151, 25, "", #[], none⟩,
    ⟨some 32, .move (.tmp 5), 5, "", #[], none⟩,
    ⟨some 33, .binOp .and 5 (.tmp 32) (.const (.int .u8 127)) 5, 5, "", #[], none⟩,
    ⟨some 34, .convert 5 25 (.tmp 33), 25, "", #[], none⟩,
    ⟨some 35, .binOp .or 25 (.tmp 31) (.tmp 34) 25, 25, "", #[], none⟩,
    ⟨some 2, .assign (.tmp 35), 25, "", #[], none⟩] false)
  (.seq (.region 9 #[⟨some 36, .move (.tmp 5), 5, "", #[], none⟩,
    ⟨some 37, .binOp .lss 5 (.tmp 36) (.const (.int .u8 128)) 5, 4, "", #[], none⟩] false)
  (.cond (.tmp 37)
    (.exit 0)
    .skip)))))))
  (.region 2 #[⟨some 6, .move (.tmp 3), 3, "", #[], none⟩,
    ⟨some 7, .binOp .add 3 (.tmp 6) (.const (.int .i64 1)) 3, 3, "", #[], none⟩,
    ⟨some 3, .assign (.tmp 7), 3, "", #[], none⟩] false)))))
  (.seq (.seq (.region 10 #[⟨some 38, .move (.tmp 2), 25, "", #[], none⟩,
    ⟨some 39, .binOp .lss 25 (.tmp 38) (.const (.int .u32 31)) 25, 4, "", #[], none⟩] false)
  (.cond (.tmp 39)
    (.seq (.region 11 #[⟨some 2, .assign (.const (.int .u32 0)), 25, "", #[], none⟩,
      ⟨some 3, .assign (.const (.int .i64 0)), 3, "", #[], none⟩,
      ⟨some 4, .assign (.const (.int .i64 9)), 34, "", #[], none⟩] false)
    .ret)
    .skip))
  (.seq (.region 12 #[⟨some 40, .move (.tmp 2), 25, "", #[], none⟩,
    ⟨some 41, .move (.tmp 3), 3, "", #[], none⟩,
    ⟨some 42, .binOp .add 3 (.tmp 41) (.const (.int .i64 1)) 3, 3, "", #[], none⟩,
    ⟨some 2, .assign (.tmp 40), 25, "", #[], none⟩,
    ⟨some 3, .assign (.tmp 42), 3, "", #[], none⟩,
    ⟨some 4, .assign (.const (.int .i64 0)), 34, "", #[], none⟩] false)
  .ret))))
def fn112 : AFn := { ntmps := 43, results := [.tmp 2, .tmp 3, .tmp 4], body := c112, keep := fun | 0 => some [0, 2] | 1 => some [0, 2, 3] | 2 => some [0, 2, 3] | 3 => some [0, 2, 3, 11] | 4 => some [2, 3, 4] | 5 => some [0, 2, 3, 5] | 6 => some [0, 2, 3, 5, 29] | 7 => some [2, 3, 4] | 8 => some [0, 2, 3, 5] | 9 => some [0, 2, 3, 37] | 10 => some [2, 3, 39] | 11 => some [2, 3, 4] | 12 => some [2, 3, 4] | _ => none, head := fun | 3 => some [0, 2, 3] | _ => none, opn := fun _ => none, dyn := fun _ => [] }
def c113 : Code :=
  (.seq (.region 0 #[⟨some 4, .box 30 (.tmp 0), 0, "", #[], none⟩,
    ⟨some 6, .assign (.const (.int .i64 0)), 34, "", #[], none⟩] false)
  (.seq (.seq (.region 1 #[⟨some 11, .load 145 (.tmp 2), 145, "", #[], none⟩,
    ⟨some 12, .load 30 (.tmp 4), 30, "", #[], none⟩,
    ⟨some 13, .move (.tmp 1), 3, "", #[], none⟩,
    ⟨some 14, .call { callee := .value (.tmp 11), args := #[.tmp 12, .tmp 13], argTypes := #[30, 3] }, 34, "", #[], none⟩,
    ⟨some 7, .assign (.tmp 14), 34, "", #[], none⟩] false)
  (.seq (.region 2 #[⟨some 15, .move (.tmp 7), 34, "", #[], none⟩,
    ⟨some 16, .binOp .neq 34 (.tmp 15) (.const (.int .i64 0)) 34, 4, "", #[], none⟩] false)
  (.cond (.tmp 16)
    (.seq (.region 3 #[⟨some 17, .move (.tmp 7), 34, "", #[], none⟩,
      ⟨some 6, .assign (.tmp 17), 34, "", #[], none⟩] false)
    .ret)
    .skip)))
  (.seq (.seq (.region 4 #[⟨some 18, .fieldAddr 30 (.tmp 4) 2, 0, "", #[], none⟩,
    ⟨some 19, .load 28 (.tmp 18), 28, "", #[], none⟩,
    ⟨some 20, .call { callee := .builtin .len, args := #[.tmp 19], argTypes := #[28] }, 3, "", #[], none⟩,
    ⟨some 21, .move (.const (.int .i64 0)), 3, "", #[], none⟩] false)
  (.block 0 (.loop (.seq (.region 5 #[⟨some 22, .binOp .lss 3 (.tmp 21) (.tmp 20) 3, 0, "", #[], none⟩] false)
  (.seq (.cond (.tmp 22)
    .skip
    (.exit 0))
  (.seq (.block 1 (.seq (.region 6 #[⟨some 23, .indexAddr 28 (.tmp 19) (.tmp 21), 0, "", #[], none⟩,
    ⟨some 24, .load 30 (.tmp 23), 30, "", #[], none⟩,
    ⟨some 9, .alloc 30, 0, "", #[], none⟩,
    ⟨none, .store 30 (.tmp 9) (.tmp 24), 0, "", #[], none⟩] false)
  (.seq (.region 7 #[⟨some 25, .load 145 (.tmp 3), 145, "", #[], none⟩,
    ⟨some 26, .load 30 (.tmp 9), 30, "", #[], none⟩,
    ⟨some 27, .move (.tmp 1), 3, "", #[], none⟩,
    ⟨some 28, .binOp .add 3 (.tmp 27) (.const (.int .i64 1)) 3, 3, "", #[], none⟩,
    ⟨some 29, .call { callee := .value (.tmp 25), args := #[.tmp 26, .tmp 28], argTypes := #[30, 3] }, 34, "", #[], none⟩,
    ⟨some 10, .assign (.tmp 29), 34, "", #[], none⟩] false)
  (.seq (.region 8 #[⟨some 30, .move (.tmp 10), 34, "", #[], none⟩,
    ⟨some 31, .binOp .neq 34 (.tmp 30) (.const (.int .i64 0)) 34, 4, "", #[], none⟩] false)
  (.cond (.tmp 31)
    (.seq (.region 9 #[⟨some 32, .move (.tmp 10), 34, "", #[], none⟩,
      ⟨some 6, .assign (.tmp 32), 34, "", #[], none⟩] false)
    .ret)
    .skip)))))
  (.region 10 #[⟨some 33, .binOp .add 3 (.tmp 21) (.const (.int .i64 1)) 3, 3, "", #[], none⟩,
    ⟨some 21, .move (.tmp 33), 3, "", #[], none⟩] false)))))))
  (.seq (.region 11 #[⟨some 6, .assign (.const (.int .i64 0)), 34, "", #[], none⟩] false)
  .ret))))
def fn113 : AFn := { ntmps := 34, results := [.tmp 6], body := c113, keep := fun | 0 => some [1, 2, 3, 4] | 1 => some [1, 3, 4, 7] | 2 => some [1, 3, 4, 7, 16] | 3 => some [6] | 4 => some [1, 3, 19, 20, 21] | 5 => some [1, 3, 19, 20, 21, 22] | 6 => some [1, 3, 9, 19, 20, 21] | 7 => some [1, 3, 10, 19, 20, 21] | 8 => some [1, 3, 10, 19, 20, 21, 31] | 9 => some [6] | 10 => some [1, 3, 19, 20, 21] | 11 => some [6] | _ => none, head := fun | 5 => some [1, 3, 19, 20, 21] | _ => none, opn := opnT, dyn := fun _ => [] }
def c114 : Code :=
  (.seq (.region 0 #[⟨some 3, .assign (.const (.int .i64 0)), 3, "", #[], none⟩] false)
  (.seq (.block 0 (.loop (.seq (.seq (.region 1 #[⟨some 5, .load 25 (.tmp 1), 25, "", #[], none⟩,
    ⟨some 6, .move (.tmp 3), 3, "", #[], none⟩,
    ⟨some 7, .binOp .add 3 (.tmp 6) (.const (.int .i64 7)) 3, 3, "", #[], none⟩,
    ⟨some 8, .binOp .shr 25 (.tmp 5) (.tmp 7) 3, 25, "", #[], none⟩,
    ⟨some 9, .binOp .gtr 25 (.tmp 8) (.const (.int .u32 0)) 25, 4, "", #[], none⟩] false)
  (.cond (.tmp 9)
    .skip
    (.exit 0)))
  (.block 1 (.region 2 #[⟨some 10, .move (.tmp 3), 3, "", #[], none⟩,
    ⟨some 11, .binOp .add 3 (.tmp 10) (.const (.int .i64 7)) 3, 3, "", #[], none⟩,
    ⟨some 3, .assign (.tmp 11), 3, "", #[], none⟩] false)))))
  (.block 2 (.loop (.seq (.seq (.region 3 #[⟨some 12, .move (.tmp 3), 3, "", #[], none⟩,
    ⟨some 13, .binOp .geq 3 (.tmp 12) (.const (.int .i64 0)) 3, 4, "", #[], none⟩] false)
  (.cond (.tmp 13)
    .skip
    (.exit 2)))
  (.seq (.block 3 (.seq (.region 5 #[⟨some 16, .load 25 (.tmp 1), 25, "", #[], none⟩,
    ⟨some 17, .move (.tmp 3), 3, "", #[], none⟩,
    ⟨some 18, .binOp .shr 25 (.tmp 16) (.tmp 17) 3, 25, "", #[], none⟩,
    ⟨some 19, .convert 25 5 (.tmp 18), 5, "", #[], none⟩,
    ⟨some 20, .binOp .and 5 (.tmp 19) (.const (.int .u8 127)) 5, 5, "", #[], none⟩,
    ⟨some 4, .assign (.tmp 20), 5, "", #[], none⟩] false)
  (.seq (.seq (.region 6 #[⟨some 21, .move (.tmp 3), 3, "", #[], none⟩,
    ⟨some 22, .binOp .gtr 3 (.tmp 21) (.const (.int .i64 0)) 3, 4, "", #[], none⟩] false)
  (.cond (.tmp 22)
    (.region 7 #[⟨some 23, .move (.tmp 4), 5, "", #[], none⟩,
      ⟨some 24, .binOp .or 5 (.tmp 23) (.const (.int .u8 128)) 5, 5, "", #[], none⟩,
      ⟨some 4, .assign (.tmp 24), 5, "", #[], none⟩] false)
    .skip))
  (.seq (.region 8 #[⟨some 25, .move (.tmp 0), 159, "", #[], none⟩,
    ⟨some 26, .move (.tmp 4), 5, "", #[], none⟩,
    ⟨some 27, .call { callee := .value (.tmp 25), args := #[.tmp 26], argTypes := #[5] }, 4, "", #[], none⟩,
    ⟨some 28, .unOp .not 4 (.tmp 27), 4, "", #[], none⟩] false)
  (.cond (.tmp 28)
    .ret
    .skip)))))
  (.region 4 #[⟨some 14, .move (.tmp 3), 3, "", #[], none⟩,
    ⟨some 15, .binOp .sub 3 (.tmp 14) (.const (.int .i64 7)) 3, 3, "", #[], none⟩,
    ⟨some 3, .assign (.tmp 15), 3, "", #[], none⟩] false)))))))
def fn114 : AFn := { ntmps := 29, results := [], body := c114, keep := fun | 0 => some [0, 1, 3] | 1 => some [0, 1, 3, 9] | 2 => some [0, 1, 3] | 3 => some [0, 1, 3, 13] | 4 => some [0, 1, 3] | 5 => some [0, 1, 3, 4] | 6 => some [0, 1, 3, 4, 22] | 7 => some [0, 1, 3, 4] | 8 => some [0, 1, 3, 28] | _ => none, head := fun | 1 => some [0, 1, 3] | 3 => some [0, 1, 3] | _ => none, opn := opnT, dyn := fun _ => [] }
def fnTab : List (Option AFn) := [none, none, none, none, none, some fn5, none, none, none, some fn9, none, none, none, none, none, none, none, none, some fn18, none, some fn20, some fn21, some fn22, some fn23, some fn24, some fn25, some fn26, some fn27, some fn28, some fn29, some fn30, none, some fn32, none, some fn34, some fn35, some fn36, some fn37, some fn38, some fn39, some fn40, some fn41, none, none, none, none, none, none, none, none, none, none, none, none, none, none, none, none, none, none, none, none, none, none, none, none, none, none, none, some fn69, some fn70, some fn71, some fn72, some fn73, some fn74, some fn75, some fn76, some fn77, some fn78, some fn79, some fn80, none, none, none, none, none, none, none, none, some fn89, some fn90, some fn91, some fn92, some fn93, some fn94, some fn95, some fn96, some fn97, some fn98, some fn99, some fn100, some fn101, some fn102, some fn103, some fn104, some fn105, none, none, none, none, some fn110, some fn111, some fn112, some fn113, some fn114]
def grdT : FuncId → Option Grd
  | 23 => some grd23
  | _ => none

def tyTab : List (Option TyI) := [
  none,
  some ⟨.func, 1, 8, [.nilf], false⟩,
  some ⟨.int .i64, 1, 8, [.int .i64 0], false⟩,
  some ⟨.int .i64, 1, 8, [.int .i64 0], false⟩,
  some ⟨.bool, 1, 1, [.bool false], false⟩,
  some ⟨.int .u8, 1, 1, [.int .u8 0], false⟩,
  some ⟨.int .u8, 1, 1, [.int .u8 0], false⟩,
  some ⟨.strct [(0, 2), (1, 3), (2, 4), (3, 6)], 4, 24, [.int .i64 0, .int .i64 0, .bool false, .int .u8 0], false⟩,
  some ⟨.strct [(0, 2), (1, 3), (2, 4), (3, 6)], 4, 24, [.int .i64 0, .int .i64 0, .bool false, .int .u8 0], false⟩,
  some ⟨.str, 1, 16, [.str []], false⟩,
  some ⟨.str, 1, 16, [.str []], false⟩,
  some ⟨.str, 1, 16, [.str []], false⟩,
  some ⟨.int .u64, 1, 8, [.int .u64 0], false⟩,
  some ⟨.strct [(0, 9), (1, 12)], 2, 24, [.str [], .int .u64 0], false⟩,
  some ⟨.strct [(0, 9), (1, 12)], 2, 24, [.str [], .int .u64 0], false⟩,
  some ⟨.ptr 162, 1, 8, [.nilp], false⟩,
  some ⟨.ptr 165, 1, 8, [.nilp], false⟩,
  some ⟨.ptr 174, 1, 8, [.nilp], false⟩,
  some ⟨.strct [(0, 17)], 1, 8, [.nilp], false⟩,
  some ⟨.strct [(0, 17)], 1, 8, [.nilp], false⟩,
  some ⟨.iface true, 1, 16, [.nili], false⟩,
  some ⟨.int .i32, 1, 4, [.int .i32 0], false⟩,
  some ⟨.slice 5, 1, 24, [.sl true [] (some 0)], false⟩,
  some ⟨.func, 1, 8, [.nilf], false⟩,
  some ⟨.int .u8, 1, 1, [.int .u8 0], false⟩,
  some ⟨.int .u32, 1, 4, [.int .u32 0], false⟩,
  some ⟨.strct [(0, 24), (1, 4), (2, 25)], 3, 8, [.int .u8 0, .bool false, .int .u32 0], false⟩,
  some ⟨.strct [(0, 24), (1, 4), (2, 25)], 3, 8, [.int .u8 0, .bool false, .int .u32 0], true⟩,
  some ⟨.slice 30, 1, 24, [.sl true [] (some 0)], false⟩,
  some ⟨.strct [(0, 27), (3, 22), (4, 28)], 5, 56, [.int .u8 0, .bool false, .int .u32 0, .sl true [] (some 0), .sl true [] (some 0)], false⟩,
  some ⟨.strct [(0, 27), (3, 22), (4, 28)], 5, 56, [.int .u8 0, .bool false, .int .u32 0, .sl true [] (some 0), .sl true [] (some 0)], false⟩,
  none,
  some ⟨.func, 1, 8, [.nilf], false⟩,
  some ⟨.func, 1, 8, [.nilf], false⟩,
  some ⟨.int .i64, 1, 8, [.int .i64 0], false⟩,
  none,
  some ⟨.func, 1, 8, [.nilf], false⟩,
  some ⟨.func, 1, 8, [.nilf], false⟩,
  some ⟨.slice 107, 1, 24, [.sl true [] (some 0)], false⟩,
  some ⟨.strct [(0, 38)], 1, 24, [.sl true [] (some 0)], false⟩,
  some ⟨.strct [(0, 38)], 1, 24, [.sl true [] (some 0)], false⟩,
  some ⟨.int .u16, 1, 2, [.int .u16 0], false⟩,
  some ⟨.func, 1, 8, [.nilf], false⟩,
  none,
  some ⟨.func, 1, 8, [.nilf], false⟩,
  some ⟨.func, 1, 8, [.nilf], false⟩,
  some ⟨.func, 1, 8, [.nilf], false⟩,
  some ⟨.slice 3, 1, 24, [.sl true [] (some 0)], false⟩,
  none,
  some ⟨.func, 1, 8, [.nilf], false⟩,
  some ⟨.func, 1, 8, [.nilf], false⟩,
  some ⟨.func, 1, 8, [.nilf], false⟩,
  some ⟨.func, 1, 8, [.nilf], false⟩,
  some ⟨.func, 1, 8, [.nilf], false⟩,
  some ⟨.func, 1, 8, [.nilf], false⟩,
  some ⟨.func, 1, 8, [.nilf], false⟩,
  none,
  some ⟨.func, 1, 8, [.nilf], false⟩,
  some ⟨.func, 1, 8, [.nilf], false⟩,
  some ⟨.func, 1, 8, [.nilf], false⟩,
  some ⟨.func, 1, 8, [.nilf], false⟩,
  some ⟨.func, 1, 8, [.nilf], false⟩,
  none,
  some ⟨.func, 1, 8, [.nilf], false⟩,
  some ⟨.strct [(0, 22)], 1, 24, [.sl true [] (some 0)], false⟩,
  some ⟨.strct [(0, 22)], 1, 24, [.sl true [] (some 0)], false⟩,
  some ⟨.slice 125, 1, 24, [.sl true [] (some 0)], false⟩,
  some ⟨.slice 78, 1, 24, [.sl true [] (some 0)], false⟩,
  some ⟨.func, 1, 8, [.nilf], false⟩,
  some ⟨.func, 1, 8, [.nilf], false⟩,
  some ⟨.strct [(0, 47), (1, 34)], 2, 32, [.sl true [] (some 0), .int .i64 0], false⟩,
  some ⟨.strct [(0, 47), (1, 34)], 2, 32, [.sl true [] (some 0), .int .i64 0], false⟩,
  none,
  some ⟨.func, 1, 8, [.nilf], false⟩,
  some ⟨.func, 1, 8, [.nilf], false⟩,
  some ⟨.func, 1, 8, [.nilf], false⟩,
  some ⟨.func, 1, 8, [.nilf], false⟩,
  some ⟨.strct [(0, 27), (3, 4), (4, 4)], 5, 12, [.int .u8 0, .bool false, .int .u32 0, .bool false, .bool false], false⟩,
  some ⟨.strct [(0, 27), (3, 4), (4, 4)], 5, 12, [.int .u8 0, .bool false, .int .u32 0, .bool false, .bool false], false⟩,
  some ⟨.func, 1, 8, [.nilf], false⟩,
  some ⟨.func, 1, 8, [.nilf], false⟩,
  some ⟨.func, 1, 8, [.nilf], false⟩,
  some ⟨.arr 2 3, 2, 16, [.int .i64 0, .int .i64 0], false⟩,
  some ⟨.func, 1, 8, [.nilf], false⟩,
  none,
  some ⟨.func, 1, 8, [.nilf], false⟩,
  some ⟨.func, 1, 8, [.nilf], false⟩,
  some ⟨.func, 1, 8, [.nilf], false⟩,
  some ⟨.func, 1, 8, [.nilf], false⟩,
  some ⟨.func, 1, 8, [.nilf], false⟩,
  some ⟨.func, 1, 8, [.nilf], false⟩,
  none,
  some ⟨.func, 1, 8, [.nilf], false⟩,
  some ⟨.func, 1, 8, [.nilf], false⟩,
  some ⟨.func, 1, 8, [.nilf], false⟩,
  some ⟨.func, 1, 8, [.nilf], false⟩,
  some ⟨.func, 1, 8, [.nilf], false⟩,
  some ⟨.ptr 3, 1, 8, [.nilp], false⟩,
  some ⟨.func, 1, 8, [.nilf], false⟩,
  some ⟨.func, 1, 8, [.nilf], false⟩,
  some ⟨.func, 1, 8, [.nilf], false⟩,
  none,
  some ⟨.func, 1, 8, [.nilf], false⟩,
  some ⟨.func, 1, 8, [.nilf], false⟩,
  some ⟨.strct [(0, 5), (1, 5), (2, 25)], 3, 8, [.int .u8 0, .int .u8 0, .int .u32 0], false⟩,
  some ⟨.strct [(0, 5), (1, 5), (2, 25)], 3, 8, [.int .u8 0, .int .u8 0, .int .u32 0], false⟩,
  some ⟨.strct [(0, 5), (1, 5), (2, 105), (5, 22)], 6, 40, [.int .u8 0, .int .u8 0, .int .u8 0, .int .u8 0, .int .u32 0, .sl true [] (some 0)], false⟩,
  some ⟨.strct [(0, 5), (1, 5), (2, 105), (5, 22)], 6, 40, [.int .u8 0, .int .u8 0, .int .u8 0, .int .u8 0, .int .u32 0, .sl true [] (some 0)], false⟩,
  some ⟨.func, 1, 8, [.nilf], false⟩,
  some ⟨.strct [(0, 3), (1, 34)], 2, 16, [.int .i64 0, .int .i64 0], false⟩,
  some ⟨.strct [(0, 3), (1, 34)], 2, 16, [.int .i64 0, .int .i64 0], false⟩,
  none,
  some ⟨.strct [(0, 22), (1, 3)], 2, 32, [.sl true [] (some 0), .int .i64 0], false⟩,
  some ⟨.strct [(0, 22), (1, 3)], 2, 32, [.sl true [] (some 0), .int .i64 0], false⟩,
  none,
  some ⟨.func, 1, 8, [.nilf], false⟩,
  none,
  some ⟨.func, 1, 8, [.nilf], false⟩,
  some ⟨.func, 1, 8, [.nilf], false⟩,
  some ⟨.func, 1, 8, [.nilf], false⟩,
  some ⟨.func, 1, 8, [.nilf], false⟩,
  some ⟨.func, 1, 8, [.nilf], false⟩,
  none,
  some ⟨.func, 1, 8, [.nilf], false⟩,
  some ⟨.strct [(0, 5), (1, 5)], 2, 2, [.int .u8 0, .int .u8 0], false⟩,
  some ⟨.strct [(0, 5), (1, 5)], 2, 2, [.int .u8 0, .int .u8 0], false⟩,
  some ⟨.func, 1, 8, [.nilf], false⟩,
  some ⟨.func, 1, 8, [.nilf], false⟩,
  some ⟨.func, 1, 8, [.nilf], false⟩,
  none,
  some ⟨.func, 1, 8, [.nilf], false⟩,
  none,
  some ⟨.func, 1, 8, [.nilf], false⟩,
  some ⟨.func, 1, 8, [.nilf], false⟩,
  some ⟨.func, 1, 8, [.nilf], false⟩,
  some ⟨.func, 1, 8, [.nilf], false⟩,
  some ⟨.ptr 113, 1, 8, [.nilp], false⟩,
  none,
  some ⟨.func, 1, 8, [.nilf], false⟩,
  none,
  some ⟨.func, 1, 8, [.nilf], false⟩,
  some ⟨.func, 1, 8, [.nilf], false⟩,
  some ⟨.func, 1, 8, [.nilf], false⟩,
  some ⟨.func, 1, 8, [.nilf], false⟩,
  some ⟨.func, 1, 8, [.nilf], false⟩,
  some ⟨.func, 1, 8, [.nilf], false⟩,
  some ⟨.func, 1, 8, [.nilf], false⟩,
  some ⟨.func, 1, 8, [.nilf], false⟩,
  some ⟨.func, 1, 8, [.nilf], false⟩,
  some ⟨.func, 1, 8, [.nilf], false⟩,
  some ⟨.func, 1, 8, [.nilf], false⟩,
  some ⟨.int .u64, 1, 8, [.int .u64 0], false⟩,
  some ⟨.func, 1, 8, [.nilf], false⟩,
  some ⟨.func, 1, 8, [.nilf], false⟩,
  some ⟨.func, 1, 8, [.nilf], false⟩,
  none,
  some ⟨.func, 1, 8, [.nilf], false⟩,
  some ⟨.arr 3 5, 3, 3, [.int .u8 0, .int .u8 0, .int .u8 0], false⟩,
  some ⟨.arr 3 5, 3, 3, [.int .u8 0, .int .u8 0, .int .u8 0], false⟩,
  some ⟨.func, 1, 8, [.nilf], false⟩,
  some ⟨.func, 1, 8, [.nilf], false⟩,
  some ⟨.strct [(0, 17), (1, 17), (2, 17), (3, 9)], 4, 40, [.nilp, .nilp, .nilp, .str []], false⟩,
  some ⟨.strct [(0, 17), (1, 17), (2, 17), (3, 9)], 4, 40, [.nilp, .nilp, .nilp, .str []], false⟩,
  some ⟨.arr 0 16, 0, 0, [], false⟩,
  some ⟨.strct [(0, 163)], 0, 0, [], false⟩,
  some ⟨.strct [(0, 163)], 0, 0, [], false⟩,
  some ⟨.func, 1, 8, [.nilf], false⟩,
  some ⟨.int .u8, 1, 1, [.int .u8 0], false⟩,
  some ⟨.int .u8, 1, 1, [.int .u8 0], false⟩,
  some ⟨.func, 1, 8, [.nilf], false⟩,
  some ⟨.ptr 5, 1, 8, [.nilp], false⟩,
  some ⟨.int .i32, 1, 4, [.int .i32 0], false⟩,
  some ⟨.int .i32, 1, 4, [.int .i32 0], false⟩,
  some ⟨.strct [(0, 12), (1, 12), (2, 25), (3, 167), (4, 5), (5, 5), (6, 168), (7, 169), (8, 170), (9, 171), (10, 172)], 11, 48, [.int .u64 0, .int .u64 0, .int .u32 0, .int .u8 0, .int .u8 0, .int .u8 0, .int .u8 0, .nilf, .nilp, .int .i32 0, .int .i32 0], false⟩,
  some ⟨.strct [(0, 12), (1, 12), (2, 25), (3, 167), (4, 5), (5, 5), (6, 168), (7, 169), (8, 170), (9, 171), (10, 172)], 11, 48, [.int .u64 0, .int .u64 0, .int .u32 0, .int .u8 0, .int .u8 0, .int .u8 0, .int .u8 0, .nilf, .nilp, .int .i32 0, .int .i32 0], false⟩,
  none]
def E : Env := { fn := getT fnTab, ty := getT tyTab, prim := primT, grd := grdT, ext := fun i => i == 106, glob := fun _ => none }
@[simp] theorem E_ext (i) : E.ext i = (i == 106) := id rfl
def E0 : Env := { E with prim := fun _ => none }
@[simp] theorem E_prim (i) : E.prim i = primT i := rfl
@[simp] theorem E_glob (i) : E.glob i = none := rfl
@[simp] theorem ntmps_5 : fn5.ntmps = 147 := rfl
@[simp] theorem results_5 : fn5.results = [.tmp 4] := rfl
theorem body_5 : fn5.body = c5 := rfl
@[simp] theorem dyn_5 : fn5.dyn = fun _ => [] := id rfl
@[simp] theorem opn_5 : fn5.opn = fun _ => none := id rfl
@[simp] theorem keep_5_0 : fn5.keep 0 = some [1, 2] := rfl
@[simp] theorem keep_5_1 : fn5.keep 1 = some [1, 2, 17] := rfl
@[simp] theorem keep_5_2 : fn5.keep 2 = some [4] := rfl
@[simp] theorem keep_5_3 : fn5.keep 3 = some [1, 5] := rfl
@[simp] theorem keep_5_4 : fn5.keep 4 = some [1, 5, 6, 7] := rfl
@[simp] theorem keep_5_5 : fn5.keep 5 = some [1, 6, 7, 8] := rfl
@[simp] theorem keep_5_6 : fn5.keep 6 = some [1, 6, 7, 8, 9] := rfl
@[simp] theorem keep_5_7 : fn5.keep 7 = some [1, 6, 7, 8, 9, 31] := rfl
@[simp] theorem keep_5_8 : fn5.keep 8 = some [1, 6, 7, 8, 9] := rfl
@[simp] theorem keep_5_9 : fn5.keep 9 = some [1, 6, 7, 8, 9, 48] := rfl
@[simp] theorem keep_5_10 : fn5.keep 10 = some [4] := rfl
@[simp] theorem keep_5_11 : fn5.keep 11 = some [1, 6, 7, 8, 9] := rfl
@[simp] theorem keep_5_12 : fn5.keep 12 = some [8, 84] := rfl
@[simp] theorem keep_5_13 : fn5.keep 13 = some [4] := rfl
@[simp] theorem keep_5_14 : fn5.keep 14 = some [8, 10, 11, 12] := rfl
@[simp] theorem keep_5_15 : fn5.keep 15 = some [8, 10, 11, 12, 13] := rfl
@[simp] theorem keep_5_16 : fn5.keep 16 = some [8, 10, 11, 12, 13, 92] := rfl
@[simp] theorem keep_5_17 : fn5.keep 17 = some [8, 10, 11, 12, 13] := rfl
@[simp] theorem keep_5_18 : fn5.keep 18 = some [8, 10, 11, 12, 13] := rfl
@[simp] theorem keep_5_19 : fn5.keep 19 = some [8, 10, 11, 12, 13] := rfl
@[simp] theorem keep_5_20 : fn5.keep 20 = some [8, 10, 11, 12, 13] := rfl
@[simp] theorem keep_5_21 : fn5.keep 21 = some [8, 10, 11, 12, 14] := rfl
@[simp] theorem keep_5_22 : fn5.keep 22 = some [4] := rfl
@[simp] theorem head_5_7 : fn5.head 7 = some [1, 6, 7, 8, 9] := rfl
@[simp] theorem head_5_16 : fn5.head 16 = some [8, 10, 11, 12, 13] := rfl
@[simp] theorem ntmps_9 : fn9.ntmps = 123 := rfl
@[simp] theorem results_9 : fn9.results = [.tmp 2] := rfl
theorem body_9 : fn9.body = c9 := rfl
@[simp] theorem dyn_9 : fn9.dyn = fun _ => [] := id rfl
@[simp] theorem opn_9 : fn9.opn = fun _ => none := id rfl
@[simp] theorem keep_9_0 : fn9.keep 0 = some [1] := rfl
@[simp] theorem keep_9_1 : fn9.keep 1 = some [1, 12] := rfl
@[simp] theorem keep_9_2 : fn9.keep 2 = some [2] := rfl
@[simp] theorem keep_9_3 : fn9.keep 3 = some [1, 3, 4] := rfl
@[simp] theorem keep_9_4 : fn9.keep 4 = some [1, 3, 4, 5, 6] := rfl
@[simp] theorem keep_9_5 : fn9.keep 5 = some [1, 3, 5, 46] := rfl
@[simp] theorem keep_9_6 : fn9.keep 6 = some [2] := rfl
@[simp] theorem keep_9_7 : fn9.keep 7 = some [1, 3, 5, 48] := rfl
@[simp] theorem keep_9_8 : fn9.keep 8 = some [1, 5, 7] := rfl
@[simp] theorem keep_9_9 : fn9.keep 9 = some [2] := rfl
@[simp] theorem keep_9_10 : fn9.keep 10 = some [1, 3, 5, 8, 9] := rfl
@[simp] theorem keep_9_11 : fn9.keep 11 = some [2] := rfl
@[simp] theorem ntmps_18 : fn18.ntmps = 122 := rfl
@[simp] theorem results_18 : fn18.results = [.tmp 0] := rfl
theorem body_18 : fn18.body = c18 := rfl
@[simp] theorem dyn_18 : fn18.dyn = fun _ => [] := id rfl
@[simp] theorem opn_18 : fn18.opn = fun _ => none := id rfl
@[simp] theorem keep_18_0 : fn18.keep 0 = some [] := rfl
@[simp] theorem keep_18_1 : fn18.keep 1 = some [1] := rfl
@[simp] theorem keep_18_2 : fn18.keep 2 = some [1, 2] := rfl
@[simp] theorem keep_18_3 : fn18.keep 3 = some [1, 2, 3] := rfl
@[simp] theorem keep_18_4 : fn18.keep 4 = some [1, 2, 3, 31] := rfl
@[simp] theorem keep_18_5 : fn18.keep 5 = some [0] := rfl
@[simp] theorem keep_18_6 : fn18.keep 6 = some [1, 2, 3, 4, 5] := rfl
@[simp] theorem keep_18_7 : fn18.keep 7 = some [1, 2, 3, 4, 5, 7] := rfl
@[simp] theorem keep_18_8 : fn18.keep 8 = some [1, 2, 3, 4, 5, 7, 9, 11] := rfl
@[simp] theorem keep_18_9 : fn18.keep 9 = some [1, 2, 3, 76] := rfl
@[simp] theorem keep_18_10 : fn18.keep 10 = some [0] := rfl
@[simp] theorem keep_18_11 : fn18.keep 11 = some [1, 3, 109] := rfl
@[simp] theorem keep_18_12 : fn18.keep 12 = some [0] := rfl
@[simp] theorem keep_18_13 : fn18.keep 13 = some [0] := rfl
@[simp] theorem ntmps_20 : fn20.ntmps = 40 := rfl
@[simp] theorem results_20 : fn20.results = [.tmp 8] := rfl
theorem body_20 : fn20.body = c20 := rfl
@[simp] theorem dyn_20 : fn20.dyn = fun _ => [] := id rfl
@[simp] theorem opn_20 : fn20.opn = fun _ => none := id rfl
@[simp] theorem keep_20_0 : fn20.keep 0 = some [0, 2, 3, 5] := rfl
@[simp] theorem keep_20_1 : fn20.keep 1 = some [2, 3, 5, 9, 10, 11] := rfl
@[simp] theorem keep_20_2 : fn20.keep 2 = some [8] := rfl
@[simp] theorem ntmps_21 : fn21.ntmps = 19 := rfl
@[simp] theorem results_21 : fn21.results = [.tmp 2, .tmp 3] := rfl
theorem body_21 : fn21.body = c21 := rfl
@[simp] theorem dyn_21_7 : fn21.dyn 7 = [(3, 3)] := id rfl

@[simp] theorem opn_21 : fn21.opn = opnT := id rfl
@[simp] theorem keep_21_0 : fn21.keep 0 = some [1] := rfl
@[simp] theorem keep_21_1 : fn21.keep 1 = some [1, 4] := rfl
@[simp] theorem keep_21_2 : fn21.keep 2 = some [1, 4, 9] := rfl
@[simp] theorem keep_21_3 : fn21.keep 3 = some [2, 3] := rfl
@[simp] theorem keep_21_4 : fn21.keep 4 = some [1, 5] := rfl
@[simp] theorem keep_21_5 : fn21.keep 5 = some [1, 5, 14] := rfl
@[simp] theorem keep_21_6 : fn21.keep 6 = some [2, 3] := rfl
@[simp] theorem keep_21_7 : fn21.keep 7 = some [2, 3] := rfl
@[simp] theorem ntmps_22 : fn22.ntmps = 102 := rfl
@[simp] theorem results_22 : fn22.results = [.cell 2 30] := rfl
theorem body_22 : fn22.body = c22 := rfl
@[simp] theorem dyn_22_9 : fn22.dyn 9 = [] := id rfl
@[simp] theorem dyn_22_16 : fn22.dyn 16 = [] := id rfl
@[simp] theorem dyn_22_18 : fn22.dyn 18 = [(7, 8)] := id rfl

@[simp] theorem opn_22 : fn22.opn = fun _ => none := id rfl
@[simp] theorem keep_22_0 : fn22.keep 0 = some [1, 2] := rfl
@[simp] theorem keep_22_1 : fn22.keep 1 = some [1, 2, 3] := rfl
@[simp] theorem keep_22_2 : fn22.keep 2 = some [1, 2, 3, 4] := rfl
@[simp] theorem keep_22_3 : fn22.keep 3 = some [1, 2, 3, 4, 17] := rfl
@[simp] theorem keep_22_4 : fn22.keep 4 = some [1, 2, 3, 4] := rfl
@[simp] theorem keep_22_5 : fn22.keep 5 = some [1, 2, 3, 4, 5] := rfl
@[simp] theorem keep_22_6 : fn22.keep 6 = some [1, 2, 3, 4, 5, 28] := rfl
@[simp] theorem keep_22_7 : fn22.keep 7 = some [1, 2, 3, 4, 5] := rfl
@[simp] theorem keep_22_8 : fn22.keep 8 = some [1, 2, 3, 4, 5, 6] := rfl
@[simp] theorem keep_22_9 : fn22.keep 9 = some [1, 2, 3, 4, 6] := rfl
@[simp] theorem keep_22_10 : fn22.keep 10 = some [1, 2, 3, 4] := rfl
@[simp] theorem keep_22_11 : fn22.keep 11 = some [1, 2, 3, 4, 5] := rfl
@[simp] theorem keep_22_12 : fn22.keep 12 = some [1, 2, 3, 4, 5, 7] := rfl
@[simp] theorem keep_22_13 : fn22.keep 13 = some [1, 2, 3, 4, 5, 7, 62] := rfl
@[simp] theorem keep_22_14 : fn22.keep 14 = some [1, 2, 3, 4, 5, 7] := rfl
@[simp] theorem keep_22_15 : fn22.keep 15 = some [1, 2, 3, 4, 7, 8] := rfl
@[simp] theorem keep_22_16 : fn22.keep 16 = some [1, 2, 3, 4, 7, 8] := rfl
@[simp] theorem keep_22_17 : fn22.keep 17 = some [1, 2, 3, 4, 7, 8, 81] := rfl
@[simp] theorem keep_22_18 : fn22.keep 18 = some [1, 2, 3, 4] := rfl
@[simp] theorem keep_22_19 : fn22.keep 19 = some [2, 3, 95] := rfl
@[simp] theorem keep_22_20 : fn22.keep 20 = some [2] := rfl
@[simp] theorem keep_22_21 : fn22.keep 21 = some [2] := rfl
@[simp] theorem head_22_3 : fn22.head 3 = some [1, 2, 3, 4] := rfl
@[simp] theorem ntmps_23 : fn23.ntmps = 22 := rfl
@[simp] theorem results_23 : fn23.results = [.cell 2 30, .cell 3 3, .cell 4 3, .cell 5 34] := rfl
@[simp] theorem dyn_23_6 : fn23.dyn 6 = [(1, 2)] := id rfl

@[simp] theorem opn_23 : fn23.opn = opnT := id rfl
@[simp] theorem keep_23_0 : fn23.keep 0 = some [0, 2, 3, 4, 5] := rfl
@[simp] theorem keep_23_1 : fn23.keep 1 = some [0, 2, 3, 4, 5, 9] := rfl
@[simp] theorem keep_23_2 : fn23.keep 2 = some [2, 3, 4, 5] := rfl
@[simp] theorem keep_23_3 : fn23.keep 3 = some [0, 2, 3, 4, 5] := rfl
@[simp] theorem keep_23_4 : fn23.keep 4 = some [0, 2, 3, 4, 5, 6] := rfl
@[simp] theorem keep_23_5 : fn23.keep 5 = some [2, 3, 4, 5] := rfl
@[simp] theorem keep_23_6 : fn23.keep 6 = some [2, 3, 4, 5] := rfl
@[simp] theorem ntmps_24 : fn24.ntmps = 48 := rfl
@[simp] theorem results_24 : fn24.results = [.tmp 4] := rfl
theorem body_24 : fn24.body = c24 := rfl
@[simp] theorem dyn_24 : fn24.dyn = fun _ => [] := id rfl
@[simp] theorem opn_24 : fn24.opn = fun _ => none := id rfl
@[simp] theorem keep_24_0 : fn24.keep 0 = some [2, 3] := rfl
@[simp] theorem keep_24_1 : fn24.keep 1 = some [2, 3, 28] := rfl
@[simp] theorem keep_24_2 : fn24.keep 2 = some [4] := rfl
@[simp] theorem keep_24_3 : fn24.keep 3 = some [2, 3, 5] := rfl
@[simp] theorem keep_24_4 : fn24.keep 4 = some [2, 3, 5, 33] := rfl
@[simp] theorem keep_24_5 : fn24.keep 5 = some [2, 3, 5] := rfl
@[simp] theorem keep_24_6 : fn24.keep 6 = some [2, 3, 5, 47] := rfl
@[simp] theorem keep_24_7 : fn24.keep 7 = some [4] := rfl
@[simp] theorem keep_24_8 : fn24.keep 8 = some [4] := rfl
@[simp] theorem head_24_4 : fn24.head 4 = some [2, 3, 5] := rfl
@[simp] theorem ntmps_25 : fn25.ntmps = 39 := rfl
@[simp] theorem results_25 : fn25.results = [.cell 4 30, .tmp 5] := rfl
theorem body_25 : fn25.body = c25 := rfl
@[simp] theorem dyn_25 : fn25.dyn = fun _ => [] := id rfl
@[simp] theorem opn_25 : fn25.opn = fun _ => none := id rfl
@[simp] theorem keep_25_0 : fn25.keep 0 = some [1, 2, 4] := rfl
@[simp] theorem keep_25_1 : fn25.keep 1 = some [1, 2, 4, 6] := rfl
@[simp] theorem keep_25_2 : fn25.keep 2 = some [1, 2, 4, 6, 12] := rfl
@[simp] theorem keep_25_3 : fn25.keep 3 = some [4, 5] := rfl
@[simp] theorem keep_25_4 : fn25.keep 4 = some [2, 4, 15, 16, 17] := rfl
@[simp] theorem keep_25_5 : fn25.keep 5 = some [2, 4, 15, 16, 17, 18] := rfl
@[simp] theorem keep_25_6 : fn25.keep 6 = some [2, 4, 8, 15, 16, 17] := rfl
@[simp] theorem keep_25_7 : fn25.keep 7 = some [2, 4, 8, 15, 16, 17, 29] := rfl
@[simp] theorem keep_25_8 : fn25.keep 8 = some [4, 5] := rfl
@[simp] theorem keep_25_9 : fn25.keep 9 = some [2, 4, 15, 16, 17] := rfl
@[simp] theorem keep_25_10 : fn25.keep 10 = some [2, 4, 15, 16, 17] := rfl
@[simp] theorem keep_25_11 : fn25.keep 11 = some [4, 5] := rfl
@[simp] theorem head_25_5 : fn25.head 5 = some [2, 4, 15, 16, 17] := rfl
@[simp] theorem ntmps_26 : fn26.ntmps = 33 := rfl
@[simp] theorem results_26 : fn26.results = [.tmp 4] := rfl
theorem body_26 : fn26.body = c26 := rfl
@[simp] theorem dyn_26 : fn26.dyn = fun _ => [] := id rfl
@[simp] theorem opn_26 : fn26.opn = fun _ => none := id rfl
@[simp] theorem keep_26_0 : fn26.keep 0 = some [1, 2] := rfl
@[simp] theorem keep_26_1 : fn26.keep 1 = some [1, 2, 8] := rfl
@[simp] theorem keep_26_2 : fn26.keep 2 = some [4] := rfl
@[simp] theorem keep_26_3 : fn26.keep 3 = some [1, 2, 5] := rfl
@[simp] theorem keep_26_4 : fn26.keep 4 = some [1, 2, 5, 6] := rfl
@[simp] theorem keep_26_5 : fn26.keep 5 = some [1, 2, 5, 6, 18] := rfl
@[simp] theorem keep_26_6 : fn26.keep 6 = some [1, 2, 5, 6] := rfl
@[simp] theorem keep_26_7 : fn26.keep 7 = some [1, 2, 5, 6] := rfl
@[simp] theorem keep_26_8 : fn26.keep 8 = some [4] := rfl
@[simp] theorem head_26_5 : fn26.head 5 = some [1, 2, 5, 6] := rfl
@[simp] theorem ntmps_27 : fn27.ntmps = 34 := rfl
@[simp] theorem results_27 : fn27.results = [.tmp 2] := rfl
theorem body_27 : fn27.body = c27 := rfl
@[simp] theorem dyn_27 : fn27.dyn = fun _ => [] := id rfl
@[simp] theorem opn_27 : fn27.opn = fun _ => none := id rfl
@[simp] theorem keep_27_0 : fn27.keep 0 = some [1] := rfl
@[simp] theorem keep_27_1 : fn27.keep 1 = some [1, 19] := rfl
@[simp] theorem keep_27_2 : fn27.keep 2 = some [2] := rfl
@[simp] theorem keep_27_3 : fn27.keep 3 = some [1, 3] := rfl
@[simp] theorem keep_27_4 : fn27.keep 4 = some [1, 3, 24] := rfl
@[simp] theorem keep_27_5 : fn27.keep 5 = some [1, 3] := rfl
@[simp] theorem keep_27_6 : fn27.keep 6 = some [1, 3, 33] := rfl
@[simp] theorem keep_27_7 : fn27.keep 7 = some [2] := rfl
@[simp] theorem keep_27_8 : fn27.keep 8 = some [2] := rfl
@[simp] theorem head_27_4 : fn27.head 4 = some [1, 3] := rfl
@[simp] theorem ntmps_28 : fn28.ntmps = 12 := rfl
@[simp] theorem results_28 : fn28.results = [.tmp 2] := rfl
theorem body_28 : fn28.body = c28 := rfl
@[simp] theorem dyn_28 : fn28.dyn = fun _ => [] := id rfl
@[simp] theorem opn_28 : fn28.opn = fun _ => none := id rfl
@[simp] theorem keep_28_0 : fn28.keep 0 = some [1] := rfl
@[simp] theorem keep_28_1 : fn28.keep 1 = some [1, 6] := rfl
@[simp] theorem keep_28_2 : fn28.keep 2 = some [2] := rfl
@[simp] theorem keep_28_3 : fn28.keep 3 = some [3] := rfl
@[simp] theorem keep_28_4 : fn28.keep 4 = some [3, 10] := rfl
@[simp] theorem keep_28_5 : fn28.keep 5 = some [2] := rfl
@[simp] theorem keep_28_6 : fn28.keep 6 = some [2] := rfl
@[simp] theorem ntmps_29 : fn29.ntmps = 13 := rfl
@[simp] theorem results_29 : fn29.results = [.tmp 2] := rfl
theorem body_29 : fn29.body = c29 := rfl
@[simp] theorem dyn_29 : fn29.dyn = fun _ => [] := id rfl
@[simp] theorem opn_29 : fn29.opn = fun _ => none := id rfl
@[simp] theorem keep_29_0 : fn29.keep 0 = some [1] := rfl
@[simp] theorem keep_29_1 : fn29.keep 1 = some [4] := rfl
@[simp] theorem keep_29_2 : fn29.keep 2 = some [2] := rfl
@[simp] theorem ntmps_30 : fn30.ntmps = 13 := rfl
@[simp] theorem results_30 : fn30.results = [.tmp 2] := rfl
theorem body_30 : fn30.body = c30 := rfl
@[simp] theorem dyn_30 : fn30.dyn = fun _ => [] := id rfl
@[simp] theorem opn_30 : fn30.opn = fun _ => none := id rfl
@[simp] theorem keep_30_0 : fn30.keep 0 = some [1] := rfl
@[simp] theorem keep_30_1 : fn30.keep 1 = some [5] := rfl
@[simp] theorem keep_30_2 : fn30.keep 2 = some [2] := rfl
@[simp] theorem ntmps_32 : fn32.ntmps = 13 := rfl
@[simp] theorem results_32 : fn32.results = [.tmp 2] := rfl
theorem body_32 : fn32.body = c32 := rfl
@[simp] theorem dyn_32 : fn32.dyn = fun _ => [] := id rfl
@[simp] theorem opn_32 : fn32.opn = fun _ => none := id rfl
@[simp] theorem keep_32_0 : fn32.keep 0 = some [1] := rfl
@[simp] theorem keep_32_1 : fn32.keep 1 = some [3] := rfl
@[simp] theorem keep_32_2 : fn32.keep 2 = some [2] := rfl
@[simp] theorem ntmps_34 : fn34.ntmps = 27 := rfl
@[simp] theorem results_34 : fn34.results = [.cell 2 30, .tmp 3, .tmp 4] := rfl
theorem body_34 : fn34.body = c34 := rfl
@[simp] theorem dyn_34 : fn34.dyn = fun _ => [] := id rfl
@[simp] theorem opn_34 : fn34.opn = fun _ => none := id rfl
@[simp] theorem keep_34_0 : fn34.keep 0 = some [0, 2] := rfl
@[simp] theorem keep_34_1 : fn34.keep 1 = some [0, 2, 3, 4, 5] := rfl
@[simp] theorem keep_34_2 : fn34.keep 2 = some [0, 2, 3, 4, 5, 13] := rfl
@[simp] theorem keep_34_3 : fn34.keep 3 = some [2, 3, 4] := rfl
@[simp] theorem keep_34_4 : fn34.keep 4 = some [2, 5, 19] := rfl
@[simp] theorem keep_34_5 : fn34.keep 5 = some [2, 3, 4] := rfl
@[simp] theorem keep_34_6 : fn34.keep 6 = some [2, 3, 4] := rfl
@[simp] theorem ntmps_35 : fn35.ntmps = 33 := rfl
@[simp] theorem results_35 : fn35.results = [.tmp 2] := rfl
theorem body_35 : fn35.body = c35 := rfl
@[simp] theorem dyn_35 : fn35.dyn = fun _ => [] := id rfl
@[simp] theorem opn_35 : fn35.opn = opnT := id rfl
@[simp] theorem keep_35_0 : fn35.keep 0 = some [1] := rfl
@[simp] theorem keep_35_1 : fn35.keep 1 = some [1, 3] := rfl
@[simp] theorem keep_35_2 : fn35.keep 2 = some [1, 3, 4] := rfl
@[simp] theorem keep_35_3 : fn35.keep 3 = some [1, 3, 4, 13] := rfl
@[simp] theorem keep_35_4 : fn35.keep 4 = some [1, 3, 4] := rfl
@[simp] theorem keep_35_5 : fn35.keep 5 = some [1, 3, 4] := rfl
@[simp] theorem keep_35_6 : fn35.keep 6 = some [2] := rfl
@[simp] theorem head_35_3 : fn35.head 3 = some [1, 3, 4] := rfl
@[simp] theorem ntmps_36 : fn36.ntmps = 18 := rfl
@[simp] theorem results_36 : fn36.results = [.tmp 4] := rfl
theorem body_36 : fn36.body = c36 := rfl
@[simp] theorem dyn_36 : fn36.dyn = fun _ => [] := id rfl
@[simp] theorem opn_36 : fn36.opn = fun _ => none := id rfl
@[simp] theorem keep_36_0 : fn36.keep 0 = some [2, 3] := rfl
@[simp] theorem keep_36_1 : fn36.keep 1 = some [4] := rfl
@[simp] theorem ntmps_37 : fn37.ntmps = 22 := rfl
@[simp] theorem results_37 : fn37.results = [.tmp 4] := rfl
theorem body_37 : fn37.body = c37 := rfl
@[simp] theorem dyn_37 : fn37.dyn = fun _ => [] := id rfl
@[simp] theorem opn_37 : fn37.opn = fun _ => none := id rfl
@[simp] theorem keep_37_0 : fn37.keep 0 = some [2, 3] := rfl
@[simp] theorem keep_37_1 : fn37.keep 1 = some [3, 5] := rfl
@[simp] theorem keep_37_2 : fn37.keep 2 = some [5, 7] := rfl
@[simp] theorem keep_37_3 : fn37.keep 3 = some [4] := rfl
@[simp] theorem ntmps_38 : fn38.ntmps = 25 := rfl
@[simp] theorem results_38 : fn38.results = [.tmp 2] := rfl
theorem body_38 : fn38.body = c38 := rfl
@[simp] theorem dyn_38 : fn38.dyn = fun _ => [] := id rfl
@[simp] theorem opn_38 : fn38.opn = fun _ => none := id rfl
@[simp] theorem keep_38_0 : fn38.keep 0 = some [1] := rfl
@[simp] theorem keep_38_1 : fn38.keep 1 = some [1, 6] := rfl
@[simp] theorem keep_38_2 : fn38.keep 2 = some [2] := rfl
@[simp] theorem keep_38_3 : fn38.keep 3 = some [1, 10] := rfl
@[simp] theorem keep_38_4 : fn38.keep 4 = some [2] := rfl
@[simp] theorem keep_38_5 : fn38.keep 5 = some [1, 3] := rfl
@[simp] theorem keep_38_6 : fn38.keep 6 = some [1, 3, 15] := rfl
@[simp] theorem keep_38_7 : fn38.keep 7 = some [1, 3] := rfl
@[simp] theorem keep_38_8 : fn38.keep 8 = some [1, 3, 24] := rfl
@[simp] theorem keep_38_9 : fn38.keep 9 = some [2] := rfl
@[simp] theorem keep_38_10 : fn38.keep 10 = some [2] := rfl
@[simp] theorem head_38_6 : fn38.head 6 = some [1, 3] := rfl
@[simp] theorem ntmps_39 : fn39.ntmps = 70 := rfl
@[simp] theorem results_39 : fn39.results = [.tmp 6, .tmp 7] := rfl
theorem body_39 : fn39.body = c39 := rfl
@[simp] theorem dyn_39 : fn39.dyn = fun _ => [] := id rfl
@[simp] theorem opn_39 : fn39.opn = fun _ => none := id rfl
@[simp] theorem keep_39_0 : fn39.keep 0 = some [1, 2, 3] := rfl
@[simp] theorem keep_39_1 : fn39.keep 1 = some [1, 2, 3, 8] := rfl
@[simp] theorem keep_39_2 : fn39.keep 2 = some [1, 2, 3, 8, 17] := rfl
@[simp] theorem keep_39_3 : fn39.keep 3 = some [6, 7] := rfl
@[simp] theorem keep_39_4 : fn39.keep 4 = some [1, 2, 3, 39] := rfl
@[simp] theorem keep_39_5 : fn39.keep 5 = some [6, 7] := rfl
@[simp] theorem keep_39_6 : fn39.keep 6 = some [1, 2, 3, 41] := rfl
@[simp] theorem keep_39_7 : fn39.keep 7 = some [6, 7] := rfl
@[simp] theorem keep_39_8 : fn39.keep 8 = some [1, 2, 3, 43] := rfl
@[simp] theorem keep_39_9 : fn39.keep 9 = some [6, 7] := rfl
@[simp] theorem keep_39_10 : fn39.keep 10 = some [1, 3, 9] := rfl
@[simp] theorem keep_39_11 : fn39.keep 11 = some [1, 3, 9, 10] := rfl
@[simp] theorem keep_39_12 : fn39.keep 12 = some [1, 3, 9, 10, 50] := rfl
@[simp] theorem keep_39_13 : fn39.keep 13 = some [1, 3, 9, 10] := rfl
@[simp] theorem keep_39_14 : fn39.keep 14 = some [1, 3, 10, 11, 12] := rfl
@[simp] theorem keep_39_15 : fn39.keep 15 = some [1, 3, 10, 11, 12, 66] := rfl
@[simp] theorem keep_39_16 : fn39.keep 16 = some [6, 7] := rfl
@[simp] theorem keep_39_17 : fn39.keep 17 = some [1, 3, 9, 10] := rfl
@[simp] theorem keep_39_18 : fn39.keep 18 = some [6, 7] := rfl
@[simp] theorem head_39_12 : fn39.head 12 = some [1, 3, 9, 10] := rfl
@[simp] theorem ntmps_40 : fn40.ntmps = 22 := rfl
@[simp] theorem results_40 : fn40.results = [.tmp 2] := rfl
theorem body_40 : fn40.body = c40 := rfl
@[simp] theorem dyn_40 : fn40.dyn = fun _ => [] := id rfl
@[simp] theorem opn_40 : fn40.opn = fun _ => none := id rfl
@[simp] theorem keep_40_0 : fn40.keep 0 = some [1] := rfl
@[simp] theorem keep_40_1 : fn40.keep 1 = some [1, 3] := rfl
@[simp] theorem keep_40_2 : fn40.keep 2 = some [1, 3, 4] := rfl
@[simp] theorem keep_40_3 : fn40.keep 3 = some [1, 3, 4, 9] := rfl
@[simp] theorem keep_40_4 : fn40.keep 4 = some [1, 3, 4] := rfl
@[simp] theorem keep_40_5 : fn40.keep 5 = some [1, 3, 4] := rfl
@[simp] theorem keep_40_6 : fn40.keep 6 = some [2] := rfl
@[simp] theorem head_40_3 : fn40.head 3 = some [1, 3, 4] := rfl
@[simp] theorem ntmps_41 : fn41.ntmps = 9 := rfl
@[simp] theorem results_41 : fn41.results = [.cell 0 30] := rfl
theorem body_41 : fn41.body = c41 := rfl
@[simp] theorem dyn_41 : fn41.dyn = fun _ => [] := id rfl
@[simp] theorem opn_41 : fn41.opn = fun _ => none := id rfl
@[simp] theorem keep_41_0 : fn41.keep 0 = some [0] := rfl
@[simp] theorem keep_41_1 : fn41.keep 1 = some [0] := rfl
@[simp] theorem ntmps_69 : fn69.ntmps = 14 := rfl
@[simp] theorem results_69 : fn69.results = [.tmp 2] := rfl
theorem body_69 : fn69.body = c69 := rfl
@[simp] theorem dyn_69 : fn69.dyn = fun _ => [] := id rfl
@[simp] theorem opn_69 : fn69.opn = fun _ => none := id rfl
@[simp] theorem keep_69_0 : fn69.keep 0 = some [1] := rfl
@[simp] theorem keep_69_1 : fn69.keep 1 = some [1, 3] := rfl
@[simp] theorem keep_69_2 : fn69.keep 2 = some [1, 3, 7] := rfl
@[simp] theorem keep_69_3 : fn69.keep 3 = some [2] := rfl
@[simp] theorem keep_69_4 : fn69.keep 4 = some [2] := rfl
@[simp] theorem ntmps_70 : fn70.ntmps = 44 := rfl
@[simp] theorem results_70 : fn70.results = [.tmp 4] := rfl
theorem body_70 : fn70.body = c70 := rfl
@[simp] theorem dyn_70 : fn70.dyn = fun _ => [] := id rfl
@[simp] theorem opn_70 : fn70.opn = opnT := id rfl
@[simp] theorem keep_70_0 : fn70.keep 0 = some [0, 3] := rfl
@[simp] theorem keep_70_1 : fn70.keep 1 = some [0, 3, 5] := rfl
@[simp] theorem keep_70_2 : fn70.keep 2 = some [0, 3, 5, 7] := rfl
@[simp] theorem keep_70_3 : fn70.keep 3 = some [0, 3] := rfl
@[simp] theorem keep_70_4 : fn70.keep 4 = some [0, 3] := rfl
@[simp] theorem keep_70_5 : fn70.keep 5 = some [0, 33, 34, 35] := rfl
@[simp] theorem keep_70_6 : fn70.keep 6 = some [0, 33, 34, 35, 36] := rfl
@[simp] theorem keep_70_7 : fn70.keep 7 = some [0, 10, 33, 34, 35] := rfl
@[simp] theorem keep_70_8 : fn70.keep 8 = some [0, 33, 34, 35] := rfl
@[simp] theorem keep_70_9 : fn70.keep 9 = some [0, 33, 34, 35] := rfl
@[simp] theorem keep_70_10 : fn70.keep 10 = some [4] := rfl
@[simp] theorem head_70_6 : fn70.head 6 = some [0, 33, 34, 35] := rfl
@[simp] theorem ntmps_71 : fn71.ntmps = 20 := rfl
@[simp] theorem results_71 : fn71.results = [.cell 2 27] := rfl
theorem body_71 : fn71.body = c71 := rfl
@[simp] theorem dyn_71 : fn71.dyn = fun _ => [] := id rfl
@[simp] theorem opn_71 : fn71.opn = fun _ => none := id rfl
@[simp] theorem keep_71_0 : fn71.keep 0 = some [1, 2] := rfl
@[simp] theorem keep_71_1 : fn71.keep 1 = some [2, 3] := rfl
@[simp] theorem keep_71_2 : fn71.keep 2 = some [2, 3, 17] := rfl
@[simp] theorem keep_71_3 : fn71.keep 3 = some [2, 3] := rfl
@[simp] theorem keep_71_4 : fn71.keep 4 = some [2] := rfl
@[simp] theorem ntmps_72 : fn72.ntmps = 23 := rfl
@[simp] theorem results_72 : fn72.results = [] := rfl
theorem body_72 : fn72.body = c72 := rfl
@[simp] theorem dyn_72_5 : fn72.dyn 5 = [(2, 5), (4, 5), (2, 6), (4, 6), (4, 7)] := id rfl

@[simp] theorem opn_72 : fn72.opn = fun _ => none := id rfl
@[simp] theorem keep_72_0 : fn72.keep 0 = some [0, 1, 2, 3, 4] := rfl
@[simp] theorem keep_72_1 : fn72.keep 1 = some [0, 1, 2, 3, 4, 9] := rfl
@[simp] theorem keep_72_2 : fn72.keep 2 = some [0, 1, 2, 3, 4, 5, 6] := rfl
@[simp] theorem keep_72_3 : fn72.keep 3 = some [0, 1, 2, 3, 4, 5, 16] := rfl
@[simp] theorem keep_72_4 : fn72.keep 4 = some [0, 1, 2, 3, 5] := rfl
@[simp] theorem keep_72_5 : fn72.keep 5 = some [] := rfl
@[simp] theorem ntmps_73 : fn73.ntmps = 151 := rfl
@[simp] theorem results_73 : fn73.results = [.cell 8 30, .tmp 9] := rfl
theorem body_73 : fn73.body = c73 := rfl
@[simp] theorem dyn_73 : fn73.dyn = fun _ => [] := id rfl
@[simp] theorem opn_73 : fn73.opn = opnT := id rfl
@[simp] theorem keep_73_0 : fn73.keep 0 = some [0, 1, 2, 3, 8] := rfl
@[simp] theorem keep_73_1 : fn73.keep 1 = some [0, 1, 2, 3, 8, 10, 11, 12] := rfl
@[simp] theorem keep_73_2 : fn73.keep 2 = some [0, 1, 2, 3, 8, 10, 11, 12, 28] := rfl
@[simp] theorem keep_73_3 : fn73.keep 3 = some [0, 1, 2, 3, 8, 10, 11] := rfl
@[simp] theorem keep_73_4 : fn73.keep 4 = some [0, 1, 2, 3, 8, 10, 11, 12, 35] := rfl
@[simp] theorem keep_73_5 : fn73.keep 5 = some [0, 1, 2, 3, 8, 10, 11] := rfl
@[simp] theorem keep_73_6 : fn73.keep 6 = some [0, 1, 2, 3, 8, 10, 11, 42] := rfl
@[simp] theorem keep_73_7 : fn73.keep 7 = some [0, 1, 2, 3, 8, 10, 11] := rfl
@[simp] theorem keep_73_8 : fn73.keep 8 = some [0, 1, 2, 3, 8, 10, 11, 48] := rfl
@[simp] theorem keep_73_9 : fn73.keep 9 = some [0, 1, 2, 3, 8, 10, 11] := rfl
@[simp] theorem keep_73_10 : fn73.keep 10 = some [0, 1, 2, 3, 8, 10, 11] := rfl
@[simp] theorem keep_73_11 : fn73.keep 11 = some [0, 1, 2, 3, 8, 10] := rfl
@[simp] theorem keep_73_12 : fn73.keep 12 = some [0, 1, 2, 3, 8, 10, 11, 12, 13] := rfl
@[simp] theorem keep_73_13 : fn73.keep 13 = some [0, 1, 2, 3, 8, 10, 11, 12, 13, 79] := rfl
@[simp] theorem keep_73_14 : fn73.keep 14 = some [0, 1, 3, 8, 10, 11, 13] := rfl
@[simp] theorem keep_73_15 : fn73.keep 15 = some [0, 1, 2, 3, 8, 10, 11, 12, 13, 86] := rfl
@[simp] theorem keep_73_16 : fn73.keep 16 = some [0, 1, 3, 8, 10, 11, 13] := rfl
@[simp] theorem keep_73_17 : fn73.keep 17 = some [0, 1, 2, 3, 8, 10, 11, 13, 93] := rfl
@[simp] theorem keep_73_18 : fn73.keep 18 = some [0, 1, 3, 8, 10, 11, 13] := rfl
@[simp] theorem keep_73_19 : fn73.keep 19 = some [0, 1, 3, 8, 10, 13] := rfl
@[simp] theorem keep_73_20 : fn73.keep 20 = some [0, 1, 2, 3, 8, 10] := rfl
@[simp] theorem keep_73_21 : fn73.keep 21 = some [0, 1, 2, 3, 8, 10, 14] := rfl
@[simp] theorem keep_73_22 : fn73.keep 22 = some [0, 1, 2, 3, 8, 14, 114] := rfl
@[simp] theorem keep_73_23 : fn73.keep 23 = some [2, 8, 14] := rfl
@[simp] theorem keep_73_24 : fn73.keep 24 = some [8, 9] := rfl
@[simp] theorem keep_73_25 : fn73.keep 25 = some [0, 1, 2, 3, 8, 14, 129] := rfl
@[simp] theorem keep_73_26 : fn73.keep 26 = some [0, 1, 2, 3, 8, 14, 15] := rfl
@[simp] theorem keep_73_27 : fn73.keep 27 = some [0, 1, 2, 3, 8, 14, 15] := rfl
@[simp] theorem keep_73_28 : fn73.keep 28 = some [0, 1, 2, 3, 8, 14] := rfl
@[simp] theorem keep_73_29 : fn73.keep 29 = some [2, 8, 14] := rfl
@[simp] theorem keep_73_30 : fn73.keep 30 = some [8, 9] := rfl
@[simp] theorem head_73_25 : fn73.head 25 = some [0, 1, 2, 3, 8, 14] := rfl
@[simp] theorem ntmps_74 : fn74.ntmps = 38 := rfl
@[simp] theorem results_74 : fn74.results = [.cell 2 30] := rfl
theorem body_74 : fn74.body = c74 := rfl
@[simp] theorem dyn_74 : fn74.dyn = fun _ => [] := id rfl
@[simp] theorem opn_74 : fn74.opn = fun _ => none := id rfl
@[simp] theorem keep_74_0 : fn74.keep 0 = some [1, 2] := rfl
@[simp] theorem keep_74_1 : fn74.keep 1 = some [1, 2, 3] := rfl
@[simp] theorem keep_74_2 : fn74.keep 2 = some [1, 2, 3, 16] := rfl
@[simp] theorem keep_74_3 : fn74.keep 3 = some [1, 2, 3] := rfl
@[simp] theorem keep_74_4 : fn74.keep 4 = some [2, 3, 23, 24, 25] := rfl
@[simp] theorem keep_74_5 : fn74.keep 5 = some [2, 3, 23, 24, 25, 26] := rfl
@[simp] theorem keep_74_6 : fn74.keep 6 = some [2, 3, 4, 5, 23, 24, 25] := rfl
@[simp] theorem keep_74_7 : fn74.keep 7 = some [2, 3, 23, 24, 25] := rfl
@[simp] theorem keep_74_8 : fn74.keep 8 = some [2, 3, 23, 24, 25] := rfl
@[simp] theorem keep_74_9 : fn74.keep 9 = some [2] := rfl
@[simp] theorem head_74_5 : fn74.head 5 = some [2, 3, 23, 24, 25] := rfl
@[simp] theorem ntmps_75 : fn75.ntmps = 13 := rfl
@[simp] theorem results_75 : fn75.results = [.tmp 2, .cell 3 3, .cell 4 3] := rfl
theorem body_75 : fn75.body = c75 := rfl
@[simp] theorem dyn_75_4 : fn75.dyn 4 = [(1, 3)] := id rfl

@[simp] theorem opn_75 : fn75.opn = opnT := id rfl
@[simp] theorem keep_75_0 : fn75.keep 0 = some [1, 3, 4] := rfl
@[simp] theorem keep_75_1 : fn75.keep 1 = some [2, 3, 4] := rfl
@[simp] theorem keep_75_2 : fn75.keep 2 = some [2, 3, 4, 9] := rfl
@[simp] theorem keep_75_3 : fn75.keep 3 = some [2, 3, 4] := rfl
@[simp] theorem keep_75_4 : fn75.keep 4 = some [2, 3, 4] := rfl
@[simp] theorem ntmps_76 : fn76.ntmps = 31 := rfl
@[simp] theorem results_76 : fn76.results = [.tmp 2] := rfl
theorem body_76 : fn76.body = c76 := rfl
@[simp] theorem dyn_76 : fn76.dyn = fun _ => [] := id rfl
@[simp] theorem opn_76 : fn76.opn = fun _ => none := id rfl
@[simp] theorem keep_76_0 : fn76.keep 0 = some [1] := rfl
@[simp] theorem keep_76_1 : fn76.keep 1 = some [1, 3] := rfl
@[simp] theorem keep_76_2 : fn76.keep 2 = some [1, 3, 9] := rfl
@[simp] theorem keep_76_3 : fn76.keep 3 = some [1, 3] := rfl
@[simp] theorem keep_76_4 : fn76.keep 4 = some [1, 3, 14] := rfl
@[simp] theorem keep_76_5 : fn76.keep 5 = some [2] := rfl
@[simp] theorem keep_76_6 : fn76.keep 6 = some [2] := rfl
@[simp] theorem ntmps_77 : fn77.ntmps = 26 := rfl
@[simp] theorem results_77 : fn77.results = [.tmp 2] := rfl
theorem body_77 : fn77.body = c77 := rfl
@[simp] theorem dyn_77 : fn77.dyn = fun _ => [] := id rfl
@[simp] theorem opn_77 : fn77.opn = fun _ => none := id rfl
@[simp] theorem keep_77_0 : fn77.keep 0 = some [0] := rfl
@[simp] theorem keep_77_1 : fn77.keep 1 = some [0, 5] := rfl
@[simp] theorem keep_77_2 : fn77.keep 2 = some [2] := rfl
@[simp] theorem keep_77_3 : fn77.keep 3 = some [0, 3] := rfl
@[simp] theorem keep_77_4 : fn77.keep 4 = some [0, 3, 10] := rfl
@[simp] theorem keep_77_5 : fn77.keep 5 = some [0, 3] := rfl
@[simp] theorem keep_77_6 : fn77.keep 6 = some [0, 3] := rfl
@[simp] theorem keep_77_7 : fn77.keep 7 = some [2] := rfl
@[simp] theorem head_77_4 : fn77.head 4 = some [0, 3] := rfl
@[simp] theorem ntmps_78 : fn78.ntmps = 24 := rfl
@[simp] theorem results_78 : fn78.results = [.tmp 4] := rfl
theorem body_78 : fn78.body = c78 := rfl
@[simp] theorem dyn_78 : fn78.dyn = fun _ => [] := id rfl
@[simp] theorem opn_78 : fn78.opn = opnT := id rfl
@[simp] theorem keep_78_0 : fn78.keep 0 = some [2, 3] := rfl
@[simp] theorem keep_78_1 : fn78.keep 1 = some [4] := rfl
@[simp] theorem ntmps_79 : fn79.ntmps = 8 := rfl
@[simp] theorem results_79 : fn79.results = [.tmp 4] := rfl
theorem body_79 : fn79.body = c79 := rfl
@[simp] theorem dyn_79 : fn79.dyn = fun _ => [] := id rfl
@[simp] theorem opn_79 : fn79.opn = fun _ => none := id rfl
@[simp] theorem keep_79_0 : fn79.keep 0 = some [0, 1] := rfl
@[simp] theorem keep_79_1 : fn79.keep 1 = some [4] := rfl
@[simp] theorem ntmps_80 : fn80.ntmps = 34 := rfl
@[simp] theorem results_80 : fn80.results = [.tmp 2] := rfl
theorem body_80 : fn80.body = c80 := rfl
@[simp] theorem dyn_80 : fn80.dyn = fun _ => [] := id rfl
@[simp] theorem opn_80 : fn80.opn = fun _ => none := id rfl
@[simp] theorem keep_80_0 : fn80.keep 0 = some [1] := rfl
@[simp] theorem keep_80_1 : fn80.keep 1 = some [1, 10] := rfl
@[simp] theorem keep_80_2 : fn80.keep 2 = some [2] := rfl
@[simp] theorem keep_80_3 : fn80.keep 3 = some [33] := rfl
@[simp] theorem keep_80_4 : fn80.keep 4 = some [2] := rfl
@[simp] theorem keep_80_5 : fn80.keep 5 = some [2] := rfl
@[simp] theorem ntmps_89 : fn89.ntmps = 59 := rfl
@[simp] theorem results_89 : fn89.results = [.tmp 2, .tmp 3, .tmp 4] := rfl
theorem body_89 : fn89.body = c89 := rfl
@[simp] theorem dyn_89 : fn89.dyn = fun _ => [] := id rfl
@[simp] theorem opn_89 : fn89.opn = fun _ => none := id rfl
@[simp] theorem keep_89_0 : fn89.keep 0 = some [0] := rfl
@[simp] theorem keep_89_1 : fn89.keep 1 = some [0, 10] := rfl
@[simp] theorem keep_89_2 : fn89.keep 2 = some [2, 3, 4] := rfl
@[simp] theorem keep_89_3 : fn89.keep 3 = some [0, 14] := rfl
@[simp] theorem keep_89_4 : fn89.keep 4 = some [2, 3, 4] := rfl
@[simp] theorem keep_89_5 : fn89.keep 5 = some [0, 5] := rfl
@[simp] theorem keep_89_6 : fn89.keep 6 = some [0, 5, 29] := rfl
@[simp] theorem keep_89_7 : fn89.keep 7 = some [2, 3, 4] := rfl
@[simp] theorem keep_89_8 : fn89.keep 8 = some [0, 5, 34] := rfl
@[simp] theorem keep_89_9 : fn89.keep 9 = some [2, 3, 4] := rfl
@[simp] theorem keep_89_10 : fn89.keep 10 = some [0, 5, 6] := rfl
@[simp] theorem keep_89_11 : fn89.keep 11 = some [0, 5, 6, 7] := rfl
@[simp] theorem keep_89_12 : fn89.keep 12 = some [0, 5, 6, 7, 37] := rfl
@[simp] theorem keep_89_13 : fn89.keep 13 = some [0, 5, 6, 7] := rfl
@[simp] theorem keep_89_14 : fn89.keep 14 = some [0, 5, 6, 7] := rfl
@[simp] theorem keep_89_15 : fn89.keep 15 = some [5, 6, 55] := rfl
@[simp] theorem keep_89_16 : fn89.keep 16 = some [2, 3, 4] := rfl
@[simp] theorem keep_89_17 : fn89.keep 17 = some [2, 3, 4] := rfl
@[simp] theorem head_89_12 : fn89.head 12 = some [0, 5, 6, 7] := rfl
@[simp] theorem ntmps_90 : fn90.ntmps = 27 := rfl
@[simp] theorem results_90 : fn90.results = [.tmp 2] := rfl
theorem body_90 : fn90.body = c90 := rfl
@[simp] theorem dyn_90 : fn90.dyn = fun _ => [] := id rfl
@[simp] theorem opn_90 : fn90.opn = fun _ => none := id rfl
@[simp] theorem keep_90_0 : fn90.keep 0 = some [1] := rfl
@[simp] theorem keep_90_1 : fn90.keep 1 = some [1, 9] := rfl
@[simp] theorem keep_90_2 : fn90.keep 2 = some [2] := rfl
@[simp] theorem keep_90_3 : fn90.keep 3 = some [1, 3] := rfl
@[simp] theorem keep_90_4 : fn90.keep 4 = some [3, 14, 15, 16] := rfl
@[simp] theorem keep_90_5 : fn90.keep 5 = some [3, 14, 15, 16, 17] := rfl
@[simp] theorem keep_90_6 : fn90.keep 6 = some [3, 5, 14, 15, 16] := rfl
@[simp] theorem keep_90_7 : fn90.keep 7 = some [3, 14, 15, 16] := rfl
@[simp] theorem keep_90_8 : fn90.keep 8 = some [3, 14, 15, 16] := rfl
@[simp] theorem keep_90_9 : fn90.keep 9 = some [2] := rfl
@[simp] theorem head_90_5 : fn90.head 5 = some [3, 14, 15, 16] := rfl
@[simp] theorem ntmps_91 : fn91.ntmps = 22 := rfl
@[simp] theorem results_91 : fn91.results = [.tmp 4] := rfl
theorem body_91 : fn91.body = c91 := rfl
@[simp] theorem dyn_91 : fn91.dyn = fun _ => [] := id rfl
@[simp] theorem opn_91 : fn91.opn = fun _ => none := id rfl
@[simp] theorem keep_91_0 : fn91.keep 0 = some [0, 1] := rfl
@[simp] theorem keep_91_1 : fn91.keep 1 = some [0, 1, 15] := rfl
@[simp] theorem keep_91_2 : fn91.keep 2 = some [4] := rfl
@[simp] theorem keep_91_3 : fn91.keep 3 = some [4] := rfl
@[simp] theorem ntmps_92 : fn92.ntmps = 12 := rfl
@[simp] theorem results_92 : fn92.results = [.tmp 2] := rfl
theorem body_92 : fn92.body = c92 := rfl
@[simp] theorem dyn_92 : fn92.dyn = fun _ => [] := id rfl
@[simp] theorem opn_92 : fn92.opn = fun _ => none := id rfl
@[simp] theorem keep_92_0 : fn92.keep 0 = some [1] := rfl
@[simp] theorem keep_92_1 : fn92.keep 1 = some [3] := rfl
@[simp] theorem keep_92_2 : fn92.keep 2 = some [2] := rfl
@[simp] theorem ntmps_93 : fn93.ntmps = 42 := rfl
@[simp] theorem results_93 : fn93.results = [.tmp 2, .tmp 3] := rfl
theorem body_93 : fn93.body = c93 := rfl
@[simp] theorem dyn_93 : fn93.dyn = fun _ => [] := id rfl
@[simp] theorem opn_93 : fn93.opn = fun _ => none := id rfl
@[simp] theorem keep_93_0 : fn93.keep 0 = some [1, 35] := rfl
@[simp] theorem keep_93_1 : fn93.keep 1 = some [1, 4, 35] := rfl
@[simp] theorem keep_93_2 : fn93.keep 2 = some [1, 4, 11, 35] := rfl
@[simp] theorem keep_93_3 : fn93.keep 3 = some [2, 3] := rfl
@[simp] theorem keep_93_4 : fn93.keep 4 = some [1, 5, 35] := rfl
@[simp] theorem keep_93_5 : fn93.keep 5 = some [1, 5, 17, 35] := rfl
@[simp] theorem keep_93_6 : fn93.keep 6 = some [1, 5, 35] := rfl
@[simp] theorem keep_93_7 : fn93.keep 7 = some [1, 5, 22, 35] := rfl
@[simp] theorem keep_93_8 : fn93.keep 8 = some [2, 3] := rfl
@[simp] theorem keep_93_9 : fn93.keep 9 = some [1, 6, 35] := rfl
@[simp] theorem keep_93_10 : fn93.keep 10 = some [6, 34, 35] := rfl
@[simp] theorem keep_93_11 : fn93.keep 11 = some [6, 7, 35] := rfl
@[simp] theorem keep_93_12 : fn93.keep 12 = some [6, 35] := rfl
@[simp] theorem keep_93_13 : fn93.keep 13 = some [2, 3] := rfl
@[simp] theorem ntmps_94 : fn94.ntmps = 50 := rfl
end TabE
