/- The tables of this translation for the evaluator: written by gen2.py. No conditions. -/
import Derived.Test.YtbgmkcmailcciaaDoorB2
set_option linter.unusedVariables false
set_option maxRecDepth 100000
namespace TabC
open Go Ab

def opnT : FuncId → Option (List Bool × Bool)
  | 23 => some ([false, true, false], true)
  | 43 => some ([false, true], true)
  | 44 => some ([false, true], true)
  | 54 => some ([true, false], false)
  | 60 => some ([true, true, true, true], true)
  | 61 => some ([true, false, false, false], true)
  | 68 => some ([false, true], true)
  | 69 => some ([false, false, true, true], true)
  | 78 => some ([false, false, true, true], true)
  | 82 => some ([true, true], true)
  | _ => none

/-- vidimus/vidimuslaw19.ConstraintsBack -/
def c3 : Code :=
  (.seq (.region 0 #[⟨some 4, .assign (.const (.bool false)), 4, "", #[], none⟩] false)
  (.seq (.region 1 #[⟨some 17, .move (.tmp 0), 22, "", #[], none⟩,
    ⟨some 18, .call { callee := .value (.func 9), args := #[.tmp 17], argTypes := #[22] }, 3, "", #[], none⟩,
    ⟨some 19, .move (.tmp 1), 22, "", #[], none⟩,
    ⟨some 20, .call { callee := .value (.func 9), args := #[.tmp 19], argTypes := #[22] }, 3, "", #[], none⟩,
    ⟨some 21, .build 25 #[(0, .tmp 18), (1, .tmp 20)], 25, "", #[], none⟩,
    ⟨some 5, .alloc 25, 0, "", #[], none⟩,
    ⟨none, .store 25 (.tmp 5) (.tmp 21), 0, "", #[], none⟩] false)
  (.seq (.seq (.region 2 #[⟨some 22, .fieldAddr 25 (.tmp 5) 0, 0, "", #[], none⟩,
    ⟨some 23, .load 3 (.tmp 22), 3, "", #[], none⟩,
    ⟨some 24, .binOp .gtr 3 (.tmp 23) (.const (.int .i64 2147483647)) 3, 4, "", #[], none⟩,
    ⟨some 25, .move (.tmp 24), 4, "", #[], none⟩,
    ⟨some 26, .fieldAddr 25 (.tmp 5) 1, 0, "", #[], some (25, false)⟩,
    ⟨some 27, .load 3 (.tmp 26), 3, "", #[], some (25, false)⟩,
    ⟨some 28, .binOp .gtr 3 (.tmp 27) (.const (.int .i64 2147483647)) 3, 4, "", #[], some (25, false)⟩,
    ⟨some 29, .pick (.tmp 25) (.const (.bool true)) (.tmp 28), 4, "", #[], none⟩,
    ⟨some 30, .move (.tmp 29), 4, "", #[], none⟩,
    ⟨some 31, .fieldAddr 25 (.tmp 5) 0, 0, "", #[], some (30, false)⟩,
    ⟨some 32, .load 3 (.tmp 31), 3, "", #[], some (30, false)⟩,
    ⟨some 33, .binOp .lss 3 (.tmp 32) (.const (.int .i64 0)) 3, 4, "", #[], some (30, false)⟩,
    ⟨some 34, .move (.tmp 33), 4, "", #[], some (30, false)⟩,
    ⟨some 35, .fieldAddr 25 (.tmp 5) 1, 0, "", #[], some (34, true)⟩,
    ⟨some 36, .load 3 (.tmp 35), 3, "", #[], some (34, true)⟩,
    ⟨some 37, .binOp .lss 3 (.tmp 36) (.const (.int .i64 0)) 3, 4, "", #[], some (34, true)⟩,
    ⟨some 38, .pick (.tmp 34) (.tmp 37) (.const (.bool false)), 4, "", #[], some (30, false)⟩,
    ⟨some 39, .pick (.tmp 30) (.const (.bool true)) (.tmp 38), 4, "", #[], none⟩] false)
  (.cond (.tmp 39)
    (.seq (.region 3 #[⟨some 40, .call { callee := .value (.func 10), args := #[], argTypes := #[] }, 4, "", #[], none⟩,
      ⟨some 4, .assign (.tmp 40), 4, "", #[], none⟩] false)
    .ret)
    .skip))
  (.seq (.region 4 #[⟨some 42, .load 25 (.tmp 5), 25, "", #[], none⟩,
    ⟨some 43, .call { callee := .value (.func 11), args := #[.tmp 42], argTypes := #[25] }, 35, "", #[], none⟩,
    ⟨some 41, .move (.tmp 43), 35, "", #[], none⟩,
    ⟨some 44, .extract (.tmp 41) 0, 33, "", #[], none⟩,
    ⟨some 45, .extract (.tmp 41) 1, 34, "", #[], none⟩,
    ⟨some 6, .alloc 33, 0, "", #[], none⟩,
    ⟨none, .store 33 (.tmp 6) (.tmp 44), 0, "", #[], none⟩,
    ⟨some 7, .assign (.tmp 45), 34, "", #[], none⟩] false)
  (.seq (.region 5 #[⟨some 47, .load 25 (.tmp 5), 25, "", #[], none⟩,
    ⟨some 48, .call { callee := .value (.func 12), args := #[.tmp 47], argTypes := #[25] }, 37, "", #[], none⟩,
    ⟨some 46, .move (.tmp 48), 37, "", #[], none⟩,
    ⟨some 49, .extract (.tmp 46) 0, 30, "", #[], none⟩,
    ⟨some 50, .extract (.tmp 46) 1, 34, "", #[], none⟩,
    ⟨some 8, .assign (.tmp 49), 30, "", #[], none⟩,
    ⟨some 9, .assign (.tmp 50), 34, "", #[], none⟩] false)
  (.seq (.region 6 #[⟨some 51, .load 25 (.tmp 5), 25, "", #[], none⟩,
    ⟨some 52, .call { callee := .value (.func 13), args := #[.tmp 51], argTypes := #[25] }, 33, "", #[], none⟩,
    ⟨some 10, .alloc 33, 0, "", #[], none⟩,
    ⟨none, .store 33 (.tmp 10) (.tmp 52), 0, "", #[], none⟩] false)
  (.seq (.seq (.region 7 #[⟨some 53, .move (.tmp 7), 34, "", #[], none⟩,
    ⟨some 54, .binOp .neq 34 (.tmp 53) (.const (.int .i64 0)) 34, 4, "", #[], none⟩,
    ⟨some 55, .move (.tmp 54), 4, "", #[], none⟩,
    ⟨some 56, .move (.tmp 9), 34, "", #[], some (55, false)⟩,
    ⟨some 57, .binOp .neq 34 (.tmp 56) (.const (.int .i64 0)) 34, 4, "", #[], some (55, false)⟩,
    ⟨some 58, .pick (.tmp 55) (.const (.bool true)) (.tmp 57), 4, "", #[], none⟩,
    ⟨some 59, .move (.tmp 58), 4, "", #[], none⟩,
    ⟨some 60, .load 25 (.tmp 5), 25, "", #[], some (59, false)⟩,
    ⟨some 61, .call { callee := .value (.func 14), args := #[.tmp 60], argTypes := #[25] }, 34, "", #[], some (59, false)⟩,
    ⟨some 62, .binOp .neq 34 (.tmp 61) (.const (.int .i64 0)) 34, 4, "", #[], some (59, false)⟩,
    ⟨some 63, .pick (.tmp 59) (.const (.bool true)) (.tmp 62), 4, "", #[], none⟩,
    ⟨some 64, .move (.tmp 63), 4, "", #[], none⟩,
    ⟨some 65, .load 33 (.tmp 6), 33, "", #[], some (64, false)⟩,
    ⟨some 66, .load 33 (.tmp 10), 33, "", #[], some (64, false)⟩,
    ⟨some 67, .call { callee := .value (.func 15), args := #[.tmp 65, .tmp 66], argTypes := #[33, 33] }, 3, "", #[], some (64, false)⟩,
    ⟨some 68, .binOp .eql 3 (.tmp 67) (.const (.int .i64 0)) 3, 4, "", #[], some (64, false)⟩,
    ⟨some 69, .pick (.tmp 64) (.const (.bool true)) (.tmp 68), 4, "", #[], none⟩,
    ⟨some 70, .move (.tmp 69), 4, "", #[], none⟩,
    ⟨some 71, .move (.tmp 8), 30, "", #[], some (70, false)⟩,
    ⟨some 72, .convert 30 9 (.tmp 71), 9, "", #[], some (70, false)⟩,
    ⟨some 73, .load 33 (.tmp 10), 33, "", #[], some (70, false)⟩,
    ⟨some 74, .call { callee := .value (.func 16), args := #[.tmp 73], argTypes := #[33] }, 30, "", #[], some (70, false)⟩,
    ⟨some 75, .convert 30 9 (.tmp 74), 9, "", #[], some (70, false)⟩,
    ⟨some 76, .binOp .neq 9 (.tmp 72) (.tmp 75) 9, 4, "", #[], some (70, false)⟩,
    ⟨some 77, .pick (.tmp 70) (.const (.bool true)) (.tmp 76), 4, "", #[], none⟩,
    ⟨some 78, .move (.tmp 77), 4, "", #[], none⟩,
    ⟨some 79, .move (.tmp 8), 30, "", #[], some (78, false)⟩,
    ⟨some 80, .call { callee := .builtin .cap, args := #[.tmp 79], argTypes := #[30] }, 3, "", #[], some (78, false)⟩,
    ⟨some 81, .move (.tmp 8), 30, "", #[], some (78, false)⟩,
    ⟨some 82, .call { callee := .builtin .len, args := #[.tmp 81], argTypes := #[30] }, 3, "", #[], some (78, false)⟩,
    ⟨some 83, .binOp .neq 3 (.tmp 80) (.tmp 82) 3, 4, "", #[], some (78, false)⟩,
    ⟨some 84, .pick (.tmp 78) (.const (.bool true)) (.tmp 83), 4, "", #[], none⟩,
    ⟨some 85, .move (.tmp 84), 4, "", #[], none⟩,
    ⟨some 86, .fieldAddr 33 (.tmp 6) 2, 0, "", #[], some (85, false)⟩,
    ⟨some 87, .load 31 (.tmp 86), 31, "", #[], some (85, false)⟩,
    ⟨some 88, .call { callee := .builtin .cap, args := #[.tmp 87], argTypes := #[31] }, 3, "", #[], some (85, false)⟩,
    ⟨some 89, .fieldAddr 33 (.tmp 6) 2, 0, "", #[], some (85, false)⟩,
    ⟨some 90, .load 31 (.tmp 89), 31, "", #[], some (85, false)⟩,
    ⟨some 91, .call { callee := .builtin .len, args := #[.tmp 90], argTypes := #[31] }, 3, "", #[], some (85, false)⟩,
    ⟨some 92, .binOp .neq 3 (.tmp 88) (.tmp 91) 3, 4, "", #[], some (85, false)⟩,
    ⟨some 93, .pick (.tmp 85) (.const (.bool true)) (.tmp 92), 4, "", #[], none⟩] true)
  (.cond (.tmp 93)
    (.seq (.region 8 #[⟨some 4, .assign (.const (.bool false)), 4, "", #[], none⟩] false)
    .ret)
    .skip))
  (.seq (.region 9 #[⟨some 95, .load 33 (.tmp 6), 33, "", #[], none⟩,
    ⟨some 96, .call { callee := .value (.func 17), args := #[.tmp 95], argTypes := #[33] }, 46, "", #[], none⟩,
    ⟨some 94, .move (.tmp 96), 46, "", #[], none⟩,
    ⟨some 97, .extract (.tmp 94) 0, 25, "", #[], none⟩,
    ⟨some 98, .extract (.tmp 94) 1, 45, "", #[], none⟩,
    ⟨some 11, .alloc 25, 0, "", #[], none⟩,
    ⟨some 12, .alloc 45, 0, "", #[], none⟩,
    ⟨none, .store 25 (.tmp 11) (.tmp 97), 0, "", #[], none⟩,
    ⟨none, .store 45 (.tmp 12) (.tmp 98), 0, "", #[], none⟩] false)
  (.seq (.region 10 #[⟨some 100, .move (.tmp 8), 30, "", #[], none⟩,
    ⟨some 101, .call { callee := .value (.func 18), args := #[.tmp 100], argTypes := #[30] }, 48, "", #[], none⟩,
    ⟨some 99, .move (.tmp 101), 48, "", #[], none⟩,
    ⟨some 102, .extract (.tmp 99) 0, 25, "", #[], none⟩,
    ⟨some 103, .extract (.tmp 99) 1, 3, "", #[], none⟩,
    ⟨some 104, .extract (.tmp 99) 2, 34, "", #[], none⟩,
    ⟨some 13, .alloc 25, 0, "", #[], none⟩,
    ⟨none, .store 25 (.tmp 13) (.tmp 102), 0, "", #[], none⟩,
    ⟨some 14, .assign (.tmp 103), 3, "", #[], none⟩,
    ⟨some 7, .assign (.tmp 104), 34, "", #[], none⟩] false)
  (.seq (.seq (.region 11 #[⟨some 105, .load 45 (.tmp 12), 45, "", #[], none⟩,
    ⟨some 106, .build 45 #[], 45, "", #[], none⟩,
    ⟨some 107, .call { callee := .value (.func 19), args := #[.tmp 105, .tmp 106], argTypes := #[45, 45] }, 3, "", #[], none⟩,
    ⟨some 108, .binOp .eql 3 (.tmp 107) (.const (.int .i64 0)) 3, 4, "", #[], none⟩,
    ⟨some 109, .move (.tmp 108), 4, "", #[], none⟩,
    ⟨some 110, .load 25 (.tmp 11), 25, "", #[], some (109, false)⟩,
    ⟨some 111, .load 25 (.tmp 5), 25, "", #[], some (109, false)⟩,
    ⟨some 112, .binOp .neq 25 (.tmp 110) (.tmp 111) 25, 4, "", #[], some (109, false)⟩,
    ⟨some 113, .pick (.tmp 109) (.const (.bool true)) (.tmp 112), 4, "", #[], none⟩,
    ⟨some 114, .move (.tmp 113), 4, "", #[], none⟩,
    ⟨some 115, .load 25 (.tmp 13), 25, "", #[], some (114, false)⟩,
    ⟨some 116, .load 25 (.tmp 5), 25, "", #[], some (114, false)⟩,
    ⟨some 117, .binOp .neq 25 (.tmp 115) (.tmp 116) 25, 4, "", #[], some (114, false)⟩,
    ⟨some 118, .pick (.tmp 114) (.const (.bool true)) (.tmp 117), 4, "", #[], none⟩,
    ⟨some 119, .move (.tmp 118), 4, "", #[], none⟩,
    ⟨some 120, .move (.tmp 14), 3, "", #[], some (119, false)⟩,
    ⟨some 121, .binOp .neq 3 (.tmp 120) (.const (.int .i64 0)) 3, 4, "", #[], some (119, false)⟩,
    ⟨some 122, .pick (.tmp 119) (.const (.bool true)) (.tmp 121), 4, "", #[], none⟩,
    ⟨some 123, .move (.tmp 122), 4, "", #[], none⟩,
    ⟨some 124, .move (.tmp 7), 34, "", #[], some (123, false)⟩,
    ⟨some 125, .binOp .neq 34 (.tmp 124) (.const (.int .i64 0)) 34, 4, "", #[], some (123, false)⟩,
    ⟨some 126, .pick (.tmp 123) (.const (.bool true)) (.tmp 125), 4, "", #[], none⟩] false)
  (.cond (.tmp 126)
    (.seq (.region 12 #[⟨some 4, .assign (.const (.bool false)), 4, "", #[], none⟩] false)
    .ret)
    .skip))
  (.seq (.seq (.region 13 #[⟨some 127, .fieldAddr 25 (.tmp 5) 0, 0, "", #[], none⟩,
    ⟨some 128, .load 3 (.tmp 127), 3, "", #[], none⟩,
    ⟨some 129, .binOp .lss 3 (.tmp 128) (.const (.int .i64 0)) 3, 4, "", #[], none⟩] false)
  (.cond (.tmp 129)
    (.seq (.region 14 #[⟨some 130, .call { callee := .value (.func 10), args := #[], argTypes := #[] }, 4, "", #[], none⟩,
      ⟨some 4, .assign (.tmp 130), 4, "", #[], none⟩] false)
    .ret)
    .skip))
  (.seq (.region 15 #[⟨some 132, .fieldAddr 25 (.tmp 5) 0, 0, "", #[], none⟩,
    ⟨some 133, .load 3 (.tmp 132), 3, "", #[], none⟩,
    ⟨some 134, .call { callee := .value (.func 20), args := #[.tmp 133], argTypes := #[3] }, 37, "", #[], none⟩,
    ⟨some 131, .move (.tmp 134), 37, "", #[], none⟩,
    ⟨some 135, .extract (.tmp 131) 0, 30, "", #[], none⟩,
    ⟨some 136, .extract (.tmp 131) 1, 34, "", #[], none⟩,
    ⟨some 15, .assign (.tmp 135), 30, "", #[], none⟩,
    ⟨some 7, .assign (.tmp 136), 34, "", #[], none⟩] false)
  (.seq (.region 16 #[⟨some 138, .move (.tmp 15), 30, "", #[], none⟩,
    ⟨some 139, .call { callee := .value (.func 21), args := #[.tmp 138], argTypes := #[30] }, 52, "", #[], none⟩,
    ⟨some 137, .move (.tmp 139), 52, "", #[], none⟩,
    ⟨some 140, .extract (.tmp 137) 0, 3, "", #[], none⟩,
    ⟨some 141, .extract (.tmp 137) 1, 3, "", #[], none⟩,
    ⟨some 142, .extract (.tmp 137) 2, 34, "", #[], none⟩,
    ⟨some 16, .assign (.tmp 140), 3, "", #[], none⟩,
    ⟨some 14, .assign (.tmp 141), 3, "", #[], none⟩,
    ⟨some 9, .assign (.tmp 142), 34, "", #[], none⟩] false)
  (.seq (.region 17 #[⟨some 143, .move (.tmp 7), 34, "", #[], none⟩,
    ⟨some 144, .binOp .eql 34 (.tmp 143) (.const (.int .i64 0)) 34, 4, "", #[], none⟩,
    ⟨some 145, .move (.tmp 144), 4, "", #[], none⟩,
    ⟨some 146, .move (.tmp 9), 34, "", #[], some (145, true)⟩,
    ⟨some 147, .binOp .eql 34 (.tmp 146) (.const (.int .i64 0)) 34, 4, "", #[], some (145, true)⟩,
    ⟨some 148, .pick (.tmp 145) (.tmp 147) (.const (.bool false)), 4, "", #[], none⟩,
    ⟨some 149, .move (.tmp 148), 4, "", #[], none⟩,
    ⟨some 150, .move (.tmp 14), 3, "", #[], some (149, true)⟩,
    ⟨some 151, .binOp .eql 3 (.tmp 150) (.const (.int .i64 0)) 3, 4, "", #[], some (149, true)⟩,
    ⟨some 152, .pick (.tmp 149) (.tmp 151) (.const (.bool false)), 4, "", #[], none⟩,
    ⟨some 153, .move (.tmp 152), 4, "", #[], none⟩,
    ⟨some 154, .move (.tmp 16), 3, "", #[], some (153, true)⟩,
    ⟨some 155, .fieldAddr 25 (.tmp 5) 0, 0, "", #[], some (153, true)⟩,
    ⟨some 156, .load 3 (.tmp 155), 3, "", #[], some (153, true)⟩,
    ⟨some 157, .binOp .eql 3 (.tmp 154) (.tmp 156) 3, 4, "", #[], some (153, true)⟩,
    ⟨some 158, .pick (.tmp 153) (.tmp 157) (.const (.bool false)), 4, "", #[], none⟩,
    ⟨some 159, .move (.tmp 158), 4, "", #[], none⟩,
    ⟨some 160, .move (.tmp 15), 30, "", #[], some (159, true)⟩,
    ⟨some 161, .call { callee := .builtin .cap, args := #[.tmp 160], argTypes := #[30] }, 3, "", #[], some (159, true)⟩,
    ⟨some 162, .move (.tmp 15), 30, "", #[], some (159, true)⟩,
    ⟨some 163, .call { callee := .builtin .len, args := #[.tmp 162], argTypes := #[30] }, 3, "", #[], some (159, true)⟩,
    ⟨some 164, .binOp .eql 3 (.tmp 161) (.tmp 163) 3, 4, "", #[], some (159, true)⟩,
    ⟨some 165, .pick (.tmp 159) (.tmp 164) (.const (.bool false)), 4, "", #[], none⟩,
    ⟨some 166, .move (.tmp 165), 4, "", #[], none⟩,
    ⟨some 167, .move (.tmp 15), 30, "", #[], some (166, true)⟩,
    ⟨some 168, .convert 30 9 (.tmp 167), 9, "", #[], some (166, true)⟩,
    ⟨some 169, .build 29 #[(2, .const (.int .u32 2))], 29, "", #[], some (166, true)⟩,
    ⟨some 170, .move (.tmp 16), 3, "", #[], some (166, true)⟩,
    ⟨some 171, .convert 3 22 (.tmp 170), 22, "", #[], some (166, true)⟩,
    ⟨some 172, .call { callee := .value (.func 22), args := #[.tmp 171], argTypes := #[22] }, 30, "", #[], some (166, true)⟩,
    ⟨some 173, .build 33 #[(0, .tmp 169), (1, .tmp 172)], 33, "", #[], some (166, true)⟩,
    ⟨some 174, .call { callee := .value (.func 16), args := #[.tmp 173], argTypes := #[33] }, 30, "", #[], some (166, true)⟩,
    ⟨some 175, .convert 30 9 (.tmp 174), 9, "", #[], some (166, true)⟩,
    ⟨some 176, .binOp .eql 9 (.tmp 168) (.tmp 175) 9, 4, "", #[], some (166, true)⟩,
    ⟨some 177, .pick (.tmp 166) (.tmp 176) (.const (.bool false)), 4, "", #[], none⟩,
    ⟨some 178, .move (.tmp 177), 4, "", #[], none⟩,
    ⟨some 179, .call { callee := .value (.func 10), args := #[], argTypes := #[] }, 4, "", #[], some (178, true)⟩,
    ⟨some 180, .pick (.tmp 178) (.tmp 179) (.const (.bool false)), 4, "", #[], none⟩,
    ⟨some 4, .assign (.tmp 180), 4, "", #[], none⟩] true)
  .ret))))))))))))))
def fn3 : AFn := { ntmps := 181, results := [.tmp 4], body := c3, keep := fun | 0 => some [0, 1] | 1 => some [5] | 2 => some [5, 39] | 3 => some [4] | 4 => some [5, 6, 7] | 5 => some [5, 6, 7, 8, 9] | 6 => some [5, 6, 7, 8, 9, 10] | 7 => some [5, 6, 8, 93] | 8 => some [4] | 9 => some [5, 8, 11, 12] | 10 => some [5, 7, 11, 12, 13, 14] | 11 => some [5, 126] | 12 => some [4] | 13 => some [5, 129] | 14 => some [4] | 15 => some [5, 7, 15] | 16 => some [5, 7, 9, 14, 15, 16] | 17 => some [4] | _ => none, head := fun  | _ => none, opn := fun _ => none, dyn := fun _ => [] }
/-- vidimus/vidimuslaw19.ConstraintsOf -/
def c4 : Code :=
  (.seq (.region 0 #[⟨some 1, .box 33 (.tmp 0), 0, "", #[], none⟩,
    ⟨some 2, .assign (.const (.bool false)), 4, "", #[], none⟩] false)
  (.seq (.region 1 #[⟨some 3, .alloc 3, 0, "", #[], none⟩,
    ⟨none, .store 3 (.tmp 3) (.const (.int .i64 20)), 0, "", #[], none⟩] false)
  (.seq (.seq (.region 2 #[⟨some 10, .load 33 (.tmp 1), 33, "", #[], none⟩,
    ⟨some 11, .call { callee := .value (.func 23), args := #[.tmp 10, .tmp 3, .const (.int .i64 0)], argTypes := #[33, 57, 3] }, 3, "", #[], none⟩,
    ⟨some 12, .binOp .eql 3 (.tmp 11) (.const (.int .i64 0)) 3, 4, "", #[], none⟩] false)
  (.cond (.tmp 12)
    (.seq (.region 3 #[⟨some 13, .call { callee := .value (.func 10), args := #[], argTypes := #[] }, 4, "", #[], none⟩,
      ⟨some 2, .assign (.tmp 13), 4, "", #[], none⟩] false)
    .ret)
    .skip))
  (.seq (.region 4 #[⟨some 15, .load 33 (.tmp 1), 33, "", #[], none⟩,
    ⟨some 16, .call { callee := .value (.func 17), args := #[.tmp 15], argTypes := #[33] }, 46, "", #[], none⟩,
    ⟨some 14, .move (.tmp 16), 46, "", #[], none⟩,
    ⟨some 17, .extract (.tmp 14) 0, 25, "", #[], none⟩,
    ⟨some 18, .extract (.tmp 14) 1, 45, "", #[], none⟩,
    ⟨some 4, .alloc 25, 0, "", #[], none⟩,
    ⟨some 5, .alloc 45, 0, "", #[], none⟩,
    ⟨none, .store 25 (.tmp 4) (.tmp 17), 0, "", #[], none⟩,
    ⟨none, .store 45 (.tmp 5) (.tmp 18), 0, "", #[], none⟩] false)
  (.seq (.region 5 #[⟨some 20, .load 33 (.tmp 1), 33, "", #[], none⟩,
    ⟨some 21, .call { callee := .value (.func 24), args := #[.tmp 20], argTypes := #[33] }, 46, "", #[], none⟩,
    ⟨some 19, .move (.tmp 21), 46, "", #[], none⟩,
    ⟨some 22, .extract (.tmp 19) 0, 25, "", #[], none⟩,
    ⟨some 23, .extract (.tmp 19) 1, 45, "", #[], none⟩,
    ⟨some 6, .alloc 25, 0, "", #[], none⟩,
    ⟨some 7, .alloc 45, 0, "", #[], none⟩,
    ⟨none, .store 25 (.tmp 6) (.tmp 22), 0, "", #[], none⟩,
    ⟨none, .store 45 (.tmp 7) (.tmp 23), 0, "", #[], none⟩] false)
  (.seq (.seq (.region 6 #[⟨some 24, .load 45 (.tmp 5), 45, "", #[], none⟩,
    ⟨some 25, .load 45 (.tmp 7), 45, "", #[], none⟩,
    ⟨some 26, .call { callee := .value (.func 19), args := #[.tmp 24, .tmp 25], argTypes := #[45, 45] }, 3, "", #[], none⟩,
    ⟨some 27, .binOp .eql 3 (.tmp 26) (.const (.int .i64 0)) 3, 4, "", #[], none⟩,
    ⟨some 28, .move (.tmp 27), 4, "", #[], none⟩,
    ⟨some 29, .load 25 (.tmp 4), 25, "", #[], some (28, false)⟩,
    ⟨some 30, .load 25 (.tmp 6), 25, "", #[], some (28, false)⟩,
    ⟨some 31, .binOp .neq 25 (.tmp 29) (.tmp 30) 25, 4, "", #[], some (28, false)⟩,
    ⟨some 32, .pick (.tmp 28) (.const (.bool true)) (.tmp 31), 4, "", #[], none⟩] false)
  (.cond (.tmp 32)
    (.seq (.region 7 #[⟨some 2, .assign (.const (.bool false)), 4, "", #[], none⟩] false)
    .ret)
    .skip))
  (.seq (.seq (.region 8 #[⟨some 33, .fieldAddr 45 (.tmp 5) 1, 0, "", #[], none⟩,
    ⟨some 34, .load 34 (.tmp 33), 34, "", #[], none⟩,
    ⟨some 35, .binOp .neq 34 (.tmp 34) (.const (.int .i64 0)) 34, 4, "", #[], none⟩] false)
  (.cond (.tmp 35)
    (.seq (.region 9 #[⟨some 36, .call { callee := .value (.func 10), args := #[], argTypes := #[] }, 4, "", #[], none⟩,
      ⟨some 2, .assign (.tmp 36), 4, "", #[], none⟩] false)
    .ret)
    .skip))
  (.seq (.region 10 #[⟨some 38, .load 25 (.tmp 4), 25, "", #[], none⟩,
    ⟨some 39, .call { callee := .value (.func 11), args := #[.tmp 38], argTypes := #[25] }, 35, "", #[], none⟩,
    ⟨some 37, .move (.tmp 39), 35, "", #[], none⟩,
    ⟨some 40, .extract (.tmp 37) 0, 33, "", #[], none⟩,
    ⟨some 41, .extract (.tmp 37) 1, 34, "", #[], none⟩,
    ⟨some 8, .alloc 33, 0, "", #[], none⟩,
    ⟨none, .store 33 (.tmp 8) (.tmp 40), 0, "", #[], none⟩,
    ⟨some 9, .assign (.tmp 41), 34, "", #[], none⟩] false)
  (.seq (.region 11 #[⟨some 42, .load 25 (.tmp 4), 25, "", #[], none⟩,
    ⟨some 43, .call { callee := .value (.func 25), args := #[.tmp 42], argTypes := #[25] }, 34, "", #[], none⟩,
    ⟨some 44, .binOp .eql 34 (.tmp 43) (.const (.int .i64 0)) 34, 4, "", #[], none⟩,
    ⟨some 45, .move (.tmp 44), 4, "", #[], none⟩,
    ⟨some 46, .move (.tmp 9), 34, "", #[], some (45, true)⟩,
    ⟨some 47, .binOp .eql 34 (.tmp 46) (.const (.int .i64 0)) 34, 4, "", #[], some (45, true)⟩,
    ⟨some 48, .pick (.tmp 45) (.tmp 47) (.const (.bool false)), 4, "", #[], none⟩,
    ⟨some 49, .move (.tmp 48), 4, "", #[], none⟩,
    ⟨some 50, .load 33 (.tmp 8), 33, "", #[], some (49, true)⟩,
    ⟨some 51, .load 33 (.tmp 1), 33, "", #[], some (49, true)⟩,
    ⟨some 52, .call { callee := .value (.func 15), args := #[.tmp 50, .tmp 51], argTypes := #[33, 33] }, 3, "", #[], some (49, true)⟩,
    ⟨some 53, .binOp .eql 3 (.tmp 52) (.const (.int .i64 1)) 3, 4, "", #[], some (49, true)⟩,
    ⟨some 54, .pick (.tmp 49) (.tmp 53) (.const (.bool false)), 4, "", #[], none⟩,
    ⟨some 55, .move (.tmp 54), 4, "", #[], none⟩,
    ⟨some 56, .call { callee := .value (.func 10), args := #[], argTypes := #[] }, 4, "", #[], some (55, true)⟩,
    ⟨some 57, .pick (.tmp 55) (.tmp 56) (.const (.bool false)), 4, "", #[], none⟩,
    ⟨some 2, .assign (.tmp 57), 4, "", #[], none⟩] false)
  .ret)))))))))
def fn4 : AFn := { ntmps := 58, results := [.tmp 2], body := c4, keep := fun | 0 => some [1] | 1 => some [1, 3] | 2 => some [1, 12] | 3 => some [2] | 4 => some [1, 4, 5] | 5 => some [1, 4, 5, 6, 7] | 6 => some [1, 4, 5, 32] | 7 => some [2] | 8 => some [1, 4, 35] | 9 => some [2] | 10 => some [1, 4, 8, 9] | 11 => some [2] | _ => none, head := fun  | _ => none, opn := opnT, dyn := fun _ => [] }
/-- vidimus/vidimuslaw19.ConstraintsGet -/
def c5 : Code :=
  (.seq (.region 0 #[⟨some 2, .assign (.const (.bool false)), 4, "", #[], none⟩] false)
  (.seq (.seq (.region 1 #[⟨some 20, .move (.tmp 0), 30, "", #[], none⟩,
    ⟨some 21, .call { callee := .builtin .len, args := #[.tmp 20], argTypes := #[30] }, 3, "", #[], none⟩,
    ⟨some 22, .binOp .gtr 3 (.tmp 21) (.const (.int .i64 100)) 3, 4, "", #[], none⟩] false)
  (.cond (.tmp 22)
    (.seq (.region 2 #[⟨some 23, .call { callee := .value (.func 10), args := #[], argTypes := #[] }, 4, "", #[], none⟩,
      ⟨some 2, .assign (.tmp 23), 4, "", #[], none⟩] false)
    .ret)
    .skip))
  (.seq (.region 3 #[⟨some 25, .move (.tmp 0), 30, "", #[], none⟩,
    ⟨some 26, .call { callee := .value (.func 18), args := #[.tmp 25], argTypes := #[30] }, 48, "", #[], none⟩,
    ⟨some 24, .move (.tmp 26), 48, "", #[], none⟩,
    ⟨some 27, .extract (.tmp 24) 0, 25, "", #[], none⟩,
    ⟨some 28, .extract (.tmp 24) 1, 3, "", #[], none⟩,
    ⟨some 29, .extract (.tmp 24) 2, 34, "", #[], none⟩,
    ⟨some 3, .alloc 25, 0, "", #[], none⟩,
    ⟨none, .store 25 (.tmp 3) (.tmp 27), 0, "", #[], none⟩,
    ⟨some 4, .assign (.tmp 28), 3, "", #[], none⟩,
    ⟨some 5, .assign (.tmp 29), 34, "", #[], none⟩] false)
  (.seq (.region 4 #[⟨some 31, .move (.tmp 0), 30, "", #[], none⟩,
    ⟨some 32, .call { callee := .value (.func 21), args := #[.tmp 31], argTypes := #[30] }, 52, "", #[], none⟩,
    ⟨some 30, .move (.tmp 32), 52, "", #[], none⟩,
    ⟨some 33, .extract (.tmp 30) 0, 3, "", #[], none⟩,
    ⟨some 34, .extract (.tmp 30) 1, 3, "", #[], none⟩,
    ⟨some 35, .extract (.tmp 30) 2, 34, "", #[], none⟩,
    ⟨some 6, .assign (.tmp 33), 3, "", #[], none⟩,
    ⟨some 7, .assign (.tmp 34), 3, "", #[], none⟩,
    ⟨some 8, .assign (.tmp 35), 34, "", #[], none⟩] false)
  (.seq (.region 5 #[⟨some 37, .move (.tmp 0), 30, "", #[], none⟩,
    ⟨some 38, .call { callee := .value (.func 26), args := #[.tmp 37], argTypes := #[30] }, 59, "", #[], none⟩,
    ⟨some 36, .move (.tmp 38), 59, "", #[], none⟩,
    ⟨some 39, .extract (.tmp 36) 0, 33, "", #[], none⟩,
    ⟨some 40, .extract (.tmp 36) 1, 3, "", #[], none⟩,
    ⟨some 41, .extract (.tmp 36) 2, 34, "", #[], none⟩,
    ⟨some 9, .alloc 33, 0, "", #[], none⟩,
    ⟨none, .store 33 (.tmp 9) (.tmp 39), 0, "", #[], none⟩,
    ⟨some 10, .assign (.tmp 40), 3, "", #[], none⟩,
    ⟨some 11, .assign (.tmp 41), 34, "", #[], none⟩] false)
  (.seq (.seq (.region 6 #[⟨some 42, .move (.tmp 11), 34, "", #[], none⟩,
    ⟨some 43, .binOp .neq 34 (.tmp 42) (.const (.int .i64 0)) 34, 4, "", #[], none⟩] false)
  (.cond (.tmp 43)
    (.seq (.region 7 #[⟨some 44, .load 25 (.tmp 3), 25, "", #[], none⟩,
      ⟨some 45, .build 25 #[], 25, "", #[], none⟩,
      ⟨some 46, .binOp .eql 25 (.tmp 44) (.tmp 45) 25, 4, "", #[], none⟩,
      ⟨some 47, .move (.tmp 46), 4, "", #[], none⟩,
      ⟨some 48, .move (.tmp 6), 3, "", #[], some (47, true)⟩,
      ⟨some 49, .binOp .eql 3 (.tmp 48) (.const (.int .i64 0)) 3, 4, "", #[], some (47, true)⟩,
      ⟨some 50, .pick (.tmp 47) (.tmp 49) (.const (.bool false)), 4, "", #[], none⟩,
      ⟨some 51, .move (.tmp 50), 4, "", #[], none⟩,
      ⟨some 52, .move (.tmp 4), 3, "", #[], some (51, true)⟩,
      ⟨some 53, .move (.tmp 10), 3, "", #[], some (51, true)⟩,
      ⟨some 54, .binOp .eql 3 (.tmp 52) (.tmp 53) 3, 4, "", #[], some (51, true)⟩,
      ⟨some 55, .pick (.tmp 51) (.tmp 54) (.const (.bool false)), 4, "", #[], none⟩,
      ⟨some 56, .move (.tmp 55), 4, "", #[], none⟩,
      ⟨some 57, .move (.tmp 7), 3, "", #[], some (56, true)⟩,
      ⟨some 58, .move (.tmp 10), 3, "", #[], some (56, true)⟩,
      ⟨some 59, .binOp .eql 3 (.tmp 57) (.tmp 58) 3, 4, "", #[], some (56, true)⟩,
      ⟨some 60, .pick (.tmp 56) (.tmp 59) (.const (.bool false)), 4, "", #[], none⟩,
      ⟨some 61, .move (.tmp 60), 4, "", #[], none⟩,
      ⟨some 62, .move (.tmp 5), 34, "", #[], some (61, true)⟩,
      ⟨some 63, .move (.tmp 11), 34, "", #[], some (61, true)⟩,
      ⟨some 64, .binOp .eql 34 (.tmp 62) (.tmp 63) 34, 4, "", #[], some (61, true)⟩,
      ⟨some 65, .pick (.tmp 61) (.tmp 64) (.const (.bool false)), 4, "", #[], none⟩,
      ⟨some 66, .move (.tmp 65), 4, "", #[], none⟩,
      ⟨some 67, .move (.tmp 8), 34, "", #[], some (66, true)⟩,
      ⟨some 68, .move (.tmp 11), 34, "", #[], some (66, true)⟩,
      ⟨some 69, .binOp .eql 34 (.tmp 67) (.tmp 68) 34, 4, "", #[], some (66, true)⟩,
      ⟨some 70, .pick (.tmp 66) (.tmp 69) (.const (.bool false)), 4, "", #[], none⟩,
      ⟨some 71, .move (.tmp 70), 4, "", #[], none⟩,
      ⟨some 72, .call { callee := .value (.func 10), args := #[], argTypes := #[] }, 4, "", #[], some (71, true)⟩,
      ⟨some 73, .pick (.tmp 71) (.tmp 72) (.const (.bool false)), 4, "", #[], none⟩,
      ⟨some 2, .assign (.tmp 73), 4, "", #[], none⟩] false)
    .ret)
    .skip))
  (.seq (.region 8 #[⟨some 75, .load 33 (.tmp 9), 33, "", #[], none⟩,
    ⟨some 76, .call { callee := .value (.func 24), args := #[.tmp 75], argTypes := #[33] }, 46, "", #[], none⟩,
    ⟨some 74, .move (.tmp 76), 46, "", #[], none⟩,
    ⟨some 77, .extract (.tmp 74) 0, 25, "", #[], none⟩,
    ⟨some 78, .extract (.tmp 74) 1, 45, "", #[], none⟩,
    ⟨some 12, .alloc 25, 0, "", #[], none⟩,
    ⟨some 13, .alloc 45, 0, "", #[], none⟩,
    ⟨none, .store 25 (.tmp 12) (.tmp 77), 0, "", #[], none⟩,
    ⟨none, .store 45 (.tmp 13) (.tmp 78), 0, "", #[], none⟩] false)
  (.seq (.seq (.region 9 #[⟨some 79, .load 25 (.tmp 3), 25, "", #[], none⟩,
    ⟨some 80, .load 25 (.tmp 12), 25, "", #[], none⟩,
    ⟨some 81, .binOp .neq 25 (.tmp 79) (.tmp 80) 25, 4, "", #[], none⟩,
    ⟨some 82, .move (.tmp 81), 4, "", #[], none⟩,
    ⟨some 83, .move (.tmp 5), 34, "", #[], some (82, false)⟩,
    ⟨some 84, .fieldAddr 45 (.tmp 13) 1, 0, "", #[], some (82, false)⟩,
    ⟨some 85, .load 34 (.tmp 84), 34, "", #[], some (82, false)⟩,
    ⟨some 86, .binOp .neq 34 (.tmp 83) (.tmp 85) 34, 4, "", #[], some (82, false)⟩,
    ⟨some 87, .pick (.tmp 82) (.const (.bool true)) (.tmp 86), 4, "", #[], none⟩,
    ⟨some 88, .move (.tmp 87), 4, "", #[], none⟩,
    ⟨some 89, .move (.tmp 5), 34, "", #[], some (88, false)⟩,
    ⟨some 90, .binOp .neq 34 (.tmp 89) (.const (.int .i64 0)) 34, 4, "", #[], some (88, false)⟩,
    ⟨some 91, .move (.tmp 90), 4, "", #[], some (88, false)⟩,
    ⟨some 92, .move (.tmp 4), 3, "", #[], some (91, true)⟩,
    ⟨some 93, .load 33 (.tmp 9), 33, "", #[], some (91, true)⟩,
    ⟨some 94, .fieldAddr 45 (.tmp 13) 0, 0, "", #[], some (91, true)⟩,
    ⟨some 95, .load 43 (.tmp 94), 43, "", #[], some (91, true)⟩,
    ⟨some 96, .call { callee := .value (.func 27), args := #[.tmp 93, .tmp 95], argTypes := #[33, 43] }, 3, "", #[], some (91, true)⟩,
    ⟨some 97, .binOp .neq 3 (.tmp 92) (.tmp 96) 3, 4, "", #[], some (91, true)⟩,
    ⟨some 98, .pick (.tmp 91) (.tmp 97) (.const (.bool false)), 4, "", #[], some (88, false)⟩,
    ⟨some 99, .pick (.tmp 88) (.const (.bool true)) (.tmp 98), 4, "", #[], none⟩,
    ⟨some 100, .move (.tmp 99), 4, "", #[], none⟩,
    ⟨some 101, .move (.tmp 5), 34, "", #[], some (100, false)⟩,
    ⟨some 102, .binOp .eql 34 (.tmp 101) (.const (.int .i64 0)) 34, 4, "", #[], some (100, false)⟩,
    ⟨some 103, .move (.tmp 102), 4, "", #[], some (100, false)⟩,
    ⟨some 104, .move (.tmp 4), 3, "", #[], some (103, true)⟩,
    ⟨some 105, .binOp .neq 3 (.tmp 104) (.const (.int .i64 0)) 3, 4, "", #[], some (103, true)⟩,
    ⟨some 106, .pick (.tmp 103) (.tmp 105) (.const (.bool false)), 4, "", #[], some (100, false)⟩,
    ⟨some 107, .pick (.tmp 100) (.const (.bool true)) (.tmp 106), 4, "", #[], none⟩] false)
  (.cond (.tmp 107)
    (.seq (.region 10 #[⟨some 2, .assign (.const (.bool false)), 4, "", #[], none⟩] false)
    .ret)
    .skip))
  (.seq (.seq (.region 11 #[⟨some 108, .move (.tmp 5), 34, "", #[], none⟩,
    ⟨some 109, .binOp .eql 34 (.tmp 108) (.const (.int .i64 0)) 34, 4, "", #[], none⟩] false)
  (.cond (.tmp 109)
    (.seq (.region 12 #[⟨some 111, .load 25 (.tmp 3), 25, "", #[], none⟩,
      ⟨some 112, .call { callee := .value (.func 12), args := #[.tmp 111], argTypes := #[25] }, 37, "", #[], none⟩,
      ⟨some 110, .move (.tmp 112), 37, "", #[], none⟩,
      ⟨some 113, .extract (.tmp 110) 0, 30, "", #[], none⟩,
      ⟨some 114, .extract (.tmp 110) 1, 34, "", #[], none⟩,
      ⟨some 14, .assign (.tmp 113), 30, "", #[], none⟩,
      ⟨some 15, .assign (.tmp 114), 34, "", #[], none⟩] false)
    (.seq (.region 13 #[⟨some 115, .move (.tmp 15), 34, "", #[], none⟩,
      ⟨some 116, .binOp .neq 34 (.tmp 115) (.const (.int .i64 0)) 34, 4, "", #[], none⟩,
      ⟨some 117, .move (.tmp 116), 4, "", #[], none⟩,
      ⟨some 118, .move (.tmp 14), 30, "", #[], some (117, false)⟩,
      ⟨some 119, .convert 30 9 (.tmp 118), 9, "", #[], some (117, false)⟩,
      ⟨some 120, .move (.tmp 0), 30, "", #[], some (117, false)⟩,
      ⟨some 121, .convert 30 9 (.tmp 120), 9, "", #[], some (117, false)⟩,
      ⟨some 122, .binOp .neq 9 (.tmp 119) (.tmp 121) 9, 4, "", #[], some (117, false)⟩,
      ⟨some 123, .pick (.tmp 117) (.const (.bool true)) (.tmp 122), 4, "", #[], none⟩] false)
    (.cond (.tmp 123)
      (.seq (.region 14 #[⟨some 2, .assign (.const (.bool false)), 4, "", #[], none⟩] false)
      .ret)
      .skip)))
    .skip))
  (.seq (.region 15 #[⟨some 16, .assign (.const (.int .i64 9)), 34, "", #[], none⟩] false)
  (.seq (.region 16 #[⟨some 17, .assign (.const (.int .i64 0)), 3, "", #[], none⟩] false)
  (.seq (.seq (.region 17 #[⟨some 124, .fieldAddr 33 (.tmp 9) 0, 0, "", #[], none⟩,
    ⟨some 125, .load 29 (.tmp 124), 29, "", #[], none⟩,
    ⟨some 126, .build 29 #[(2, .const (.int .u32 2))], 29, "", #[], none⟩,
    ⟨some 127, .binOp .eql 29 (.tmp 125) (.tmp 126) 29, 4, "", #[], none⟩] false)
  (.cond (.tmp 127)
    (.region 18 #[⟨some 129, .fieldAddr 33 (.tmp 9) 1, 0, "", #[], none⟩,
      ⟨some 130, .load 30 (.tmp 129), 30, "", #[], none⟩,
      ⟨some 131, .call { callee := .value (.func 28), args := #[.tmp 130], argTypes := #[30] }, 62, "", #[], none⟩,
      ⟨some 128, .move (.tmp 131), 62, "", #[], none⟩,
      ⟨some 132, .extract (.tmp 128) 0, 3, "", #[], none⟩,
      ⟨some 133, .extract (.tmp 128) 1, 34, "", #[], none⟩,
      ⟨some 17, .assign (.tmp 132), 3, "", #[], none⟩,
      ⟨some 16, .assign (.tmp 133), 34, "", #[], none⟩] false)
    .skip))
  (.seq (.seq (.region 19 #[⟨some 134, .move (.tmp 6), 3, "", #[], none⟩,
    ⟨some 135, .move (.tmp 17), 3, "", #[], none⟩,
    ⟨some 136, .binOp .neq 3 (.tmp 134) (.tmp 135) 3, 4, "", #[], none⟩,
    ⟨some 137, .move (.tmp 136), 4, "", #[], none⟩,
    ⟨some 138, .move (.tmp 7), 3, "", #[], some (137, false)⟩,
    ⟨some 139, .binOp .neq 3 (.tmp 138) (.const (.int .i64 0)) 3, 4, "", #[], some (137, false)⟩,
    ⟨some 140, .pick (.tmp 137) (.const (.bool true)) (.tmp 139), 4, "", #[], none⟩,
    ⟨some 141, .move (.tmp 140), 4, "", #[], none⟩,
    ⟨some 142, .move (.tmp 8), 34, "", #[], some (141, false)⟩,
    ⟨some 143, .move (.tmp 16), 34, "", #[], some (141, false)⟩,
    ⟨some 144, .binOp .neq 34 (.tmp 142) (.tmp 143) 34, 4, "", #[], some (141, false)⟩,
    ⟨some 145, .pick (.tmp 141) (.const (.bool true)) (.tmp 144), 4, "", #[], none⟩] false)
  (.cond (.tmp 145)
    (.seq (.region 20 #[⟨some 2, .assign (.const (.bool false)), 4, "", #[], none⟩] false)
    .ret)
    .skip))
  (.seq (.seq (.region 21 #[⟨some 146, .move (.tmp 8), 34, "", #[], none⟩,
    ⟨some 147, .binOp .neq 34 (.tmp 146) (.const (.int .i64 0)) 34, 4, "", #[], none⟩] false)
  (.cond (.tmp 147)
    (.seq (.region 22 #[⟨some 148, .call { callee := .value (.func 10), args := #[], argTypes := #[] }, 4, "", #[], none⟩,
      ⟨some 2, .assign (.tmp 148), 4, "", #[], none⟩] false)
    .ret)
    .skip))
  (.seq (.region 23 #[⟨some 150, .move (.tmp 6), 3, "", #[], none⟩,
    ⟨some 151, .call { callee := .value (.func 20), args := #[.tmp 150], argTypes := #[3] }, 37, "", #[], none⟩,
    ⟨some 149, .move (.tmp 151), 37, "", #[], none⟩,
    ⟨some 152, .extract (.tmp 149) 0, 30, "", #[], none⟩,
    ⟨some 153, .extract (.tmp 149) 1, 34, "", #[], none⟩,
    ⟨some 18, .assign (.tmp 152), 30, "", #[], none⟩,
    ⟨some 19, .assign (.tmp 153), 34, "", #[], none⟩] false)
  (.seq (.region 24 #[⟨some 154, .move (.tmp 19), 34, "", #[], none⟩,
    ⟨some 155, .binOp .eql 34 (.tmp 154) (.const (.int .i64 0)) 34, 4, "", #[], none⟩,
    ⟨some 156, .move (.tmp 155), 4, "", #[], none⟩,
    ⟨some 157, .move (.tmp 18), 30, "", #[], some (156, true)⟩,
    ⟨some 158, .convert 30 9 (.tmp 157), 9, "", #[], some (156, true)⟩,
    ⟨some 159, .move (.tmp 0), 30, "", #[], some (156, true)⟩,
    ⟨some 160, .convert 30 9 (.tmp 159), 9, "", #[], some (156, true)⟩,
    ⟨some 161, .binOp .eql 9 (.tmp 158) (.tmp 160) 9, 4, "", #[], some (156, true)⟩,
    ⟨some 162, .pick (.tmp 156) (.tmp 161) (.const (.bool false)), 4, "", #[], none⟩,
    ⟨some 163, .move (.tmp 162), 4, "", #[], none⟩,
    ⟨some 164, .call { callee := .value (.func 10), args := #[], argTypes := #[] }, 4, "", #[], some (163, true)⟩,
    ⟨some 165, .pick (.tmp 163) (.tmp 164) (.const (.bool false)), 4, "", #[], none⟩,
    ⟨some 2, .assign (.tmp 165), 4, "", #[], none⟩] false)
  .ret))))))))))))))))
def fn5 : AFn := { ntmps := 166, results := [.tmp 2], body := c5, keep := fun | 0 => some [0] | 1 => some [0, 22] | 2 => some [2] | 3 => some [0, 3, 4, 5] | 4 => some [0, 3, 4, 5, 6, 7, 8] | 5 => some [0, 3, 4, 5, 6, 7, 8, 9, 10, 11] | 6 => some [0, 3, 4, 5, 6, 7, 8, 9, 10, 11, 43] | 7 => some [2] | 8 => some [0, 3, 4, 5, 6, 7, 8, 9, 12, 13] | 9 => some [0, 3, 5, 6, 7, 8, 9, 107] | 10 => some [2] | 11 => some [0, 3, 6, 7, 8, 9, 109] | 12 => some [0, 6, 7, 8, 9, 14, 15] | 13 => some [0, 6, 7, 8, 9, 123] | 14 => some [2] | 15 => some [0, 6, 7, 8, 9, 16] | 16 => some [0, 6, 7, 8, 9, 16, 17] | 17 => some [0, 6, 7, 8, 9, 16, 17, 127] | 18 => some [0, 6, 7, 8, 16, 17] | 19 => some [0, 6, 8, 145] | 20 => some [2] | 21 => some [0, 6, 147] | 22 => some [2] | 23 => some [0, 18, 19] | 24 => some [2] | _ => none, head := fun  | _ => none, opn := fun _ => none, dyn := fun _ => [] }
/-- vidimus/vidimuslaw19.ConstraintsErrors -/
def c6 : Code :=
  (.seq (.region 0 #[⟨some 4, .assign (.const (.bool false)), 4, "", #[], none⟩] false)
  (.seq (.region 1 #[⟨some 12, .move (.tmp 0), 3, "", #[], none⟩,
    ⟨some 13, .move (.tmp 1), 3, "", #[], none⟩,
    ⟨some 14, .build 25 #[(0, .tmp 12), (1, .tmp 13)], 25, "", #[], none⟩,
    ⟨some 5, .alloc 25, 0, "", #[], none⟩,
    ⟨none, .store 25 (.tmp 5) (.tmp 14), 0, "", #[], none⟩] false)
  (.seq (.region 2 #[⟨some 15, .load 25 (.tmp 5), 25, "", #[], none⟩,
    ⟨some 16, .call { callee := .value (.func 25), args := #[.tmp 15], argTypes := #[25] }, 34, "", #[], none⟩,
    ⟨some 6, .assign (.tmp 16), 34, "", #[], none⟩] false)
  (.seq (.region 3 #[⟨some 18, .load 25 (.tmp 5), 25, "", #[], none⟩,
    ⟨some 19, .call { callee := .value (.func 11), args := #[.tmp 18], argTypes := #[25] }, 35, "", #[], none⟩,
    ⟨some 17, .move (.tmp 19), 35, "", #[], none⟩,
    ⟨some 20, .extract (.tmp 17) 0, 33, "", #[], none⟩,
    ⟨some 21, .extract (.tmp 17) 1, 34, "", #[], none⟩,
    ⟨some 7, .alloc 33, 0, "", #[], none⟩,
    ⟨none, .store 33 (.tmp 7) (.tmp 20), 0, "", #[], none⟩,
    ⟨some 8, .assign (.tmp 21), 34, "", #[], none⟩] false)
  (.seq (.region 4 #[⟨some 23, .load 25 (.tmp 5), 25, "", #[], none⟩,
    ⟨some 24, .call { callee := .value (.func 12), args := #[.tmp 23], argTypes := #[25] }, 37, "", #[], none⟩,
    ⟨some 22, .move (.tmp 24), 37, "", #[], none⟩,
    ⟨some 25, .extract (.tmp 22) 0, 30, "", #[], none⟩,
    ⟨some 26, .extract (.tmp 22) 1, 34, "", #[], none⟩,
    ⟨some 9, .assign (.tmp 25), 30, "", #[], none⟩,
    ⟨some 10, .assign (.tmp 26), 34, "", #[], none⟩] false)
  (.seq (.seq (.region 5 #[⟨some 27, .load 25 (.tmp 5), 25, "", #[], none⟩,
    ⟨some 28, .call { callee := .value (.func 14), args := #[.tmp 27], argTypes := #[25] }, 34, "", #[], none⟩,
    ⟨some 29, .move (.tmp 6), 34, "", #[], none⟩,
    ⟨some 30, .binOp .neq 34 (.tmp 28) (.tmp 29) 34, 4, "", #[], none⟩,
    ⟨some 31, .move (.tmp 30), 4, "", #[], none⟩,
    ⟨some 32, .move (.tmp 8), 34, "", #[], some (31, false)⟩,
    ⟨some 33, .move (.tmp 6), 34, "", #[], some (31, false)⟩,
    ⟨some 34, .binOp .neq 34 (.tmp 32) (.tmp 33) 34, 4, "", #[], some (31, false)⟩,
    ⟨some 35, .pick (.tmp 31) (.const (.bool true)) (.tmp 34), 4, "", #[], none⟩,
    ⟨some 36, .move (.tmp 35), 4, "", #[], none⟩,
    ⟨some 37, .move (.tmp 10), 34, "", #[], some (36, false)⟩,
    ⟨some 38, .move (.tmp 6), 34, "", #[], some (36, false)⟩,
    ⟨some 39, .binOp .neq 34 (.tmp 37) (.tmp 38) 34, 4, "", #[], some (36, false)⟩,
    ⟨some 40, .pick (.tmp 36) (.const (.bool true)) (.tmp 39), 4, "", #[], none⟩,
    ⟨some 41, .move (.tmp 40), 4, "", #[], none⟩,
    ⟨some 42, .move (.tmp 6), 34, "", #[], some (41, false)⟩,
    ⟨some 43, .binOp .neq 34 (.tmp 42) (.const (.int .i64 0)) 34, 4, "", #[], some (41, false)⟩,
    ⟨some 44, .move (.tmp 43), 4, "", #[], some (41, false)⟩,
    ⟨some 45, .move (.tmp 9), 30, "", #[], some (44, true)⟩,
    ⟨some 46, .call { callee := .builtin .len, args := #[.tmp 45], argTypes := #[30] }, 3, "", #[], some (44, true)⟩,
    ⟨some 47, .binOp .gtr 3 (.tmp 46) (.const (.int .i64 0)) 3, 4, "", #[], some (44, true)⟩,
    ⟨some 48, .move (.tmp 47), 4, "", #[], some (44, true)⟩,
    ⟨some 49, .load 33 (.tmp 7), 33, "", #[], some (48, false)⟩,
    ⟨some 50, .build 33 #[], 33, "", #[], some (48, false)⟩,
    ⟨some 51, .call { callee := .value (.func 15), args := #[.tmp 49, .tmp 50], argTypes := #[33, 33] }, 3, "", #[], some (48, false)⟩,
    ⟨some 52, .binOp .eql 3 (.tmp 51) (.const (.int .i64 0)) 3, 4, "", #[], some (48, false)⟩,
    ⟨some 53, .pick (.tmp 48) (.const (.bool true)) (.tmp 52), 4, "", #[], some (44, true)⟩,
    ⟨some 54, .pick (.tmp 44) (.tmp 53) (.const (.bool false)), 4, "", #[], some (41, false)⟩,
    ⟨some 55, .pick (.tmp 41) (.const (.bool true)) (.tmp 54), 4, "", #[], none⟩] false)
  (.cond (.tmp 55)
    (.seq (.region 6 #[⟨some 4, .assign (.const (.bool false)), 4, "", #[], none⟩] false)
    .ret)
    .skip))
  (.seq (.region 7 #[⟨some 57, .move (.tmp 0), 3, "", #[], none⟩,
    ⟨some 58, .call { callee := .value (.func 20), args := #[.tmp 57], argTypes := #[3] }, 37, "", #[], none⟩,
    ⟨some 56, .move (.tmp 58), 37, "", #[], none⟩,
    ⟨some 59, .extract (.tmp 56) 0, 30, "", #[], none⟩,
    ⟨some 60, .extract (.tmp 56) 1, 34, "", #[], none⟩,
    ⟨some 11, .assign (.tmp 59), 30, "", #[], none⟩,
    ⟨some 8, .assign (.tmp 60), 34, "", #[], none⟩] false)
  (.seq (.seq (.region 8 #[⟨some 61, .move (.tmp 0), 3, "", #[], none⟩,
    ⟨some 62, .binOp .lss 3 (.tmp 61) (.const (.int .i64 0)) 3, 4, "", #[], none⟩,
    ⟨some 63, .move (.tmp 62), 4, "", #[], none⟩,
    ⟨some 64, .move (.tmp 0), 3, "", #[], some (63, false)⟩,
    ⟨some 65, .binOp .gtr 3 (.tmp 64) (.const (.int .i64 2147483647)) 3, 4, "", #[], some (63, false)⟩,
    ⟨some 66, .pick (.tmp 63) (.const (.bool true)) (.tmp 65), 4, "", #[], none⟩] false)
  (.cond (.tmp 66)
    (.seq (.region 9 #[⟨some 67, .move (.tmp 8), 34, "", #[], none⟩,
      ⟨some 68, .binOp .eql 34 (.tmp 67) (.const (.int .i64 1)) 34, 4, "", #[], none⟩,
      ⟨some 69, .move (.tmp 68), 4, "", #[], none⟩,
      ⟨some 70, .move (.tmp 11), 30, "", #[], some (69, true)⟩,
      ⟨some 71, .call { callee := .builtin .len, args := #[.tmp 70], argTypes := #[30] }, 3, "", #[], some (69, true)⟩,
      ⟨some 72, .binOp .eql 3 (.tmp 71) (.const (.int .i64 0)) 3, 4, "", #[], some (69, true)⟩,
      ⟨some 73, .pick (.tmp 69) (.tmp 72) (.const (.bool false)), 4, "", #[], none⟩,
      ⟨some 74, .move (.tmp 73), 4, "", #[], none⟩,
      ⟨some 75, .call { callee := .value (.func 10), args := #[], argTypes := #[] }, 4, "", #[], some (74, true)⟩,
      ⟨some 76, .pick (.tmp 74) (.tmp 75) (.const (.bool false)), 4, "", #[], none⟩,
      ⟨some 4, .assign (.tmp 76), 4, "", #[], none⟩] false)
    .ret)
    .skip))
  (.seq (.region 10 #[⟨some 77, .move (.tmp 8), 34, "", #[], none⟩,
    ⟨some 78, .binOp .eql 34 (.tmp 77) (.const (.int .i64 0)) 34, 4, "", #[], none⟩,
    ⟨some 79, .move (.tmp 78), 4, "", #[], none⟩,
    ⟨some 80, .call { callee := .value (.func 10), args := #[], argTypes := #[] }, 4, "", #[], some (79, true)⟩,
    ⟨some 81, .pick (.tmp 79) (.tmp 80) (.const (.bool false)), 4, "", #[], none⟩,
    ⟨some 4, .assign (.tmp 81), 4, "", #[], none⟩] false)
  .ret)))))))))
def fn6 : AFn := { ntmps := 82, results := [.tmp 4], body := c6, keep := fun | 0 => some [0, 1] | 1 => some [0, 5] | 2 => some [0, 5, 6] | 3 => some [0, 5, 6, 7, 8] | 4 => some [0, 5, 6, 7, 8, 9, 10] | 5 => some [0, 55] | 6 => some [4] | 7 => some [0, 8, 11] | 8 => some [8, 11, 66] | 9 => some [4] | 10 => some [4] | _ => none, head := fun  | _ => none, opn := fun _ => none, dyn := fun _ => [] }
/-- vidimus/vidimuslaw19.ConstraintsLess -/
def c7 : Code :=
  (.seq (.region 0 #[⟨some 6, .assign (.const (.bool false)), 4, "", #[], none⟩] false)
  (.seq (.region 1 #[⟨some 11, .move (.tmp 0), 3, "", #[], none⟩,
    ⟨some 12, .move (.tmp 1), 3, "", #[], none⟩,
    ⟨some 13, .call { callee := .value (.func 29), args := #[.tmp 11, .tmp 12], argTypes := #[3, 3] }, 3, "", #[], none⟩,
    ⟨some 7, .assign (.tmp 13), 3, "", #[], none⟩] false)
  (.seq (.seq (.region 2 #[⟨some 14, .move (.tmp 7), 3, "", #[], none⟩,
    ⟨some 15, .move (.tmp 0), 3, "", #[], none⟩,
    ⟨some 16, .move (.tmp 1), 3, "", #[], none⟩,
    ⟨some 17, .call { callee := .value (.func 30), args := #[.tmp 15, .tmp 16], argTypes := #[3, 3] }, 3, "", #[], none⟩,
    ⟨some 18, .binOp .neq 3 (.tmp 14) (.tmp 17) 3, 4, "", #[], none⟩,
    ⟨some 19, .move (.tmp 18), 4, "", #[], none⟩,
    ⟨some 20, .move (.tmp 1), 3, "", #[], some (19, false)⟩,
    ⟨some 21, .move (.tmp 0), 3, "", #[], some (19, false)⟩,
    ⟨some 22, .call { callee := .value (.func 29), args := #[.tmp 20, .tmp 21], argTypes := #[3, 3] }, 3, "", #[], some (19, false)⟩,
    ⟨some 23, .move (.tmp 7), 3, "", #[], some (19, false)⟩,
    ⟨some 24, .binOp .neq 3 (.tmp 22) (.tmp 23) 3, 4, "", #[], some (19, false)⟩,
    ⟨some 25, .pick (.tmp 19) (.const (.bool true)) (.tmp 24), 4, "", #[], none⟩,
    ⟨some 26, .move (.tmp 25), 4, "", #[], none⟩,
    ⟨some 27, .move (.tmp 7), 3, "", #[], some (26, false)⟩,
    ⟨some 28, .move (.tmp 2), 3, "", #[], some (26, false)⟩,
    ⟨some 29, .call { callee := .value (.func 29), args := #[.tmp 27, .tmp 28], argTypes := #[3, 3] }, 3, "", #[], some (26, false)⟩,
    ⟨some 30, .move (.tmp 0), 3, "", #[], some (26, false)⟩,
    ⟨some 31, .move (.tmp 1), 3, "", #[], some (26, false)⟩,
    ⟨some 32, .move (.tmp 2), 3, "", #[], some (26, false)⟩,
    ⟨some 33, .call { callee := .value (.func 29), args := #[.tmp 31, .tmp 32], argTypes := #[3, 3] }, 3, "", #[], some (26, false)⟩,
    ⟨some 34, .call { callee := .value (.func 29), args := #[.tmp 30, .tmp 33], argTypes := #[3, 3] }, 3, "", #[], some (26, false)⟩,
    ⟨some 35, .binOp .neq 3 (.tmp 29) (.tmp 34) 3, 4, "", #[], some (26, false)⟩,
    ⟨some 36, .pick (.tmp 26) (.const (.bool true)) (.tmp 35), 4, "", #[], none⟩] false)
  (.cond (.tmp 36)
    (.seq (.region 3 #[⟨some 6, .assign (.const (.bool false)), 4, "", #[], none⟩] false)
    .ret)
    .skip))
  (.seq (.region 4 #[⟨some 37, .move (.tmp 0), 3, "", #[], none⟩,
    ⟨some 38, .move (.tmp 1), 3, "", #[], none⟩,
    ⟨some 39, .build 25 #[(0, .tmp 37), (1, .tmp 38)], 25, "", #[], none⟩,
    ⟨some 8, .alloc 25, 0, "", #[], none⟩,
    ⟨none, .store 25 (.tmp 8) (.tmp 39), 0, "", #[], none⟩] false)
  (.seq (.region 5 #[⟨some 40, .move (.tmp 2), 3, "", #[], none⟩,
    ⟨some 41, .move (.tmp 0), 3, "", #[], none⟩,
    ⟨some 42, .build 25 #[(0, .tmp 40), (1, .tmp 41)], 25, "", #[], none⟩,
    ⟨some 9, .alloc 25, 0, "", #[], none⟩,
    ⟨none, .store 25 (.tmp 9) (.tmp 42), 0, "", #[], none⟩] false)
  (.seq (.region 6 #[⟨some 43, .load 25 (.tmp 8), 25, "", #[], none⟩,
    ⟨some 44, .load 25 (.tmp 9), 25, "", #[], none⟩,
    ⟨some 45, .call { callee := .value (.func 31), args := #[.tmp 43, .tmp 44], argTypes := #[25, 25] }, 25, "", #[], none⟩,
    ⟨some 10, .alloc 25, 0, "", #[], none⟩,
    ⟨none, .store 25 (.tmp 10) (.tmp 45), 0, "", #[], none⟩] false)
  (.seq (.seq (.region 7 #[⟨some 46, .fieldAddr 25 (.tmp 10) 0, 0, "", #[], none⟩,
    ⟨some 47, .load 3 (.tmp 46), 3, "", #[], none⟩,
    ⟨some 48, .move (.tmp 0), 3, "", #[], none⟩,
    ⟨some 49, .move (.tmp 2), 3, "", #[], none⟩,
    ⟨some 50, .call { callee := .value (.func 30), args := #[.tmp 48, .tmp 49], argTypes := #[3, 3] }, 3, "", #[], none⟩,
    ⟨some 51, .binOp .neq 3 (.tmp 47) (.tmp 50) 3, 4, "", #[], none⟩,
    ⟨some 52, .move (.tmp 51), 4, "", #[], none⟩,
    ⟨some 53, .fieldAddr 25 (.tmp 10) 1, 0, "", #[], some (52, false)⟩,
    ⟨some 54, .load 3 (.tmp 53), 3, "", #[], some (52, false)⟩,
    ⟨some 55, .move (.tmp 1), 3, "", #[], some (52, false)⟩,
    ⟨some 56, .move (.tmp 0), 3, "", #[], some (52, false)⟩,
    ⟨some 57, .call { callee := .value (.func 30), args := #[.tmp 55, .tmp 56], argTypes := #[3, 3] }, 3, "", #[], some (52, false)⟩,
    ⟨some 58, .binOp .neq 3 (.tmp 54) (.tmp 57) 3, 4, "", #[], some (52, false)⟩,
    ⟨some 59, .pick (.tmp 52) (.const (.bool true)) (.tmp 58), 4, "", #[], none⟩] true)
  (.cond (.tmp 59)
    (.seq (.region 8 #[⟨some 6, .assign (.const (.bool false)), 4, "", #[], none⟩] false)
    .ret)
    .skip))
  (.seq (.seq (.region 9 #[⟨some 60, .load 25 (.tmp 8), 25, "", #[], none⟩,
    ⟨some 61, .call { callee := .value (.func 25), args := #[.tmp 60], argTypes := #[25] }, 34, "", #[], none⟩,
    ⟨some 62, .binOp .eql 34 (.tmp 61) (.const (.int .i64 0)) 34, 4, "", #[], none⟩,
    ⟨some 63, .move (.tmp 62), 4, "", #[], none⟩,
    ⟨some 64, .load 25 (.tmp 9), 25, "", #[], some (63, true)⟩,
    ⟨some 65, .call { callee := .value (.func 25), args := #[.tmp 64], argTypes := #[25] }, 34, "", #[], some (63, true)⟩,
    ⟨some 66, .binOp .eql 34 (.tmp 65) (.const (.int .i64 0)) 34, 4, "", #[], some (63, true)⟩,
    ⟨some 67, .pick (.tmp 63) (.tmp 66) (.const (.bool false)), 4, "", #[], none⟩,
    ⟨some 68, .move (.tmp 67), 4, "", #[], none⟩,
    ⟨some 69, .load 25 (.tmp 10), 25, "", #[], some (68, true)⟩,
    ⟨some 70, .call { callee := .value (.func 14), args := #[.tmp 69], argTypes := #[25] }, 34, "", #[], some (68, true)⟩,
    ⟨some 71, .binOp .neq 34 (.tmp 70) (.const (.int .i64 0)) 34, 4, "", #[], some (68, true)⟩,
    ⟨some 72, .pick (.tmp 68) (.tmp 71) (.const (.bool false)), 4, "", #[], none⟩] false)
  (.cond (.tmp 72)
    (.seq (.region 10 #[⟨some 6, .assign (.const (.bool false)), 4, "", #[], none⟩] false)
    .ret)
    .skip))
  (.seq (.region 11 #[⟨some 73, .move (.tmp 0), 3, "", #[], none⟩,
    ⟨some 74, .call { callee := .value (.func 29), args := #[.tmp 73, .const (.int .i64 (-1))], argTypes := #[3, 3] }, 3, "", #[], none⟩,
    ⟨some 75, .move (.tmp 0), 3, "", #[], none⟩,
    ⟨some 76, .call { callee := .builtin .max, args := #[.tmp 75, .const (.int .i64 (-1))], argTypes := #[3, 3] }, 3, "", #[], none⟩,
    ⟨some 77, .binOp .eql 3 (.tmp 74) (.tmp 76) 3, 4, "", #[], none⟩,
    ⟨some 78, .move (.tmp 77), 4, "", #[], none⟩,
    ⟨some 79, .call { callee := .value (.func 10), args := #[], argTypes := #[] }, 4, "", #[], some (78, true)⟩,
    ⟨some 80, .pick (.tmp 78) (.tmp 79) (.const (.bool false)), 4, "", #[], none⟩,
    ⟨some 6, .assign (.tmp 80), 4, "", #[], none⟩] false)
  .ret)))))))))
def fn7 : AFn := { ntmps := 81, results := [.tmp 6], body := c7, keep := fun | 0 => some [0, 1, 2] | 1 => some [0, 1, 2, 7] | 2 => some [0, 1, 2, 36] | 3 => some [6] | 4 => some [0, 1, 2, 8] | 5 => some [0, 1, 2, 8, 9] | 6 => some [0, 1, 2, 8, 9, 10] | 7 => some [0, 8, 9, 10, 59] | 8 => some [6] | 9 => some [0, 72] | 10 => some [6] | 11 => some [6] | _ => none, head := fun  | _ => none, opn := fun _ => none, dyn := fun _ => [] }
/-- vidimus/vidimuslaw19.ConstraintsKnown -/
def c8 : Code :=
  (.seq (.region 0 #[⟨some 0, .assign (.const (.bool false)), 4, "", #[], none⟩] false)
  (.seq (.region 1 #[⟨some 23, .buildSlice 43 10 #[(0, .const (.int .i64 0)), (1, .const (.int .i64 1)), (2, .const (.int .i64 127)), (3, .const (.int .i64 128)), (4, .const (.int .i64 255)), (5, .const (.int .i64 256)), (6, .const (.int .i64 32767)), (7, .const (.int .i64 32768)), (8, .const (.int .i64 8388608)), (9, .const (.int .i64 2147483647))], 43, "", #[], none⟩,
    ⟨some 1, .assign (.tmp 23), 43, "", #[], none⟩] false)
  (.seq (.seq (.region 2 #[⟨some 2, .assign (.const (.int .i64 0)), 3, "", #[], none⟩] false)
  (.block 0 (.loop (.seq (.seq (.region 3 #[⟨some 24, .move (.tmp 2), 3, "", #[], none⟩,
    ⟨some 25, .move (.tmp 1), 43, "", #[], none⟩,
    ⟨some 26, .call { callee := .builtin .len, args := #[.tmp 25], argTypes := #[43] }, 3, "", #[], none⟩,
    ⟨some 27, .binOp .lss 3 (.tmp 24) (.tmp 26) 3, 4, "", #[], none⟩] false)
  (.cond (.tmp 27)
    .skip
    (.exit 0)))
  (.seq (.block 1 (.seq (.region 5 #[⟨some 30, .move (.tmp 1), 43, "", #[], none⟩,
    ⟨some 31, .move (.tmp 2), 3, "", #[], none⟩,
    ⟨some 32, .indexAddr 43 (.tmp 30) (.tmp 31), 0, "", #[], none⟩,
    ⟨some 33, .load 3 (.tmp 32), 3, "", #[], none⟩,
    ⟨some 34, .move (.tmp 1), 43, "", #[], none⟩,
    ⟨some 35, .move (.tmp 1), 43, "", #[], none⟩,
    ⟨some 36, .call { callee := .builtin .len, args := #[.tmp 35], argTypes := #[43] }, 3, "", #[], none⟩,
    ⟨some 37, .binOp .sub 3 (.tmp 36) (.const (.int .i64 1)) 3, 3, "", #[], none⟩,
    ⟨some 38, .move (.tmp 2), 3, "", #[], none⟩,
    ⟨some 39, .binOp .sub 3 (.tmp 37) (.tmp 38) 3, 3, "", #[], none⟩,
    ⟨some 40, .indexAddr 43 (.tmp 34) (.tmp 39), 0, "", #[], none⟩,
    ⟨some 41, .load 3 (.tmp 40), 3, "", #[], none⟩,
    ⟨some 42, .build 25 #[(0, .tmp 33), (1, .tmp 41)], 25, "", #[], none⟩,
    ⟨some 3, .alloc 25, 0, "", #[], none⟩,
    ⟨none, .store 25 (.tmp 3) (.tmp 42), 0, "", #[], none⟩] true)
  (.seq (.region 6 #[⟨some 44, .load 25 (.tmp 3), 25, "", #[], none⟩,
    ⟨some 45, .call { callee := .value (.func 12), args := #[.tmp 44], argTypes := #[25] }, 37, "", #[], none⟩,
    ⟨some 43, .move (.tmp 45), 37, "", #[], none⟩,
    ⟨some 46, .extract (.tmp 43) 0, 30, "", #[], none⟩,
    ⟨some 47, .extract (.tmp 43) 1, 34, "", #[], none⟩,
    ⟨some 4, .assign (.tmp 46), 30, "", #[], none⟩,
    ⟨some 5, .assign (.tmp 47), 34, "", #[], none⟩] false)
  (.seq (.region 7 #[⟨some 49, .move (.tmp 4), 30, "", #[], none⟩,
    ⟨some 50, .call { callee := .value (.func 18), args := #[.tmp 49], argTypes := #[30] }, 48, "", #[], none⟩,
    ⟨some 48, .move (.tmp 50), 48, "", #[], none⟩,
    ⟨some 51, .extract (.tmp 48) 0, 25, "", #[], none⟩,
    ⟨some 52, .extract (.tmp 48) 1, 3, "", #[], none⟩,
    ⟨some 53, .extract (.tmp 48) 2, 34, "", #[], none⟩,
    ⟨some 6, .alloc 25, 0, "", #[], none⟩,
    ⟨none, .store 25 (.tmp 6) (.tmp 51), 0, "", #[], none⟩,
    ⟨some 7, .assign (.tmp 52), 3, "", #[], none⟩,
    ⟨some 8, .assign (.tmp 53), 34, "", #[], none⟩] false)
  (.seq (.region 8 #[⟨some 55, .move (.tmp 1), 43, "", #[], none⟩,
    ⟨some 56, .move (.tmp 2), 3, "", #[], none⟩,
    ⟨some 57, .indexAddr 43 (.tmp 55) (.tmp 56), 0, "", #[], none⟩,
    ⟨some 58, .load 3 (.tmp 57), 3, "", #[], none⟩,
    ⟨some 59, .call { callee := .value (.func 20), args := #[.tmp 58], argTypes := #[3] }, 37, "", #[], none⟩,
    ⟨some 54, .move (.tmp 59), 37, "", #[], none⟩,
    ⟨some 60, .extract (.tmp 54) 0, 30, "", #[], none⟩,
    ⟨some 61, .extract (.tmp 54) 1, 34, "", #[], none⟩,
    ⟨some 9, .assign (.tmp 60), 30, "", #[], none⟩,
    ⟨some 10, .assign (.tmp 61), 34, "", #[], none⟩] false)
  (.seq (.region 9 #[⟨some 63, .move (.tmp 9), 30, "", #[], none⟩,
    ⟨some 64, .call { callee := .value (.func 21), args := #[.tmp 63], argTypes := #[30] }, 52, "", #[], none⟩,
    ⟨some 62, .move (.tmp 64), 52, "", #[], none⟩,
    ⟨some 65, .extract (.tmp 62) 0, 3, "", #[], none⟩,
    ⟨some 66, .extract (.tmp 62) 1, 3, "", #[], none⟩,
    ⟨some 67, .extract (.tmp 62) 2, 34, "", #[], none⟩,
    ⟨some 11, .assign (.tmp 65), 3, "", #[], none⟩,
    ⟨some 12, .assign (.tmp 66), 3, "", #[], none⟩,
    ⟨some 13, .assign (.tmp 67), 34, "", #[], none⟩] false)
  (.seq (.region 10 #[⟨some 68, .move (.tmp 5), 34, "", #[], none⟩,
    ⟨some 69, .binOp .neq 34 (.tmp 68) (.const (.int .i64 0)) 34, 4, "", #[], none⟩,
    ⟨some 70, .move (.tmp 69), 4, "", #[], none⟩,
    ⟨some 71, .move (.tmp 8), 34, "", #[], some (70, false)⟩,
    ⟨some 72, .binOp .neq 34 (.tmp 71) (.const (.int .i64 0)) 34, 4, "", #[], some (70, false)⟩,
    ⟨some 73, .pick (.tmp 70) (.const (.bool true)) (.tmp 72), 4, "", #[], none⟩,
    ⟨some 74, .move (.tmp 73), 4, "", #[], none⟩,
    ⟨some 75, .move (.tmp 10), 34, "", #[], some (74, false)⟩,
    ⟨some 76, .binOp .neq 34 (.tmp 75) (.const (.int .i64 0)) 34, 4, "", #[], some (74, false)⟩,
    ⟨some 77, .pick (.tmp 74) (.const (.bool true)) (.tmp 76), 4, "", #[], none⟩,
    ⟨some 78, .move (.tmp 77), 4, "", #[], none⟩,
    ⟨some 79, .move (.tmp 13), 34, "", #[], some (78, false)⟩,
    ⟨some 80, .binOp .neq 34 (.tmp 79) (.const (.int .i64 0)) 34, 4, "", #[], some (78, false)⟩,
    ⟨some 81, .pick (.tmp 78) (.const (.bool true)) (.tmp 80), 4, "", #[], none⟩,
    ⟨some 82, .move (.tmp 81), 4, "", #[], none⟩,
    ⟨some 83, .move (.tmp 7), 3, "", #[], some (82, false)⟩,
    ⟨some 84, .binOp .neq 3 (.tmp 83) (.const (.int .i64 0)) 3, 4, "", #[], some (82, false)⟩,
    ⟨some 85, .pick (.tmp 82) (.const (.bool true)) (.tmp 84), 4, "", #[], none⟩,
    ⟨some 86, .move (.tmp 85), 4, "", #[], none⟩,
    ⟨some 87, .move (.tmp 12), 3, "", #[], some (86, false)⟩,
    ⟨some 88, .binOp .neq 3 (.tmp 87) (.const (.int .i64 0)) 3, 4, "", #[], some (86, false)⟩,
    ⟨some 89, .pick (.tmp 86) (.const (.bool true)) (.tmp 88), 4, "", #[], none⟩,
    ⟨some 90, .move (.tmp 89), 4, "", #[], none⟩,
    ⟨some 91, .load 25 (.tmp 3), 25, "", #[], some (90, false)⟩,
    ⟨some 92, .load 25 (.tmp 6), 25, "", #[], some (90, false)⟩,
    ⟨some 93, .binOp .neq 25 (.tmp 91) (.tmp 92) 25, 4, "", #[], some (90, false)⟩,
    ⟨some 94, .pick (.tmp 90) (.const (.bool true)) (.tmp 93), 4, "", #[], none⟩,
    ⟨some 95, .move (.tmp 94), 4, "", #[], none⟩,
    ⟨some 96, .move (.tmp 11), 3, "", #[], some (95, false)⟩,
    ⟨some 97, .move (.tmp 1), 43, "", #[], some (95, false)⟩,
    ⟨some 98, .move (.tmp 2), 3, "", #[], some (95, false)⟩,
    ⟨some 99, .indexAddr 43 (.tmp 97) (.tmp 98), 0, "", #[], some (95, false)⟩,
    ⟨some 100, .load 3 (.tmp 99), 3, "", #[], some (95, false)⟩,
    ⟨some 101, .binOp .neq 3 (.tmp 96) (.tmp 100) 3, 4, "", #[], some (95, false)⟩,
    ⟨some 102, .pick (.tmp 95) (.const (.bool true)) (.tmp 101), 4, "", #[], none⟩] false)
  (.cond (.tmp 102)
    (.seq (.region 11 #[⟨some 0, .assign (.const (.bool false)), 4, "", #[], none⟩] false)
    .ret)
    .skip))))))))
  (.region 4 #[⟨some 28, .move (.tmp 2), 3, "", #[], none⟩,
    ⟨some 29, .binOp .add 3 (.tmp 28) (.const (.int .i64 1)) 3, 3, "", #[], none⟩,
    ⟨some 2, .assign (.tmp 29), 3, "", #[], none⟩] false))))))
  (.seq (.region 12 #[⟨some 104, .buildSlice 30 12 #[(0, .const (.int .u8 48)), (1, .const (.int .u8 10)), (2, .const (.int .u8 128)), (3, .const (.int .u8 1)), (4, .const (.int .u8 0)), (5, .const (.int .u8 129)), (6, .const (.int .u8 5)), (7, .const (.int .u8 0)), (8, .const (.int .u8 128)), (9, .const (.int .u8 0)), (10, .const (.int .u8 0)), (11, .const (.int .u8 0))], 30, "", fz, none⟩,
    ⟨some 105, .call { callee := .value (.func 18), args := #[.tmp 104], argTypes := #[30] }, 48, "", #[], none⟩,
    ⟨some 103, .move (.tmp 105), 48, "", #[], none⟩,
    ⟨some 106, .extract (.tmp 103) 0, 25, "", #[], none⟩,
    ⟨some 107, .extract (.tmp 103) 1, 3, "", #[], none⟩,
    ⟨some 108, .extract (.tmp 103) 2, 34, "", #[], none⟩,
    ⟨some 14, .alloc 25, 0, "", #[], none⟩,
    ⟨none, .store 25 (.tmp 14) (.tmp 106), 0, "", #[], none⟩,
    ⟨some 15, .assign (.tmp 107), 3, "", #[], none⟩,
    ⟨some 16, .assign (.tmp 108), 34, "", #[], none⟩] false)
  (.seq (.region 13 #[⟨some 110, .buildSlice 30 6 #[(0, .const (.int .u8 48)), (1, .const (.int .u8 4)), (2, .const (.int .u8 128)), (3, .const (.int .u8 2)), (4, .const (.int .u8 0)), (5, .const (.int .u8 1))], 30, "", fz, none⟩,
    ⟨some 111, .call { callee := .value (.func 18), args := #[.tmp 110], argTypes := #[30] }, 48, "", #[], none⟩,
    ⟨some 109, .move (.tmp 111), 48, "", #[], none⟩,
    ⟨some 112, .extract (.tmp 109) 0, 25, "", #[], none⟩,
    ⟨some 113, .extract (.tmp 109) 1, 3, "", #[], none⟩,
    ⟨some 114, .extract (.tmp 109) 2, 34, "", #[], none⟩,
    ⟨some 17, .alloc 25, 0, "", #[], none⟩,
    ⟨none, .store 25 (.tmp 17) (.tmp 112), 0, "", #[], none⟩,
    ⟨some 18, .assign (.tmp 113), 3, "", #[], none⟩,
    ⟨some 19, .assign (.tmp 114), 34, "", #[], none⟩] false)
  (.seq (.region 14 #[⟨some 116, .buildSlice 30 3 #[(0, .const (.int .u8 10)), (1, .const (.int .u8 1)), (2, .const (.int .u8 0))], 30, "", fz, none⟩,
    ⟨some 117, .call { callee := .value (.func 21), args := #[.tmp 116], argTypes := #[30] }, 52, "", #[], none⟩,
    ⟨some 115, .move (.tmp 117), 52, "", #[], none⟩,
    ⟨some 118, .extract (.tmp 115) 0, 3, "", #[], none⟩,
    ⟨some 119, .extract (.tmp 115) 1, 3, "", #[], none⟩,
    ⟨some 120, .extract (.tmp 115) 2, 34, "", #[], none⟩,
    ⟨some 20, .assign (.tmp 118), 3, "", #[], none⟩,
    ⟨some 21, .assign (.tmp 119), 3, "", #[], none⟩,
    ⟨some 22, .assign (.tmp 120), 34, "", #[], none⟩] false)
  (.seq (.region 15 #[⟨some 121, .move (.tmp 15), 3, "", #[], none⟩,
    ⟨some 122, .binOp .eql 3 (.tmp 121) (.const (.int .i64 5)) 3, 4, "", #[], none⟩,
    ⟨some 123, .move (.tmp 122), 4, "", #[], none⟩,
    ⟨some 124, .move (.tmp 16), 34, "", #[], some (123, true)⟩,
    ⟨some 125, .binOp .eql 34 (.tmp 124) (.const (.int .i64 3)) 34, 4, "", #[], some (123, true)⟩,
    ⟨some 126, .pick (.tmp 123) (.tmp 125) (.const (.bool false)), 4, "", #[], none⟩,
    ⟨some 127, .move (.tmp 126), 4, "", #[], none⟩,
    ⟨some 128, .move (.tmp 18), 3, "", #[], some (127, true)⟩,
    ⟨some 129, .binOp .eql 3 (.tmp 128) (.const (.int .i64 2)) 3, 4, "", #[], some (127, true)⟩,
    ⟨some 130, .pick (.tmp 127) (.tmp 129) (.const (.bool false)), 4, "", #[], none⟩,
    ⟨some 131, .move (.tmp 130), 4, "", #[], none⟩,
    ⟨some 132, .move (.tmp 19), 34, "", #[], some (131, true)⟩,
    ⟨some 133, .binOp .eql 34 (.tmp 132) (.const (.int .i64 11)) 34, 4, "", #[], some (131, true)⟩,
    ⟨some 134, .pick (.tmp 131) (.tmp 133) (.const (.bool false)), 4, "", #[], none⟩,
    ⟨some 135, .move (.tmp 134), 4, "", #[], none⟩,
    ⟨some 136, .move (.tmp 22), 34, "", #[], some (135, true)⟩,
    ⟨some 137, .binOp .eql 34 (.tmp 136) (.const (.int .i64 9)) 34, 4, "", #[], some (135, true)⟩,
    ⟨some 138, .pick (.tmp 135) (.tmp 137) (.const (.bool false)), 4, "", #[], none⟩,
    ⟨some 139, .move (.tmp 138), 4, "", #[], none⟩,
    ⟨some 140, .build 25 #[(0, .const (.int .i64 2147483648))], 25, "", #[], some (139, true)⟩,
    ⟨some 141, .call { callee := .value (.func 14), args := #[.tmp 140], argTypes := #[25] }, 34, "", #[], some (139, true)⟩,
    ⟨some 142, .binOp .eql 34 (.tmp 141) (.const (.int .i64 1)) 34, 4, "", #[], some (139, true)⟩,
    ⟨some 143, .pick (.tmp 139) (.tmp 142) (.const (.bool false)), 4, "", #[], none⟩,
    ⟨some 144, .move (.tmp 143), 4, "", #[], none⟩,
    ⟨some 145, .call { callee := .value (.func 6), args := #[.const (.int .i64 2147483648), .const (.int .i64 (-1))], argTypes := #[3, 3] }, 4, "", #[], some (144, true)⟩,
    ⟨some 146, .pick (.tmp 144) (.tmp 145) (.const (.bool false)), 4, "", #[], none⟩,
    ⟨some 147, .move (.tmp 146), 4, "", #[], none⟩,
    ⟨some 148, .call { callee := .value (.func 6), args := #[.const (.int .i64 (-9223372036854775808)), .const (.int .i64 0)], argTypes := #[3, 3] }, 4, "", #[], some (147, true)⟩,
    ⟨some 149, .pick (.tmp 147) (.tmp 148) (.const (.bool false)), 4, "", #[], none⟩,
    ⟨some 150, .move (.tmp 149), 4, "", #[], none⟩,
    ⟨some 151, .call { callee := .value (.func 7), args := #[.const (.int .i64 4611686018427387904), .const (.int .i64 (-9223372036854775808)), .const (.int .i64 0)], argTypes := #[3, 3, 3] }, 4, "", #[], some (150, true)⟩,
    ⟨some 152, .pick (.tmp 150) (.tmp 151) (.const (.bool false)), 4, "", #[], none⟩,
    ⟨some 153, .move (.tmp 152), 4, "", #[], none⟩,
    ⟨some 154, .call { callee := .value (.func 10), args := #[], argTypes := #[] }, 4, "", #[], some (153, true)⟩,
    ⟨some 155, .pick (.tmp 153) (.tmp 154) (.const (.bool false)), 4, "", #[], none⟩,
    ⟨some 0, .assign (.tmp 155), 4, "", #[], none⟩] false)
  .ret)))))))
def fn8 : AFn := { ntmps := 156, results := [.tmp 0], body := c8, keep := fun | 0 => some [] | 1 => some [1] | 2 => some [1, 2] | 3 => some [1, 2, 27] | 4 => some [1, 2] | 5 => some [1, 2, 3] | 6 => some [1, 2, 3, 4, 5] | 7 => some [1, 2, 3, 5, 6, 7, 8] | 8 => some [1, 2, 3, 5, 6, 7, 8, 9, 10] | 9 => some [1, 2, 3, 5, 6, 7, 8, 10, 11, 12, 13] | 10 => some [1, 2, 102] | 11 => some [0] | 12 => some [15, 16] | 13 => some [15, 16, 18, 19] | 14 => some [15, 16, 18, 19, 22] | 15 => some [0] | _ => none, head := fun | 3 => some [1, 2] | _ => none, opn := fun _ => none, dyn := fun _ => [] }
/-- vidimus/vidimuslaw19.Skip -/
def c9 : Code :=
  (.seq (.region 0 #[⟨some 2, .assign (.const (.int .i64 0)), 3, "", #[], none⟩] false)
  (.seq (.seq (.region 1 #[⟨some 3, .move (.tmp 0), 22, "", #[], none⟩,
    ⟨some 4, .binOp .rem 22 (.tmp 3) (.const (.int .u32 8)) 22, 22, "", #[], none⟩,
    ⟨some 5, .binOp .eql 22 (.tmp 4) (.const (.int .u32 7)) 22, 4, "", #[], none⟩] false)
  (.cond (.tmp 5)
    (.seq (.region 2 #[⟨some 2, .assign (.const (.int .i64 (-1))), 3, "", #[], none⟩] false)
    .ret)
    .skip))
  (.seq (.region 3 #[⟨some 6, .move (.tmp 0), 22, "", #[], none⟩,
    ⟨some 7, .binOp .quo 22 (.tmp 6) (.const (.int .u32 8)) 22, 22, "", #[], none⟩,
    ⟨some 8, .move (.tmp 0), 22, "", #[], none⟩,
    ⟨some 9, .binOp .rem 22 (.tmp 8) (.const (.int .u32 8)) 22, 22, "", #[], none⟩,
    ⟨some 10, .binOp .quo 22 (.tmp 9) (.const (.int .u32 2)) 22, 22, "", #[], none⟩,
    ⟨some 11, .binOp .rem 22 (.tmp 10) (.const (.int .u32 3)) 22, 22, "", #[], none⟩,
    ⟨some 12, .binOp .shl 22 (.tmp 7) (.tmp 11) 22, 22, "", #[], none⟩,
    ⟨some 13, .convert 22 3 (.tmp 12), 3, "", #[], none⟩,
    ⟨some 2, .assign (.tmp 13), 3, "", #[], none⟩] false)
  .ret)))
def fn9 : AFn := { ntmps := 14, results := [.tmp 2], body := c9, keep := fun | 0 => some [0] | 1 => some [0, 5] | 2 => some [2] | 3 => some [2] | _ => none, head := fun  | _ => none, opn := fun _ => none, dyn := fun _ => [] }
/-- vidimus/vidimuslaw19.lives -/
def c10 : Code :=
  (.seq (.region 0 #[⟨some 0, .assign (.const (.bool false)), 4, "", #[], none⟩] false)
  (.seq (.region 1 #[⟨some 22, .build 25 #[(0, .const (.int .i64 0)), (1, .const (.int .i64 (-1)))], 25, "", #[], none⟩,
    ⟨some 23, .call { callee := .value (.func 12), args := #[.tmp 22], argTypes := #[25] }, 37, "", #[], none⟩,
    ⟨some 21, .move (.tmp 23), 37, "", #[], none⟩,
    ⟨some 24, .extract (.tmp 21) 0, 30, "", #[], none⟩,
    ⟨some 25, .extract (.tmp 21) 1, 34, "", #[], none⟩,
    ⟨some 1, .assign (.tmp 24), 30, "", #[], none⟩,
    ⟨some 2, .assign (.tmp 25), 34, "", #[], none⟩] false)
  (.seq (.region 2 #[⟨some 27, .build 25 #[(0, .const (.int .i64 (-1))), (1, .const (.int .i64 5))], 25, "", #[], none⟩,
    ⟨some 28, .call { callee := .value (.func 12), args := #[.tmp 27], argTypes := #[25] }, 37, "", #[], none⟩,
    ⟨some 26, .move (.tmp 28), 37, "", #[], none⟩,
    ⟨some 29, .extract (.tmp 26) 0, 30, "", #[], none⟩,
    ⟨some 30, .extract (.tmp 26) 1, 34, "", #[], none⟩,
    ⟨some 3, .assign (.tmp 29), 30, "", #[], none⟩,
    ⟨some 4, .assign (.tmp 30), 34, "", #[], none⟩] false)
  (.seq (.region 3 #[⟨some 32, .build 25 #[(0, .const (.int .i64 1)), (1, .const (.int .i64 200))], 25, "", #[], none⟩,
    ⟨some 33, .call { callee := .value (.func 12), args := #[.tmp 32], argTypes := #[25] }, 37, "", #[], none⟩,
    ⟨some 31, .move (.tmp 33), 37, "", #[], none⟩,
    ⟨some 34, .extract (.tmp 31) 0, 30, "", #[], none⟩,
    ⟨some 35, .extract (.tmp 31) 1, 34, "", #[], none⟩,
    ⟨some 5, .assign (.tmp 34), 30, "", #[], none⟩,
    ⟨some 6, .assign (.tmp 35), 34, "", #[], none⟩] false)
  (.seq (.seq (.region 4 #[⟨some 36, .move (.tmp 2), 34, "", #[], none⟩,
    ⟨some 37, .binOp .neq 34 (.tmp 36) (.const (.int .i64 0)) 34, 4, "", #[], none⟩,
    ⟨some 38, .move (.tmp 37), 4, "", #[], none⟩,
    ⟨some 39, .move (.tmp 4), 34, "", #[], some (38, false)⟩,
    ⟨some 40, .binOp .neq 34 (.tmp 39) (.const (.int .i64 0)) 34, 4, "", #[], some (38, false)⟩,
    ⟨some 41, .pick (.tmp 38) (.const (.bool true)) (.tmp 40), 4, "", #[], none⟩,
    ⟨some 42, .move (.tmp 41), 4, "", #[], none⟩,
    ⟨some 43, .move (.tmp 6), 34, "", #[], some (42, false)⟩,
    ⟨some 44, .binOp .neq 34 (.tmp 43) (.const (.int .i64 0)) 34, 4, "", #[], some (42, false)⟩,
    ⟨some 45, .pick (.tmp 42) (.const (.bool true)) (.tmp 44), 4, "", #[], none⟩,
    ⟨some 46, .move (.tmp 45), 4, "", #[], none⟩,
    ⟨some 47, .move (.tmp 1), 30, "", #[], some (46, false)⟩,
    ⟨some 48, .convert 30 9 (.tmp 47), 9, "", #[], some (46, false)⟩,
    ⟨some 49, .binOp .neq 9 (.tmp 48) (.const (.string { data := #[48, 3, 128, 1, 0] })) 9, 4, "", #[], some (46, false)⟩,
    ⟨some 50, .pick (.tmp 46) (.const (.bool true)) (.tmp 49), 4, "", #[], none⟩,
    ⟨some 51, .move (.tmp 50), 4, "", #[], none⟩,
    ⟨some 52, .move (.tmp 3), 30, "", #[], some (51, false)⟩,
    ⟨some 53, .convert 30 9 (.tmp 52), 9, "", #[], some (51, false)⟩,
    ⟨some 54, .binOp .neq 9 (.tmp 53) (.const (.string { data := #[48, 3, 129, 1, 5] })) 9, 4, "", #[], some (51, false)⟩,
    ⟨some 55, .pick (.tmp 51) (.const (.bool true)) (.tmp 54), 4, "", #[], none⟩,
    ⟨some 56, .move (.tmp 55), 4, "", #[], none⟩,
    ⟨some 57, .move (.tmp 5), 30, "", #[], some (56, false)⟩,
    ⟨some 58, .convert 30 9 (.tmp 57), 9, "", #[], some (56, false)⟩,
    ⟨some 59, .binOp .neq 9 (.tmp 58) (.const (.string { data := #[48, 7, 128, 1, 1, 129, 2, 0, 200] })) 9, 4, "", #[], some (56, false)⟩,
    ⟨some 60, .pick (.tmp 56) (.const (.bool true)) (.tmp 59), 4, "", #[], none⟩] false)
  (.cond (.tmp 60)
    (.seq (.region 5 #[⟨some 0, .assign (.const (.bool false)), 4, "", #[], none⟩] false)
    .ret)
    .skip))
  (.seq (.region 6 #[⟨some 62, .buildSlice 30 2 #[(0, .const (.int .u8 48)), (1, .const (.int .u8 0))], 30, "", fz, none⟩,
    ⟨some 63, .call { callee := .value (.func 18), args := #[.tmp 62], argTypes := #[30] }, 48, "", #[], none⟩,
    ⟨some 61, .move (.tmp 63), 48, "", #[], none⟩,
    ⟨some 64, .extract (.tmp 61) 0, 25, "", #[], none⟩,
    ⟨some 65, .extract (.tmp 61) 1, 3, "", #[], none⟩,
    ⟨some 66, .extract (.tmp 61) 2, 34, "", #[], none⟩,
    ⟨some 7, .alloc 25, 0, "", #[], none⟩,
    ⟨none, .store 25 (.tmp 7) (.tmp 64), 0, "", #[], none⟩,
    ⟨some 8, .assign (.tmp 65), 3, "", #[], none⟩,
    ⟨some 9, .assign (.tmp 66), 34, "", #[], none⟩] false)
  (.seq (.region 7 #[⟨some 68, .buildSlice 30 5 #[(0, .const (.int .u8 48)), (1, .const (.int .u8 3)), (2, .const (.int .u8 128)), (3, .const (.int .u8 1)), (4, .const (.int .u8 255))], 30, "", fz, none⟩,
    ⟨some 69, .call { callee := .value (.func 18), args := #[.tmp 68], argTypes := #[30] }, 48, "", #[], none⟩,
    ⟨some 67, .move (.tmp 69), 48, "", #[], none⟩,
    ⟨some 70, .extract (.tmp 67) 0, 25, "", #[], none⟩,
    ⟨some 71, .extract (.tmp 67) 1, 3, "", #[], none⟩,
    ⟨some 72, .extract (.tmp 67) 2, 34, "", #[], none⟩,
    ⟨some 10, .alloc 25, 0, "", #[], none⟩,
    ⟨none, .store 25 (.tmp 10) (.tmp 70), 0, "", #[], none⟩,
    ⟨some 11, .assign (.tmp 71), 3, "", #[], none⟩,
    ⟨some 12, .assign (.tmp 72), 34, "", #[], none⟩] false)
  (.seq (.region 8 #[⟨some 74, .buildSlice 30 8 #[(0, .const (.int .u8 48)), (1, .const (.int .u8 6)), (2, .const (.int .u8 129)), (3, .const (.int .u8 1)), (4, .const (.int .u8 0)), (5, .const (.int .u8 128)), (6, .const (.int .u8 1)), (7, .const (.int .u8 0))], 30, "", fz, none⟩,
    ⟨some 75, .call { callee := .value (.func 18), args := #[.tmp 74], argTypes := #[30] }, 48, "", #[], none⟩,
    ⟨some 73, .move (.tmp 75), 48, "", #[], none⟩,
    ⟨some 76, .extract (.tmp 73) 0, 25, "", #[], none⟩,
    ⟨some 77, .extract (.tmp 73) 1, 3, "", #[], none⟩,
    ⟨some 78, .extract (.tmp 73) 2, 34, "", #[], none⟩,
    ⟨some 13, .alloc 25, 0, "", #[], none⟩,
    ⟨none, .store 25 (.tmp 13) (.tmp 76), 0, "", #[], none⟩,
    ⟨some 14, .assign (.tmp 77), 3, "", #[], none⟩,
    ⟨some 15, .assign (.tmp 78), 34, "", #[], none⟩] false)
  (.seq (.region 9 #[⟨some 80, .call { callee := .value (.func 20), args := #[.const (.int .i64 0)], argTypes := #[3] }, 37, "", #[], none⟩,
    ⟨some 79, .move (.tmp 80), 37, "", #[], none⟩,
    ⟨some 81, .extract (.tmp 79) 0, 30, "", #[], none⟩,
    ⟨some 82, .extract (.tmp 79) 1, 34, "", #[], none⟩,
    ⟨some 16, .assign (.tmp 81), 30, "", #[], none⟩,
    ⟨some 17, .assign (.tmp 82), 34, "", #[], none⟩] false)
  (.seq (.region 10 #[⟨some 84, .buildSlice 30 7 #[(0, .const (.int .u8 2)), (1, .const (.int .u8 5)), (2, .const (.int .u8 0)), (3, .const (.int .u8 128)), (4, .const (.int .u8 0)), (5, .const (.int .u8 0)), (6, .const (.int .u8 0))], 30, "", fz, none⟩,
    ⟨some 85, .call { callee := .value (.func 21), args := #[.tmp 84], argTypes := #[30] }, 52, "", #[], none⟩,
    ⟨some 83, .move (.tmp 85), 52, "", #[], none⟩,
    ⟨some 86, .extract (.tmp 83) 0, 3, "", #[], none⟩,
    ⟨some 87, .extract (.tmp 83) 1, 3, "", #[], none⟩,
    ⟨some 88, .extract (.tmp 83) 2, 34, "", #[], none⟩,
    ⟨some 18, .assign (.tmp 86), 3, "", #[], none⟩,
    ⟨some 19, .assign (.tmp 87), 3, "", #[], none⟩,
    ⟨some 20, .assign (.tmp 88), 34, "", #[], none⟩] false)
  (.seq (.seq (.region 11 #[⟨some 89, .move (.tmp 8), 3, "", #[], none⟩,
    ⟨some 90, .binOp .neq 3 (.tmp 89) (.const (.int .i64 0)) 3, 4, "", #[], none⟩,
    ⟨some 91, .move (.tmp 90), 4, "", #[], none⟩,
    ⟨some 92, .move (.tmp 9), 34, "", #[], some (91, false)⟩,
    ⟨some 93, .binOp .neq 34 (.tmp 92) (.const (.int .i64 17)) 34, 4, "", #[], some (91, false)⟩,
    ⟨some 94, .pick (.tmp 91) (.const (.bool true)) (.tmp 93), 4, "", #[], none⟩,
    ⟨some 95, .move (.tmp 94), 4, "", #[], none⟩,
    ⟨some 96, .move (.tmp 11), 3, "", #[], some (95, false)⟩,
    ⟨some 97, .binOp .neq 3 (.tmp 96) (.const (.int .i64 2)) 3, 4, "", #[], some (95, false)⟩,
    ⟨some 98, .pick (.tmp 95) (.const (.bool true)) (.tmp 97), 4, "", #[], none⟩,
    ⟨some 99, .move (.tmp 98), 4, "", #[], none⟩,
    ⟨some 100, .move (.tmp 12), 34, "", #[], some (99, false)⟩,
    ⟨some 101, .binOp .neq 34 (.tmp 100) (.const (.int .i64 11)) 34, 4, "", #[], some (99, false)⟩,
    ⟨some 102, .pick (.tmp 99) (.const (.bool true)) (.tmp 101), 4, "", #[], none⟩,
    ⟨some 103, .move (.tmp 102), 4, "", #[], none⟩,
    ⟨some 104, .move (.tmp 14), 3, "", #[], some (103, false)⟩,
    ⟨some 105, .binOp .neq 3 (.tmp 104) (.const (.int .i64 5)) 3, 4, "", #[], some (103, false)⟩,
    ⟨some 106, .pick (.tmp 103) (.const (.bool true)) (.tmp 105), 4, "", #[], none⟩,
    ⟨some 107, .move (.tmp 106), 4, "", #[], none⟩,
    ⟨some 108, .move (.tmp 15), 34, "", #[], some (107, false)⟩,
    ⟨some 109, .binOp .neq 34 (.tmp 108) (.const (.int .i64 8)) 34, 4, "", #[], some (107, false)⟩,
    ⟨some 110, .pick (.tmp 107) (.const (.bool true)) (.tmp 109), 4, "", #[], none⟩,
    ⟨some 111, .move (.tmp 110), 4, "", #[], none⟩,
    ⟨some 112, .move (.tmp 17), 34, "", #[], some (111, false)⟩,
    ⟨some 113, .binOp .neq 34 (.tmp 112) (.const (.int .i64 0)) 34, 4, "", #[], some (111, false)⟩,
    ⟨some 114, .pick (.tmp 111) (.const (.bool true)) (.tmp 113), 4, "", #[], none⟩,
    ⟨some 115, .move (.tmp 114), 4, "", #[], none⟩,
    ⟨some 116, .move (.tmp 16), 30, "", #[], some (115, false)⟩,
    ⟨some 117, .convert 30 9 (.tmp 116), 9, "", #[], some (115, false)⟩,
    ⟨some 118, .binOp .neq 9 (.tmp 117) (.const (.string { data := #[2, 1, 0] })) 9, 4, "", #[], some (115, false)⟩,
    ⟨some 119, .pick (.tmp 115) (.const (.bool true)) (.tmp 118), 4, "", #[], none⟩,
    ⟨some 120, .move (.tmp 119), 4, "", #[], none⟩,
    ⟨some 121, .move (.tmp 19), 3, "", #[], some (120, false)⟩,
    ⟨some 122, .binOp .neq 3 (.tmp 121) (.const (.int .i64 0)) 3, 4, "", #[], some (120, false)⟩,
    ⟨some 123, .pick (.tmp 120) (.const (.bool true)) (.tmp 122), 4, "", #[], none⟩,
    ⟨some 124, .move (.tmp 123), 4, "", #[], none⟩,
    ⟨some 125, .move (.tmp 20), 34, "", #[], some (124, false)⟩,
    ⟨some 126, .binOp .neq 34 (.tmp 125) (.const (.int .i64 3)) 34, 4, "", #[], some (124, false)⟩,
    ⟨some 127, .pick (.tmp 124) (.const (.bool true)) (.tmp 126), 4, "", #[], none⟩] false)
  (.cond (.tmp 127)
    (.seq (.region 12 #[⟨some 0, .assign (.const (.bool false)), 4, "", #[], none⟩] false)
    .ret)
    .skip))
  (.seq (.region 13 #[⟨some 128, .build 25 #[(0, .const (.int .i64 (-1))), (1, .const (.int .i64 (-1)))], 25, "", #[], none⟩,
    ⟨some 129, .call { callee := .value (.func 14), args := #[.tmp 128], argTypes := #[25] }, 34, "", #[], none⟩,
    ⟨some 130, .binOp .eql 34 (.tmp 129) (.const (.int .i64 17)) 34, 4, "", #[], none⟩,
    ⟨some 131, .move (.tmp 130), 4, "", #[], none⟩,
    ⟨some 132, .build 25 #[(0, .const (.int .i64 (-2)))], 25, "", #[], some (131, true)⟩,
    ⟨some 133, .call { callee := .value (.func 14), args := #[.tmp 132], argTypes := #[25] }, 34, "", #[], some (131, true)⟩,
    ⟨some 134, .binOp .eql 34 (.tmp 133) (.const (.int .i64 1)) 34, 4, "", #[], some (131, true)⟩,
    ⟨some 135, .pick (.tmp 131) (.tmp 134) (.const (.bool false)), 4, "", #[], none⟩,
    ⟨some 136, .move (.tmp 135), 4, "", #[], none⟩,
    ⟨some 137, .call { callee := .value (.func 29), args := #[.const (.int .i64 3), .const (.int .i64 (-1))], argTypes := #[3, 3] }, 3, "", #[], some (136, true)⟩,
    ⟨some 138, .binOp .eql 3 (.tmp 137) (.const (.int .i64 3)) 3, 4, "", #[], some (136, true)⟩,
    ⟨some 139, .pick (.tmp 136) (.tmp 138) (.const (.bool false)), 4, "", #[], none⟩,
    ⟨some 140, .move (.tmp 139), 4, "", #[], none⟩,
    ⟨some 141, .call { callee := .value (.func 29), args := #[.const (.int .i64 (-1)), .const (.int .i64 (-7))], argTypes := #[3, 3] }, 3, "", #[], some (140, true)⟩,
    ⟨some 142, .binOp .eql 3 (.tmp 141) (.const (.int .i64 (-1))) 3, 4, "", #[], some (140, true)⟩,
    ⟨some 143, .pick (.tmp 140) (.tmp 142) (.const (.bool false)), 4, "", #[], none⟩,
    ⟨some 144, .move (.tmp 143), 4, "", #[], none⟩,
    ⟨some 145, .call { callee := .value (.func 29), args := #[.const (.int .i64 2), .const (.int .i64 0)], argTypes := #[3, 3] }, 3, "", #[], some (144, true)⟩,
    ⟨some 146, .binOp .eql 3 (.tmp 145) (.const (.int .i64 0)) 3, 4, "", #[], some (144, true)⟩,
    ⟨some 147, .pick (.tmp 144) (.tmp 146) (.const (.bool false)), 4, "", #[], none⟩,
    ⟨some 0, .assign (.tmp 147), 4, "", #[], none⟩] false)
  .ret))))))))))))
def fn10 : AFn := { ntmps := 148, results := [.tmp 0], body := c10, keep := fun | 0 => some [] | 1 => some [1, 2] | 2 => some [1, 2, 3, 4] | 3 => some [1, 2, 3, 4, 5, 6] | 4 => some [60] | 5 => some [0] | 6 => some [8, 9] | 7 => some [8, 9, 11, 12] | 8 => some [8, 9, 11, 12, 14, 15] | 9 => some [8, 9, 11, 12, 14, 15, 16, 17] | 10 => some [8, 9, 11, 12, 14, 15, 16, 17, 19, 20] | 11 => some [127] | 12 => some [0] | 13 => some [0] | _ => none, head := fun  | _ => none, opn := fun _ => none, dyn := fun _ => [] }
/-- vidimus/constraints.Element -/
def c11 : Code :=
  (.seq (.region 0 #[⟨some 1, .box 25 (.tmp 0), 0, "", #[], none⟩,
    ⟨some 2, .alloc 33, 0, "", #[], none⟩,
    ⟨some 3, .assign (.const (.int .i64 0)), 34, "", #[], none⟩] false)
  (.seq (.seq (.region 1 #[⟨some 8, .load 25 (.tmp 1), 25, "", #[], none⟩,
    ⟨some 9, .call { callee := .value (.func 14), args := #[.tmp 8], argTypes := #[25] }, 34, "", #[], none⟩,
    ⟨some 4, .assign (.tmp 9), 34, "", #[], none⟩] false)
  (.seq (.region 2 #[⟨some 10, .move (.tmp 4), 34, "", #[], none⟩,
    ⟨some 11, .binOp .neq 34 (.tmp 10) (.const (.int .i64 0)) 34, 4, "", #[], none⟩] false)
  (.cond (.tmp 11)
    (.seq (.region 3 #[⟨some 12, .build 33 #[], 33, "", #[], none⟩,
      ⟨some 13, .move (.tmp 4), 34, "", #[], none⟩,
      ⟨none, .store 33 (.tmp 2) (.tmp 12), 0, "", #[], none⟩,
      ⟨some 3, .assign (.tmp 13), 34, "", #[], none⟩] false)
    .ret)
    .skip)))
  (.seq (.region 4 #[⟨some 14, .load 29 (.global 0), 29, "", #[], none⟩,
    ⟨some 15, .build 33 #[(0, .tmp 14)], 33, "", #[], none⟩,
    ⟨some 5, .alloc 33, 0, "", #[], none⟩,
    ⟨none, .store 33 (.tmp 5) (.tmp 15), 0, "", #[], none⟩] false)
  (.seq (.seq (.region 5 #[⟨some 16, .fieldAddr 25 (.tmp 1) 0, 0, "", #[], none⟩,
    ⟨some 17, .load 3 (.tmp 16), 3, "", #[], none⟩,
    ⟨some 18, .fieldAddr 25 (.tmp 1) 1, 0, "", #[], none⟩,
    ⟨some 19, .load 3 (.tmp 18), 3, "", #[], none⟩,
    ⟨some 20, .build 69 #[(0, .tmp 17), (1, .tmp 19)], 69, "", #[], none⟩,
    ⟨some 21, .move (.const (.int .i64 0)), 3, "", #[], none⟩] false)
  (.block 0 (.loop (.seq (.region 6 #[⟨some 22, .binOp .lss 3 (.tmp 21) (.const (.int .i64 2)) 3, 0, "", #[], none⟩] false)
  (.seq (.cond (.tmp 22)
    .skip
    (.exit 0))
  (.seq (.block 1 (.seq (.region 7 #[⟨some 23, .move (.tmp 21), 3, "", #[], none⟩,
    ⟨some 24, .index 69 (.tmp 20) (.tmp 21), 3, "", #[], none⟩,
    ⟨some 6, .assign (.tmp 23), 3, "", #[], none⟩,
    ⟨some 7, .assign (.tmp 24), 3, "", #[], none⟩] false)
  (.seq (.region 8 #[⟨some 25, .move (.tmp 7), 3, "", #[], none⟩,
    ⟨some 26, .binOp .neq 3 (.tmp 25) (.const (.int .i64 (-1))) 3, 4, "", #[], none⟩] false)
  (.cond (.tmp 26)
    (.region 9 #[⟨some 27, .fieldAddr 33 (.tmp 5) 2, 0, "", #[], none⟩,
      ⟨some 28, .load 31 (.tmp 27), 31, "", #[], none⟩,
      ⟨some 29, .move (.tmp 6), 3, "", #[], none⟩,
      ⟨some 30, .call { callee := .value (.func 32), args := #[.tmp 29], argTypes := #[3] }, 29, "", #[], none⟩,
      ⟨some 31, .move (.tmp 7), 3, "", #[], none⟩,
      ⟨some 32, .call { callee := .value (.func 33), args := #[.tmp 31], argTypes := #[3] }, 30, "", #[], none⟩,
      ⟨some 33, .build 33 #[(0, .tmp 30), (1, .tmp 32)], 33, "", #[], none⟩,
      ⟨some 34, .buildSlice 31 1 #[(0, .tmp 33)], 31, "", #[], none⟩,
      ⟨some 35, .call { callee := .builtin .append, args := #[.tmp 28, .tmp 34], argTypes := #[31, 31] }, 31, "", #[], none⟩,
      ⟨some 36, .fieldAddr 33 (.tmp 5) 2, 0, "", #[], none⟩,
      ⟨none, .store 31 (.tmp 36) (.tmp 35), 0, "", #[], none⟩] true)
    .skip))))
  (.region 10 #[⟨some 37, .binOp .add 3 (.tmp 21) (.const (.int .i64 1)) 3, 3, "", #[], none⟩,
    ⟨some 21, .move (.tmp 37), 3, "", #[], none⟩] false)))))))
  (.seq (.region 11 #[⟨some 38, .fieldAddr 33 (.tmp 5) 2, 0, "", #[], none⟩,
    ⟨some 39, .load 31 (.tmp 38), 31, "", #[], none⟩,
    ⟨some 40, .call { callee := .value (.func 34), args := #[.tmp 39], argTypes := #[31] }, 31, "", #[], none⟩,
    ⟨some 41, .fieldAddr 33 (.tmp 5) 2, 0, "", #[], none⟩,
    ⟨none, .store 31 (.tmp 41) (.tmp 40), 0, "", #[], none⟩] false)
  (.seq (.region 12 #[⟨some 42, .load 33 (.tmp 5), 33, "", #[], none⟩,
    ⟨none, .store 33 (.tmp 2) (.tmp 42), 0, "", #[], none⟩,
    ⟨some 3, .assign (.const (.int .i64 0)), 34, "", #[], none⟩] false)
  .ret))))))
def fn11 : AFn := { ntmps := 43, results := [.cell 2 33, .tmp 3], body := c11, keep := fun | 0 => some [1, 2] | 1 => some [1, 2, 4] | 2 => some [1, 2, 4, 11] | 3 => some [2, 3] | 4 => some [1, 2, 5] | 5 => some [2, 5, 20, 21] | 6 => some [2, 5, 20, 21, 22] | 7 => some [2, 5, 6, 7, 20, 21] | 8 => some [2, 5, 6, 7, 20, 21, 26] | 9 => some [2, 5, 20, 21] | 10 => some [2, 5, 20, 21] | 11 => some [2, 5] | 12 => some [2, 3] | _ => none, head := fun | 6 => some [2, 5, 20, 21] | _ => none, opn := fun _ => none, dyn := fun _ => [] }
/-- vidimus/constraints.Put -/
def c12 : Code :=
  (.seq (.region 0 #[⟨some 1, .box 25 (.tmp 0), 0, "", #[], none⟩,
    ⟨some 2, .assign (.const (.slice none 0 0)), 30, "", #[], none⟩,
    ⟨some 3, .assign (.const (.int .i64 0)), 34, "", #[], none⟩] false)
  (.seq (.region 1 #[⟨some 7, .load 25 (.tmp 1), 25, "", #[], none⟩,
    ⟨some 8, .call { callee := .value (.func 11), args := #[.tmp 7], argTypes := #[25] }, 35, "", #[], none⟩,
    ⟨some 6, .move (.tmp 8), 35, "", #[], none⟩,
    ⟨some 9, .extract (.tmp 6) 0, 33, "", #[], none⟩,
    ⟨some 10, .extract (.tmp 6) 1, 34, "", #[], none⟩,
    ⟨some 4, .alloc 33, 0, "", #[], none⟩,
    ⟨none, .store 33 (.tmp 4) (.tmp 9), 0, "", #[], none⟩,
    ⟨some 5, .assign (.tmp 10), 34, "", #[], none⟩] false)
  (.seq (.seq (.region 2 #[⟨some 11, .move (.tmp 5), 34, "", #[], none⟩,
    ⟨some 12, .binOp .neq 34 (.tmp 11) (.const (.int .i64 0)) 34, 4, "", #[], none⟩] false)
  (.cond (.tmp 12)
    (.seq (.region 3 #[⟨some 13, .move (.tmp 5), 34, "", #[], none⟩,
      ⟨some 2, .assign (.const (.slice none 0 0)), 30, "", #[], none⟩,
      ⟨some 3, .assign (.tmp 13), 34, "", #[], none⟩] false)
    .ret)
    .skip))
  (.seq (.region 4 #[⟨some 14, .load 33 (.tmp 4), 33, "", #[], none⟩,
    ⟨some 15, .call { callee := .value (.func 35), args := #[.tmp 14], argTypes := #[33] }, 37, "", #[], none⟩,
    ⟨some 16, .extract (.tmp 15) 0, 30, "", #[], none⟩,
    ⟨some 17, .extract (.tmp 15) 1, 34, "", #[], none⟩,
    ⟨some 2, .assign (.tmp 16), 30, "", #[], none⟩,
    ⟨some 3, .assign (.tmp 17), 34, "", #[], none⟩] false)
  .ret))))
def fn12 : AFn := { ntmps := 18, results := [.tmp 2, .tmp 3], body := c12, keep := fun | 0 => some [1] | 1 => some [4, 5] | 2 => some [4, 5, 12] | 3 => some [2, 3] | 4 => some [2, 3] | _ => none, head := fun  | _ => none, opn := fun _ => none, dyn := fun _ => [] }
/-- vidimus/vidimusref19.Element -/
def c13 : Code :=
  (.seq (.region 0 #[⟨some 1, .box 25 (.tmp 0), 0, "", #[], none⟩,
    ⟨some 2, .alloc 33, 0, "", #[], none⟩] false)
  (.seq (.region 1 #[⟨some 4, .build 29 #[(1, .const (.bool true)), (2, .const (.int .u32 16))], 29, "", #[], none⟩,
    ⟨some 5, .build 33 #[(0, .tmp 4)], 33, "", #[], none⟩,
    ⟨some 3, .alloc 33, 0, "", #[], none⟩,
    ⟨none, .store 33 (.tmp 3) (.tmp 5), 0, "", #[], none⟩] false)
  (.seq (.seq (.region 2 #[⟨some 6, .fieldAddr 25 (.tmp 1) 0, 0, "", #[], none⟩,
    ⟨some 7, .load 3 (.tmp 6), 3, "", #[], none⟩,
    ⟨some 8, .binOp .geq 3 (.tmp 7) (.const (.int .i64 0)) 3, 4, "", #[], none⟩] false)
  (.cond (.tmp 8)
    (.region 3 #[⟨some 9, .fieldAddr 33 (.tmp 3) 2, 0, "", #[], none⟩,
      ⟨some 10, .load 31 (.tmp 9), 31, "", #[], none⟩,
      ⟨some 11, .build 29 #[(0, .const (.int .u8 2))], 29, "", #[], none⟩,
      ⟨some 12, .fieldAddr 25 (.tmp 1) 0, 0, "", #[], none⟩,
      ⟨some 13, .load 3 (.tmp 12), 3, "", #[], none⟩,
      ⟨some 14, .convert 3 22 (.tmp 13), 22, "", #[], none⟩,
      ⟨some 15, .call { callee := .value (.func 22), args := #[.tmp 14], argTypes := #[22] }, 30, "", #[], none⟩,
      ⟨some 16, .build 33 #[(0, .tmp 11), (1, .tmp 15)], 33, "", #[], none⟩,
      ⟨some 17, .buildSlice 31 1 #[(0, .tmp 16)], 31, "", #[], none⟩,
      ⟨some 18, .call { callee := .builtin .append, args := #[.tmp 10, .tmp 17], argTypes := #[31, 31] }, 31, "", #[], none⟩,
      ⟨some 19, .fieldAddr 33 (.tmp 3) 2, 0, "", #[], none⟩,
      ⟨none, .store 31 (.tmp 19) (.tmp 18), 0, "", #[], none⟩] true)
    .skip))
  (.seq (.seq (.region 4 #[⟨some 20, .fieldAddr 25 (.tmp 1) 1, 0, "", #[], none⟩,
    ⟨some 21, .load 3 (.tmp 20), 3, "", #[], none⟩,
    ⟨some 22, .binOp .geq 3 (.tmp 21) (.const (.int .i64 0)) 3, 4, "", #[], none⟩] false)
  (.cond (.tmp 22)
    (.region 5 #[⟨some 23, .fieldAddr 33 (.tmp 3) 2, 0, "", #[], none⟩,
      ⟨some 24, .load 31 (.tmp 23), 31, "", #[], none⟩,
      ⟨some 25, .build 29 #[(0, .const (.int .u8 2)), (2, .const (.int .u32 1))], 29, "", #[], none⟩,
      ⟨some 26, .fieldAddr 25 (.tmp 1) 1, 0, "", #[], none⟩,
      ⟨some 27, .load 3 (.tmp 26), 3, "", #[], none⟩,
      ⟨some 28, .convert 3 22 (.tmp 27), 22, "", #[], none⟩,
      ⟨some 29, .call { callee := .value (.func 22), args := #[.tmp 28], argTypes := #[22] }, 30, "", #[], none⟩,
      ⟨some 30, .build 33 #[(0, .tmp 25), (1, .tmp 29)], 33, "", #[], none⟩,
      ⟨some 31, .buildSlice 31 1 #[(0, .tmp 30)], 31, "", #[], none⟩,
      ⟨some 32, .call { callee := .builtin .append, args := #[.tmp 24, .tmp 31], argTypes := #[31, 31] }, 31, "", #[], none⟩,
      ⟨some 33, .fieldAddr 33 (.tmp 3) 2, 0, "", #[], none⟩,
      ⟨none, .store 31 (.tmp 33) (.tmp 32), 0, "", #[], none⟩] true)
    .skip))
  (.seq (.region 6 #[⟨some 34, .load 33 (.tmp 3), 33, "", #[], none⟩,
    ⟨none, .store 33 (.tmp 2) (.tmp 34), 0, "", #[], none⟩] false)
  .ret)))))
def fn13 : AFn := { ntmps := 35, results := [.cell 2 33], body := c13, keep := fun | 0 => some [1, 2] | 1 => some [1, 2, 3] | 2 => some [1, 2, 3, 8] | 3 => some [1, 2, 3] | 4 => some [1, 2, 3, 22] | 5 => some [2, 3] | 6 => some [2] | _ => none, head := fun  | _ => none, opn := fun _ => none, dyn := fun _ => [] }
/-- vidimus/constraints.Check -/
def c14 : Code :=
  (.seq (.region 0 #[⟨some 1, .box 25 (.tmp 0), 0, "", #[], none⟩,
    ⟨some 2, .assign (.const (.int .i64 0)), 34, "", #[], none⟩] false)
  (.seq (.region 1 #[⟨some 3, .assign (.const (.bool false)), 4, "", #[], none⟩] false)
  (.seq (.seq (.region 2 #[⟨some 6, .fieldAddr 25 (.tmp 1) 0, 0, "", #[], none⟩,
    ⟨some 7, .load 3 (.tmp 6), 3, "", #[], none⟩,
    ⟨some 8, .fieldAddr 25 (.tmp 1) 1, 0, "", #[], none⟩,
    ⟨some 9, .load 3 (.tmp 8), 3, "", #[], none⟩,
    ⟨some 10, .build 69 #[(0, .tmp 7), (1, .tmp 9)], 69, "", #[], none⟩,
    ⟨some 11, .move (.const (.int .i64 0)), 3, "", #[], none⟩] false)
  (.block 0 (.loop (.seq (.region 3 #[⟨some 12, .binOp .lss 3 (.tmp 11) (.const (.int .i64 2)) 3, 0, "", #[], none⟩] false)
  (.seq (.cond (.tmp 12)
    .skip
    (.exit 0))
  (.seq (.block 1 (.seq (.region 4 #[⟨some 13, .index 69 (.tmp 10) (.tmp 11), 3, "", #[], none⟩,
    ⟨some 5, .assign (.tmp 13), 3, "", #[], none⟩] false)
  (.seq (.seq (.region 5 #[⟨some 14, .move (.tmp 5), 3, "", #[], none⟩,
    ⟨some 15, .call { callee := .value (.func 36), args := #[.tmp 14], argTypes := #[3] }, 4, "", #[], none⟩,
    ⟨some 16, .unOp .not 4 (.tmp 15), 4, "", #[], none⟩,
    ⟨some 17, .move (.tmp 16), 4, "", #[], none⟩,
    ⟨some 18, .move (.tmp 5), 3, "", #[], some (17, true)⟩,
    ⟨some 19, .binOp .neq 3 (.tmp 18) (.const (.int .i64 (-1))) 3, 4, "", #[], some (17, true)⟩,
    ⟨some 20, .pick (.tmp 17) (.tmp 19) (.const (.bool false)), 4, "", #[], none⟩] false)
  (.cond (.tmp 20)
    (.seq (.region 6 #[⟨some 2, .assign (.const (.int .i64 1)), 34, "", #[], none⟩] false)
    .ret)
    .skip))
  (.region 7 #[⟨some 21, .move (.tmp 3), 4, "", #[], none⟩,
    ⟨some 22, .move (.tmp 21), 4, "", #[], none⟩,
    ⟨some 23, .move (.tmp 5), 3, "", #[], some (22, false)⟩,
    ⟨some 24, .binOp .neq 3 (.tmp 23) (.const (.int .i64 (-1))) 3, 4, "", #[], some (22, false)⟩,
    ⟨some 25, .pick (.tmp 22) (.const (.bool true)) (.tmp 24), 4, "", #[], none⟩,
    ⟨some 3, .assign (.tmp 25), 4, "", #[], none⟩] false))))
  (.region 8 #[⟨some 26, .binOp .add 3 (.tmp 11) (.const (.int .i64 1)) 3, 3, "", #[], none⟩,
    ⟨some 11, .move (.tmp 26), 3, "", #[], none⟩] false)))))))
  (.seq (.seq (.region 9 #[⟨some 27, .move (.tmp 3), 4, "", #[], none⟩,
    ⟨some 28, .unOp .not 4 (.tmp 27), 4, "", #[], none⟩] false)
  (.cond (.tmp 28)
    (.seq (.region 10 #[⟨some 2, .assign (.const (.int .i64 17)), 34, "", #[], none⟩] false)
    .ret)
    .skip))
  (.seq (.region 11 #[⟨some 2, .assign (.const (.int .i64 0)), 34, "", #[], none⟩] false)
  .ret)))))
def fn14 : AFn := { ntmps := 29, results := [.tmp 2], body := c14, keep := fun | 0 => some [1] | 1 => some [1, 3] | 2 => some [3, 10, 11] | 3 => some [3, 10, 11, 12] | 4 => some [3, 5, 10, 11] | 5 => some [3, 5, 10, 11, 20] | 6 => some [2] | 7 => some [3, 10, 11] | 8 => some [3, 10, 11] | 9 => some [28] | 10 => some [2] | 11 => some [2] | _ => none, head := fun | 3 => some [3, 10, 11] | _ => none, opn := fun _ => none, dyn := fun _ => [] }
/-- vidimus/vidimuslaw12.Same -/
def c15 : Code :=
  (.seq (.region 0 #[⟨some 2, .box 33 (.tmp 0), 0, "", #[], none⟩,
    ⟨some 3, .box 33 (.tmp 1), 0, "", #[], none⟩,
    ⟨some 4, .assign (.const (.int .i64 0)), 3, "", #[], none⟩] false)
  (.seq (.seq (.region 1 #[⟨some 6, .fieldAddr 33 (.tmp 2) 0, 0, "", #[], none⟩,
    ⟨some 7, .load 29 (.tmp 6), 29, "", #[], none⟩,
    ⟨some 8, .fieldAddr 33 (.tmp 3) 0, 0, "", #[], none⟩,
    ⟨some 9, .load 29 (.tmp 8), 29, "", #[], none⟩,
    ⟨some 10, .binOp .neq 29 (.tmp 7) (.tmp 9) 29, 4, "", #[], none⟩,
    ⟨some 11, .move (.tmp 10), 4, "", #[], none⟩,
    ⟨some 12, .fieldAddr 33 (.tmp 2) 1, 0, "", #[], some (11, false)⟩,
    ⟨some 13, .load 30 (.tmp 12), 30, "", #[], some (11, false)⟩,
    ⟨some 14, .convert 30 9 (.tmp 13), 9, "", #[], some (11, false)⟩,
    ⟨some 15, .fieldAddr 33 (.tmp 3) 1, 0, "", #[], some (11, false)⟩,
    ⟨some 16, .load 30 (.tmp 15), 30, "", #[], some (11, false)⟩,
    ⟨some 17, .convert 30 9 (.tmp 16), 9, "", #[], some (11, false)⟩,
    ⟨some 18, .binOp .neq 9 (.tmp 14) (.tmp 17) 9, 4, "", #[], some (11, false)⟩,
    ⟨some 19, .pick (.tmp 11) (.const (.bool true)) (.tmp 18), 4, "", #[], none⟩,
    ⟨some 20, .move (.tmp 19), 4, "", #[], none⟩,
    ⟨some 21, .fieldAddr 33 (.tmp 2) 2, 0, "", #[], some (20, false)⟩,
    ⟨some 22, .load 31 (.tmp 21), 31, "", #[], some (20, false)⟩,
    ⟨some 23, .call { callee := .builtin .len, args := #[.tmp 22], argTypes := #[31] }, 3, "", #[], some (20, false)⟩,
    ⟨some 24, .fieldAddr 33 (.tmp 3) 2, 0, "", #[], some (20, false)⟩,
    ⟨some 25, .load 31 (.tmp 24), 31, "", #[], some (20, false)⟩,
    ⟨some 26, .call { callee := .builtin .len, args := #[.tmp 25], argTypes := #[31] }, 3, "", #[], some (20, false)⟩,
    ⟨some 27, .binOp .neq 3 (.tmp 23) (.tmp 26) 3, 4, "", #[], some (20, false)⟩,
    ⟨some 28, .pick (.tmp 20) (.const (.bool true)) (.tmp 27), 4, "", #[], none⟩] false)
  (.cond (.tmp 28)
    (.seq (.region 2 #[⟨some 4, .assign (.const (.int .i64 0)), 3, "", #[], none⟩] false)
    .ret)
    .skip))
  (.seq (.seq (.region 3 #[⟨some 5, .assign (.const (.int .i64 0)), 3, "", #[], none⟩] false)
  (.block 0 (.loop (.seq (.seq (.region 4 #[⟨some 29, .move (.tmp 5), 3, "", #[], none⟩,
    ⟨some 30, .fieldAddr 33 (.tmp 2) 2, 0, "", #[], none⟩,
    ⟨some 31, .load 31 (.tmp 30), 31, "", #[], none⟩,
    ⟨some 32, .call { callee := .builtin .len, args := #[.tmp 31], argTypes := #[31] }, 3, "", #[], none⟩,
    ⟨some 33, .binOp .lss 3 (.tmp 29) (.tmp 32) 3, 4, "", #[], none⟩] false)
  (.cond (.tmp 33)
    .skip
    (.exit 0)))
  (.seq (.block 1 (.seq (.region 6 #[⟨some 36, .fieldAddr 33 (.tmp 2) 2, 0, "", #[], none⟩,
    ⟨some 37, .load 31 (.tmp 36), 31, "", #[], none⟩,
    ⟨some 38, .move (.tmp 5), 3, "", #[], none⟩,
    ⟨some 39, .indexAddr 31 (.tmp 37) (.tmp 38), 0, "", #[], none⟩,
    ⟨some 40, .load 33 (.tmp 39), 33, "", #[], none⟩,
    ⟨some 41, .fieldAddr 33 (.tmp 3) 2, 0, "", #[], none⟩,
    ⟨some 42, .load 31 (.tmp 41), 31, "", #[], none⟩,
    ⟨some 43, .move (.tmp 5), 3, "", #[], none⟩,
    ⟨some 44, .indexAddr 31 (.tmp 42) (.tmp 43), 0, "", #[], none⟩,
    ⟨some 45, .load 33 (.tmp 44), 33, "", #[], none⟩,
    ⟨some 46, .call { callee := .value (.func 15), args := #[.tmp 40, .tmp 45], argTypes := #[33, 33] }, 3, "", #[], none⟩,
    ⟨some 47, .binOp .eql 3 (.tmp 46) (.const (.int .i64 0)) 3, 4, "", #[], none⟩] true)
  (.cond (.tmp 47)
    (.seq (.region 7 #[⟨some 4, .assign (.const (.int .i64 0)), 3, "", #[], none⟩] false)
    .ret)
    .skip)))
  (.region 5 #[⟨some 34, .move (.tmp 5), 3, "", #[], none⟩,
    ⟨some 35, .binOp .add 3 (.tmp 34) (.const (.int .i64 1)) 3, 3, "", #[], none⟩,
    ⟨some 5, .assign (.tmp 35), 3, "", #[], none⟩] false))))))
  (.seq (.region 8 #[⟨some 4, .assign (.const (.int .i64 1)), 3, "", #[], none⟩] false)
  .ret))))
def fn15 : AFn := { ntmps := 48, results := [.tmp 4], body := c15, keep := fun | 0 => some [2, 3] | 1 => some [2, 3, 28] | 2 => some [4] | 3 => some [2, 3, 5] | 4 => some [2, 3, 5, 33] | 5 => some [2, 3, 5] | 6 => some [2, 3, 5, 47] | 7 => some [4] | 8 => some [4] | _ => none, head := fun | 4 => some [2, 3, 5] | _ => none, opn := fun _ => none, dyn := fun _ => [] }
/-- vidimus/vidimusref04.Put -/
def c16 : Code :=
  (.seq (.region 0 #[⟨some 1, .box 33 (.tmp 0), 0, "", #[], none⟩,
    ⟨some 2, .assign (.const (.slice none 0 0)), 30, "", #[], none⟩] false)
  (.seq (.region 1 #[⟨some 5, .buildSlice 30 0 #[], 30, "", #[], none⟩,
    ⟨some 6, .fieldAddr 33 (.tmp 1) 1, 0, "", #[], none⟩,
    ⟨some 7, .load 30 (.tmp 6), 30, "", #[], none⟩,
    ⟨some 8, .call { callee := .builtin .append, args := #[.tmp 5, .tmp 7], argTypes := #[30, 30] }, 30, "", #[], none⟩,
    ⟨some 3, .assign (.tmp 8), 30, "", #[], none⟩] false)
  (.seq (.seq (.region 2 #[⟨some 4, .assign (.const (.int .i64 0)), 3, "", #[], none⟩] false)
  (.block 0 (.loop (.seq (.seq (.region 3 #[⟨some 9, .move (.tmp 4), 3, "", #[], none⟩,
    ⟨some 10, .fieldAddr 33 (.tmp 1) 2, 0, "", #[], none⟩,
    ⟨some 11, .load 31 (.tmp 10), 31, "", #[], none⟩,
    ⟨some 12, .call { callee := .builtin .len, args := #[.tmp 11], argTypes := #[31] }, 3, "", #[], none⟩,
    ⟨some 13, .binOp .lss 3 (.tmp 9) (.tmp 12) 3, 4, "", #[], none⟩] false)
  (.cond (.tmp 13)
    .skip
    (.exit 0)))
  (.seq (.block 1 (.region 5 #[⟨some 16, .move (.tmp 3), 30, "", #[], none⟩,
    ⟨some 17, .fieldAddr 33 (.tmp 1) 2, 0, "", #[], none⟩,
    ⟨some 18, .load 31 (.tmp 17), 31, "", #[], none⟩,
    ⟨some 19, .move (.tmp 4), 3, "", #[], none⟩,
    ⟨some 20, .indexAddr 31 (.tmp 18) (.tmp 19), 0, "", #[], none⟩,
    ⟨some 21, .load 33 (.tmp 20), 33, "", #[], none⟩,
    ⟨some 22, .call { callee := .value (.func 16), args := #[.tmp 21], argTypes := #[33] }, 30, "", #[], none⟩,
    ⟨some 23, .call { callee := .builtin .append, args := #[.tmp 16, .tmp 22], argTypes := #[30, 30] }, 30, "", #[], none⟩,
    ⟨some 3, .assign (.tmp 23), 30, "", #[], none⟩] false))
  (.region 4 #[⟨some 14, .move (.tmp 4), 3, "", #[], none⟩,
    ⟨some 15, .binOp .add 3 (.tmp 14) (.const (.int .i64 1)) 3, 3, "", #[], none⟩,
    ⟨some 4, .assign (.tmp 15), 3, "", #[], none⟩] false))))))
  (.seq (.region 6 #[⟨some 24, .fieldAddr 33 (.tmp 1) 0, 0, "", #[], none⟩,
    ⟨some 25, .load 29 (.tmp 24), 29, "", #[], none⟩,
    ⟨some 26, .call { callee := .value (.func 37), args := #[.tmp 25], argTypes := #[29] }, 30, "", #[], none⟩,
    ⟨some 27, .move (.tmp 3), 30, "", #[], none⟩,
    ⟨some 28, .call { callee := .builtin .len, args := #[.tmp 27], argTypes := #[30] }, 3, "", #[], none⟩,
    ⟨some 29, .call { callee := .value (.func 38), args := #[.tmp 28], argTypes := #[3] }, 30, "", #[], none⟩,
    ⟨some 30, .call { callee := .builtin .append, args := #[.tmp 26, .tmp 29], argTypes := #[30, 30] }, 30, "", #[], none⟩,
    ⟨some 31, .move (.tmp 3), 30, "", #[], none⟩,
    ⟨some 32, .call { callee := .builtin .append, args := #[.tmp 30, .tmp 31], argTypes := #[30, 30] }, 30, "", #[], none⟩,
    ⟨some 2, .assign (.tmp 32), 30, "", #[], none⟩] false)
  .ret))))
def fn16 : AFn := { ntmps := 33, results := [.tmp 2], body := c16, keep := fun | 0 => some [1] | 1 => some [1, 3] | 2 => some [1, 3, 4] | 3 => some [1, 3, 4, 13] | 4 => some [1, 3, 4] | 5 => some [1, 3, 4] | 6 => some [2] | _ => none, head := fun | 3 => some [1, 3, 4] | _ => none, opn := fun _ => none, dyn := fun _ => [] }
/-- vidimus/constraints.Of -/
def c17 : Code :=
  (.seq (.region 0 #[⟨some 1, .box 33 (.tmp 0), 0, "", #[], none⟩,
    ⟨some 2, .alloc 25, 0, "", #[], none⟩,
    ⟨some 3, .alloc 45, 0, "", #[], none⟩] false)
  (.seq (.seq (.region 1 #[⟨some 12, .load 33 (.tmp 1), 33, "", #[], none⟩,
    ⟨some 13, .call { callee := .value (.func 39), args := #[.tmp 12], argTypes := #[33] }, 34, "", #[], none⟩,
    ⟨some 4, .assign (.tmp 13), 34, "", #[], none⟩] false)
  (.seq (.region 2 #[⟨some 14, .move (.tmp 4), 34, "", #[], none⟩,
    ⟨some 15, .binOp .neq 34 (.tmp 14) (.const (.int .i64 0)) 34, 4, "", #[], none⟩] false)
  (.cond (.tmp 15)
    (.seq (.region 3 #[⟨some 16, .build 25 #[], 25, "", #[], none⟩,
      ⟨some 17, .move (.tmp 4), 34, "", #[], none⟩,
      ⟨some 18, .build 45 #[(1, .tmp 17)], 45, "", #[], none⟩,
      ⟨none, .store 25 (.tmp 2) (.tmp 16), 0, "", #[], none⟩,
      ⟨none, .store 45 (.tmp 3) (.tmp 18), 0, "", #[], none⟩] false)
    .ret)
    .skip)))
  (.seq (.region 4 #[⟨some 20, .load 33 (.tmp 1), 33, "", #[], none⟩,
    ⟨some 21, .load 29 (.global 0), 29, "", #[], none⟩,
    ⟨some 22, .call { callee := .value (.func 32), args := #[.const (.int .i64 0)], argTypes := #[3] }, 29, "", #[], none⟩,
    ⟨some 23, .build 80 #[(0, .tmp 22), (2, .const (.bool true))], 80, "", #[], none⟩,
    ⟨some 24, .call { callee := .value (.func 32), args := #[.const (.int .i64 1)], argTypes := #[3] }, 29, "", #[], none⟩,
    ⟨some 25, .build 80 #[(0, .tmp 24), (2, .const (.bool true))], 80, "", #[], none⟩,
    ⟨some 26, .buildSlice 81 2 #[(0, .tmp 23), (1, .tmp 25)], 81, "", fz, none⟩,
    ⟨some 27, .call { callee := .value (.func 40), args := #[.tmp 20, .tmp 21, .tmp 26], argTypes := #[33, 29, 81] }, 77, "", #[], none⟩,
    ⟨some 19, .move (.tmp 27), 77, "", #[], none⟩,
    ⟨some 28, .extract (.tmp 19) 0, 43, "", #[], none⟩,
    ⟨some 29, .extract (.tmp 19) 1, 45, "", #[], none⟩,
    ⟨some 6, .alloc 45, 0, "", #[], none⟩,
    ⟨some 5, .assign (.tmp 28), 43, "", #[], none⟩,
    ⟨none, .store 45 (.tmp 6) (.tmp 29), 0, "", #[], none⟩] true)
  (.seq (.seq (.region 5 #[⟨some 30, .fieldAddr 45 (.tmp 6) 1, 0, "", #[], none⟩,
    ⟨some 31, .load 34 (.tmp 30), 34, "", #[], none⟩,
    ⟨some 32, .binOp .neq 34 (.tmp 31) (.const (.int .i64 0)) 34, 4, "", #[], none⟩] false)
  (.cond (.tmp 32)
    (.seq (.region 6 #[⟨some 33, .build 25 #[], 25, "", #[], none⟩,
      ⟨some 34, .load 45 (.tmp 6), 45, "", #[], none⟩,
      ⟨none, .store 25 (.tmp 2) (.tmp 33), 0, "", #[], none⟩,
      ⟨none, .store 45 (.tmp 3) (.tmp 34), 0, "", #[], none⟩] true)
    .ret)
    .skip))
  (.seq (.seq (.region 7 #[⟨some 35, .fieldAddr 33 (.tmp 1) 2, 0, "", #[], none⟩,
    ⟨some 36, .load 31 (.tmp 35), 31, "", #[], none⟩,
    ⟨some 37, .call { callee := .builtin .len, args := #[.tmp 36], argTypes := #[31] }, 3, "", #[], none⟩,
    ⟨some 38, .binOp .eql 3 (.tmp 37) (.const (.int .i64 0)) 3, 4, "", #[], none⟩] false)
  (.cond (.tmp 38)
    (.seq (.region 8 #[⟨some 39, .build 25 #[], 25, "", #[], none⟩,
      ⟨some 40, .build 45 #[(1, .const (.int .i64 17))], 45, "", #[], none⟩,
      ⟨none, .store 25 (.tmp 2) (.tmp 39), 0, "", #[], none⟩,
      ⟨none, .store 45 (.tmp 3) (.tmp 40), 0, "", #[], none⟩] false)
    .ret)
    .skip))
  (.seq (.region 9 #[⟨some 41, .build 25 #[(0, .const (.int .i64 (-1))), (1, .const (.int .i64 (-1)))], 25, "", #[], none⟩,
    ⟨some 7, .alloc 25, 0, "", #[], none⟩,
    ⟨none, .store 25 (.tmp 7) (.tmp 41), 0, "", #[], none⟩] false)
  (.seq (.seq (.region 10 #[⟨some 42, .fieldAddr 25 (.tmp 7) 0, 0, "", #[], none⟩,
    ⟨some 43, .fieldAddr 25 (.tmp 7) 1, 0, "", #[], none⟩,
    ⟨some 44, .build 82 #[(0, .tmp 42), (1, .tmp 43)], 82, "", #[], none⟩,
    ⟨some 45, .move (.const (.int .i64 0)), 3, "", #[], none⟩] false)
  (.block 0 (.loop (.seq (.region 11 #[⟨some 46, .binOp .lss 3 (.tmp 45) (.const (.int .i64 2)) 3, 0, "", #[], none⟩] false)
  (.seq (.cond (.tmp 46)
    .skip
    (.exit 0))
  (.seq (.block 1 (.seq (.region 12 #[⟨some 47, .move (.tmp 45), 3, "", #[], none⟩,
    ⟨some 48, .index 82 (.tmp 44) (.tmp 45), 57, "", #[], none⟩,
    ⟨some 8, .assign (.tmp 47), 3, "", #[], none⟩,
    ⟨some 9, .assign (.tmp 48), 57, "", #[], none⟩] false)
  (.seq (.seq (.region 13 #[⟨some 49, .move (.tmp 5), 43, "", #[], none⟩,
    ⟨some 50, .move (.tmp 8), 3, "", #[], none⟩,
    ⟨some 51, .indexAddr 43 (.tmp 49) (.tmp 50), 0, "", #[], none⟩,
    ⟨some 52, .load 3 (.tmp 51), 3, "", #[], none⟩,
    ⟨some 53, .binOp .lss 3 (.tmp 52) (.const (.int .i64 0)) 3, 4, "", #[], none⟩] false)
  (.cond (.tmp 53)
    (.exit 1)
    .skip))
  (.seq (.region 14 #[⟨some 55, .fieldAddr 33 (.tmp 1) 2, 0, "", #[], none⟩,
    ⟨some 56, .load 31 (.tmp 55), 31, "", #[], none⟩,
    ⟨some 57, .move (.tmp 5), 43, "", #[], none⟩,
    ⟨some 58, .move (.tmp 8), 3, "", #[], none⟩,
    ⟨some 59, .indexAddr 43 (.tmp 57) (.tmp 58), 0, "", #[], none⟩,
    ⟨some 60, .load 3 (.tmp 59), 3, "", #[], none⟩,
    ⟨some 61, .indexAddr 31 (.tmp 56) (.tmp 60), 0, "", #[], none⟩,
    ⟨some 62, .fieldAddr 33 (.tmp 61) 1, 0, "", #[], none⟩,
    ⟨some 63, .load 30 (.tmp 62), 30, "", #[], none⟩,
    ⟨some 64, .call { callee := .value (.func 41), args := #[.tmp 63], argTypes := #[30] }, 62, "", #[], none⟩,
    ⟨some 54, .move (.tmp 64), 62, "", #[], none⟩,
    ⟨some 65, .extract (.tmp 54) 0, 3, "", #[], none⟩,
    ⟨some 66, .extract (.tmp 54) 1, 34, "", #[], none⟩,
    ⟨some 10, .assign (.tmp 65), 3, "", #[], none⟩,
    ⟨some 11, .assign (.tmp 66), 34, "", #[], none⟩] true)
  (.seq (.seq (.region 15 #[⟨some 67, .move (.tmp 11), 34, "", #[], none⟩,
    ⟨some 68, .binOp .neq 34 (.tmp 67) (.const (.int .i64 0)) 34, 4, "", #[], none⟩] false)
  (.cond (.tmp 68)
    (.seq (.region 16 #[⟨some 69, .build 25 #[], 25, "", #[], none⟩,
      ⟨some 70, .move (.tmp 5), 43, "", #[], none⟩,
      ⟨some 71, .move (.tmp 8), 3, "", #[], none⟩,
      ⟨some 72, .indexAddr 43 (.tmp 70) (.tmp 71), 0, "", #[], none⟩,
      ⟨some 73, .load 3 (.tmp 72), 3, "", #[], none⟩,
      ⟨some 74, .move (.tmp 11), 34, "", #[], none⟩,
      ⟨some 75, .build 45 #[(1, .tmp 74)], 45, "", #[], none⟩,
      ⟨some 76, .call { callee := .value (.func 42), args := #[.tmp 73, .tmp 75], argTypes := #[3, 45] }, 45, "", #[], none⟩,
      ⟨none, .store 25 (.tmp 2) (.tmp 69), 0, "", #[], none⟩,
      ⟨none, .store 45 (.tmp 3) (.tmp 76), 0, "", #[], none⟩] false)
    .ret)
    .skip))
  (.region 17 #[⟨some 77, .move (.tmp 9), 57, "", #[], none⟩,
    ⟨some 78, .move (.tmp 10), 3, "", #[], none⟩,
    ⟨some 79, .nilCheck (.tmp 77), 0, "", #[], none⟩,
    ⟨none, .store 3 (.tmp 79) (.tmp 78), 0, "", #[], none⟩] false))))))
  (.region 18 #[⟨some 80, .binOp .add 3 (.tmp 45) (.const (.int .i64 1)) 3, 3, "", #[], none⟩,
    ⟨some 45, .move (.tmp 80), 3, "", #[], none⟩] false)))))))
  (.seq (.region 19 #[⟨some 81, .load 25 (.tmp 7), 25, "", #[], none⟩,
    ⟨some 82, .build 45 #[], 45, "", #[], none⟩,
    ⟨none, .store 25 (.tmp 2) (.tmp 81), 0, "", #[], none⟩,
    ⟨none, .store 45 (.tmp 3) (.tmp 82), 0, "", #[], none⟩] false)
  .ret))))))))
def fn17 : AFn := { ntmps := 83, results := [.cell 2 25, .cell 3 45], body := c17, keep := fun | 0 => some [1, 2, 3] | 1 => some [1, 2, 3, 4] | 2 => some [1, 2, 3, 4, 15] | 3 => some [2, 3] | 4 => some [1, 2, 3, 5, 6] | 5 => some [1, 2, 3, 5, 6, 32] | 6 => some [2, 3] | 7 => some [1, 2, 3, 5, 38] | 8 => some [2, 3] | 9 => some [1, 2, 3, 5, 7] | 10 => some [1, 2, 3, 5, 7, 44, 45] | 11 => some [1, 2, 3, 5, 7, 44, 45, 46] | 12 => some [1, 2, 3, 5, 7, 8, 9, 44, 45] | 13 => some [1, 2, 3, 5, 7, 8, 9, 44, 45, 53] | 14 => some [1, 2, 3, 5, 7, 8, 9, 10, 11, 44, 45] | 15 => some [1, 2, 3, 5, 7, 8, 9, 10, 11, 44, 45, 68] | 16 => some [2, 3] | 17 => some [1, 2, 3, 5, 7, 44, 45] | 18 => some [1, 2, 3, 5, 7, 44, 45] | 19 => some [2, 3] | _ => none, head := fun | 11 => some [1, 2, 3, 5, 7, 44, 45] | _ => none, opn := fun _ => none, dyn := fun | 6 => [(1, 2)] | _ => [] }
/-- vidimus/constraints.Get -/
def c18 : Code :=
  (.seq (.region 0 #[⟨some 2, .alloc 25, 0, "", #[], none⟩,
    ⟨some 3, .assign (.const (.int .i64 0)), 3, "", #[], none⟩,
    ⟨some 4, .assign (.const (.int .i64 0)), 34, "", #[], none⟩] false)
  (.seq (.region 1 #[⟨some 5, .move (.tmp 0), 30, "", #[], none⟩,
    ⟨some 6, .call { callee := .value (.func 43), args := #[.tmp 5, .func 17], argTypes := #[30, 47] }, 48, "", #[], none⟩,
    ⟨some 7, .extract (.tmp 6) 0, 25, "", #[], none⟩,
    ⟨some 8, .extract (.tmp 6) 1, 3, "", #[], none⟩,
    ⟨some 9, .extract (.tmp 6) 2, 34, "", #[], none⟩,
    ⟨none, .store 25 (.tmp 2) (.tmp 7), 0, "", #[], none⟩,
    ⟨some 3, .assign (.tmp 8), 3, "", #[], none⟩,
    ⟨some 4, .assign (.tmp 9), 34, "", #[], none⟩] false)
  .ret))
def fn18 : AFn := { ntmps := 10, results := [.cell 2 25, .tmp 3, .tmp 4], body := c18, keep := fun | 0 => some [0, 2] | 1 => some [2, 3, 4] | _ => none, head := fun  | _ => none, opn := opnT, dyn := fun _ => [] }
/-- vidimus/vidimuslaw19.fault -/
def c19 : Code :=
  (.seq (.region 0 #[⟨some 2, .box 45 (.tmp 0), 0, "", #[], none⟩,
    ⟨some 3, .box 45 (.tmp 1), 0, "", #[], none⟩,
    ⟨some 4, .assign (.const (.int .i64 0)), 3, "", #[], none⟩] false)
  (.seq (.seq (.region 1 #[⟨some 6, .fieldAddr 45 (.tmp 2) 1, 0, "", #[], none⟩,
    ⟨some 7, .load 34 (.tmp 6), 34, "", #[], none⟩,
    ⟨some 8, .fieldAddr 45 (.tmp 3) 1, 0, "", #[], none⟩,
    ⟨some 9, .load 34 (.tmp 8), 34, "", #[], none⟩,
    ⟨some 10, .binOp .neq 34 (.tmp 7) (.tmp 9) 34, 4, "", #[], none⟩,
    ⟨some 11, .move (.tmp 10), 4, "", #[], none⟩,
    ⟨some 12, .fieldAddr 45 (.tmp 2) 0, 0, "", #[], some (11, false)⟩,
    ⟨some 13, .load 43 (.tmp 12), 43, "", #[], some (11, false)⟩,
    ⟨some 14, .call { callee := .builtin .len, args := #[.tmp 13], argTypes := #[43] }, 3, "", #[], some (11, false)⟩,
    ⟨some 15, .fieldAddr 45 (.tmp 3) 0, 0, "", #[], some (11, false)⟩,
    ⟨some 16, .load 43 (.tmp 15), 43, "", #[], some (11, false)⟩,
    ⟨some 17, .call { callee := .builtin .len, args := #[.tmp 16], argTypes := #[43] }, 3, "", #[], some (11, false)⟩,
    ⟨some 18, .binOp .neq 3 (.tmp 14) (.tmp 17) 3, 4, "", #[], some (11, false)⟩,
    ⟨some 19, .pick (.tmp 11) (.const (.bool true)) (.tmp 18), 4, "", #[], none⟩,
    ⟨some 20, .move (.tmp 19), 4, "", #[], none⟩,
    ⟨some 21, .fieldAddr 45 (.tmp 2) 0, 0, "", #[], some (20, false)⟩,
    ⟨some 22, .load 43 (.tmp 21), 43, "", #[], some (20, false)⟩,
    ⟨some 23, .call { callee := .builtin .cap, args := #[.tmp 22], argTypes := #[43] }, 3, "", #[], some (20, false)⟩,
    ⟨some 24, .fieldAddr 45 (.tmp 2) 0, 0, "", #[], some (20, false)⟩,
    ⟨some 25, .load 43 (.tmp 24), 43, "", #[], some (20, false)⟩,
    ⟨some 26, .call { callee := .builtin .len, args := #[.tmp 25], argTypes := #[43] }, 3, "", #[], some (20, false)⟩,
    ⟨some 27, .binOp .neq 3 (.tmp 23) (.tmp 26) 3, 4, "", #[], some (20, false)⟩,
    ⟨some 28, .pick (.tmp 20) (.const (.bool true)) (.tmp 27), 4, "", #[], none⟩] false)
  (.cond (.tmp 28)
    (.seq (.region 2 #[⟨some 4, .assign (.const (.int .i64 0)), 3, "", #[], none⟩] false)
    .ret)
    .skip))
  (.seq (.seq (.region 3 #[⟨some 5, .assign (.const (.int .i64 0)), 3, "", #[], none⟩] false)
  (.block 0 (.loop (.seq (.seq (.region 4 #[⟨some 29, .move (.tmp 5), 3, "", #[], none⟩,
    ⟨some 30, .fieldAddr 45 (.tmp 2) 0, 0, "", #[], none⟩,
    ⟨some 31, .load 43 (.tmp 30), 43, "", #[], none⟩,
    ⟨some 32, .call { callee := .builtin .len, args := #[.tmp 31], argTypes := #[43] }, 3, "", #[], none⟩,
    ⟨some 33, .binOp .lss 3 (.tmp 29) (.tmp 32) 3, 4, "", #[], none⟩] false)
  (.cond (.tmp 33)
    .skip
    (.exit 0)))
  (.seq (.block 1 (.seq (.region 6 #[⟨some 36, .fieldAddr 45 (.tmp 2) 0, 0, "", #[], none⟩,
    ⟨some 37, .load 43 (.tmp 36), 43, "", #[], none⟩,
    ⟨some 38, .move (.tmp 5), 3, "", #[], none⟩,
    ⟨some 39, .indexAddr 43 (.tmp 37) (.tmp 38), 0, "", #[], none⟩,
    ⟨some 40, .load 3 (.tmp 39), 3, "", #[], none⟩,
    ⟨some 41, .fieldAddr 45 (.tmp 3) 0, 0, "", #[], none⟩,
    ⟨some 42, .load 43 (.tmp 41), 43, "", #[], none⟩,
    ⟨some 43, .move (.tmp 5), 3, "", #[], none⟩,
    ⟨some 44, .indexAddr 43 (.tmp 42) (.tmp 43), 0, "", #[], none⟩,
    ⟨some 45, .load 3 (.tmp 44), 3, "", #[], none⟩,
    ⟨some 46, .binOp .neq 3 (.tmp 40) (.tmp 45) 3, 4, "", #[], none⟩] true)
  (.cond (.tmp 46)
    (.seq (.region 7 #[⟨some 4, .assign (.const (.int .i64 0)), 3, "", #[], none⟩] false)
    .ret)
    .skip)))
  (.region 5 #[⟨some 34, .move (.tmp 5), 3, "", #[], none⟩,
    ⟨some 35, .binOp .add 3 (.tmp 34) (.const (.int .i64 1)) 3, 3, "", #[], none⟩,
    ⟨some 5, .assign (.tmp 35), 3, "", #[], none⟩] false))))))
  (.seq (.region 8 #[⟨some 4, .assign (.const (.int .i64 1)), 3, "", #[], none⟩] false)
  .ret))))
def fn19 : AFn := { ntmps := 47, results := [.tmp 4], body := c19, keep := fun | 0 => some [2, 3] | 1 => some [2, 3, 28] | 2 => some [4] | 3 => some [2, 3, 5] | 4 => some [2, 3, 5, 33] | 5 => some [2, 3, 5] | 6 => some [2, 3, 5, 46] | 7 => some [4] | 8 => some [4] | _ => none, head := fun | 4 => some [2, 3, 5] | _ => none, opn := fun _ => none, dyn := fun _ => [] }
/-- vidimus/constraints.PutSkip -/
def c20 : Code :=
  (.seq (.region 0 #[⟨some 2, .assign (.const (.slice none 0 0)), 30, "", #[], none⟩,
    ⟨some 3, .assign (.const (.int .i64 0)), 34, "", #[], none⟩] false)
  (.seq (.seq (.region 1 #[⟨some 4, .move (.tmp 0), 3, "", #[], none⟩,
    ⟨some 5, .call { callee := .value (.func 36), args := #[.tmp 4], argTypes := #[3] }, 4, "", #[], none⟩,
    ⟨some 6, .unOp .not 4 (.tmp 5), 4, "", #[], none⟩] false)
  (.cond (.tmp 6)
    (.seq (.region 2 #[⟨some 2, .assign (.const (.slice none 0 0)), 30, "", #[], none⟩,
      ⟨some 3, .assign (.const (.int .i64 1)), 34, "", #[], none⟩] false)
    .ret)
    .skip))
  (.seq (.region 3 #[⟨some 7, .load 29 (.global 1), 29, "", #[], none⟩,
    ⟨some 8, .move (.tmp 0), 3, "", #[], none⟩,
    ⟨some 9, .call { callee := .value (.func 33), args := #[.tmp 8], argTypes := #[3] }, 30, "", #[], none⟩,
    ⟨some 10, .build 33 #[(0, .tmp 7), (1, .tmp 9)], 33, "", #[], none⟩,
    ⟨some 11, .call { callee := .value (.func 35), args := #[.tmp 10], argTypes := #[33] }, 37, "", #[], none⟩,
    ⟨some 12, .extract (.tmp 11) 0, 30, "", #[], none⟩,
    ⟨some 13, .extract (.tmp 11) 1, 34, "", #[], none⟩,
    ⟨some 2, .assign (.tmp 12), 30, "", #[], none⟩,
    ⟨some 3, .assign (.tmp 13), 34, "", #[], none⟩] true)
  .ret)))
def fn20 : AFn := { ntmps := 14, results := [.tmp 2, .tmp 3], body := c20, keep := fun | 0 => some [0] | 1 => some [0, 6] | 2 => some [2, 3] | 3 => some [2, 3] | _ => none, head := fun  | _ => none, opn := fun _ => none, dyn := fun _ => [] }
/-- vidimus/constraints.GetSkip -/
def c21 : Code :=
  (.seq (.region 0 #[⟨some 2, .assign (.const (.int .i64 0)), 3, "", #[], none⟩,
    ⟨some 3, .assign (.const (.int .i64 0)), 3, "", #[], none⟩,
    ⟨some 4, .assign (.const (.int .i64 0)), 34, "", #[], none⟩] false)
  (.seq (.region 1 #[⟨some 5, .move (.tmp 0), 30, "", #[], none⟩,
    ⟨some 6, .call { callee := .value (.func 44), args := #[.tmp 5, .func 45], argTypes := #[30, 86] }, 52, "", #[], none⟩,
    ⟨some 7, .extract (.tmp 6) 0, 3, "", #[], none⟩,
    ⟨some 8, .extract (.tmp 6) 1, 3, "", #[], none⟩,
    ⟨some 9, .extract (.tmp 6) 2, 34, "", #[], none⟩,
    ⟨some 2, .assign (.tmp 7), 3, "", #[], none⟩,
    ⟨some 3, .assign (.tmp 8), 3, "", #[], none⟩,
    ⟨some 4, .assign (.tmp 9), 34, "", #[], none⟩] false)
  .ret))
def fn21 : AFn := { ntmps := 10, results := [.tmp 2, .tmp 3, .tmp 4], body := c21, keep := fun | 0 => some [0] | 1 => some [2, 3, 4] | _ => none, head := fun  | _ => none, opn := opnT, dyn := fun _ => [] }
/-- vidimus/vidimusref16.Int -/
def c22 : Code :=
  (.seq (.region 0 #[⟨some 2, .assign (.const (.slice none 0 0)), 30, "", #[], none⟩] false)
  (.seq (.region 1 #[⟨some 3, .assign (.const (.slice none 0 0)), 30, "", #[], none⟩] false)
  (.seq (.seq (.region 2 #[⟨some 5, .move (.tmp 0), 22, "", #[], none⟩,
    ⟨some 4, .assign (.tmp 5), 22, "", #[], none⟩] false)
  (.block 0 (.loop (.seq (.seq (.region 3 #[⟨some 6, .move (.tmp 4), 22, "", #[], none⟩,
    ⟨some 7, .binOp .gtr 22 (.tmp 6) (.const (.int .u32 0)) 22, 4, "", #[], none⟩,
    ⟨some 8, .move (.tmp 7), 4, "", #[], none⟩,
    ⟨some 9, .move (.tmp 3), 30, "", #[], some (8, false)⟩,
    ⟨some 10, .call { callee := .builtin .len, args := #[.tmp 9], argTypes := #[30] }, 3, "", #[], some (8, false)⟩,
    ⟨some 11, .binOp .eql 3 (.tmp 10) (.const (.int .i64 0)) 3, 4, "", #[], some (8, false)⟩,
    ⟨some 12, .pick (.tmp 8) (.const (.bool true)) (.tmp 11), 4, "", #[], none⟩] false)
  (.cond (.tmp 12)
    .skip
    (.exit 0)))
  (.seq (.block 1 (.region 5 #[⟨some 15, .move (.tmp 4), 22, "", #[], none⟩,
    ⟨some 16, .binOp .rem 22 (.tmp 15) (.const (.int .u32 256)) 22, 22, "", #[], none⟩,
    ⟨some 17, .convert 22 5 (.tmp 16), 5, "", #[], none⟩,
    ⟨some 18, .buildSlice 30 1 #[(0, .tmp 17)], 30, "", #[], none⟩,
    ⟨some 19, .move (.tmp 3), 30, "", #[], none⟩,
    ⟨some 20, .call { callee := .builtin .append, args := #[.tmp 18, .tmp 19], argTypes := #[30, 30] }, 30, "", #[], none⟩,
    ⟨some 3, .assign (.tmp 20), 30, "", #[], none⟩] false))
  (.region 4 #[⟨some 13, .move (.tmp 4), 22, "", #[], none⟩,
    ⟨some 14, .binOp .quo 22 (.tmp 13) (.const (.int .u32 256)) 22, 22, "", #[], none⟩,
    ⟨some 4, .assign (.tmp 14), 22, "", #[], none⟩] false))))))
  (.seq (.seq (.region 6 #[⟨some 21, .move (.tmp 3), 30, "", #[], none⟩,
    ⟨some 22, .indexAddr 30 (.tmp 21) (.const (.int .i64 0)), 0, "", #[], none⟩,
    ⟨some 23, .load 5 (.tmp 22), 5, "", #[], none⟩,
    ⟨some 24, .binOp .gtr 5 (.tmp 23) (.const (.int .u8 127)) 5, 4, "", #[], none⟩] false)
  (.cond (.tmp 24)
    (.region 7 #[⟨some 25, .buildSlice 30 1 #[(0, .const (.int .u8 0))], 30, "", #[], none⟩,
      ⟨some 26, .move (.tmp 3), 30, "", #[], none⟩,
      ⟨some 27, .call { callee := .builtin .append, args := #[.tmp 25, .tmp 26], argTypes := #[30, 30] }, 30, "", #[], none⟩,
      ⟨some 3, .assign (.tmp 27), 30, "", #[], none⟩] false)
    .skip))
  (.seq (.region 8 #[⟨some 28, .move (.tmp 3), 30, "", #[], none⟩,
    ⟨some 2, .assign (.tmp 28), 30, "", #[], none⟩] false)
  .ret)))))
def fn22 : AFn := { ntmps := 29, results := [.tmp 2], body := c22, keep := fun | 0 => some [0] | 1 => some [0, 3] | 2 => some [3, 4] | 3 => some [3, 4, 12] | 4 => some [3, 4] | 5 => some [3, 4] | 6 => some [3, 24] | 7 => some [3] | 8 => some [2] | _ => none, head := fun | 3 => some [3, 4] | _ => none, opn := fun _ => none, dyn := fun _ => [] }
/-- vidimus/vidimuslaw19.few -/
def c23 : Code :=
  (.seq (.region 0 #[⟨some 3, .box 33 (.tmp 0), 0, "", #[], none⟩,
    ⟨some 6, .assign (.const (.int .i64 0)), 3, "", #[], none⟩] false)
  (.seq (.region 1 #[⟨some 8, .move (.tmp 1), 57, "", #[], none⟩,
    ⟨some 9, .move (.tmp 1), 57, "", #[], none⟩,
    ⟨some 10, .nilCheck (.tmp 9), 0, "", #[], none⟩,
    ⟨some 11, .load 3 (.tmp 10), 3, "", #[], none⟩,
    ⟨some 12, .binOp .sub 3 (.tmp 11) (.const (.int .i64 1)) 3, 3, "", #[], none⟩,
    ⟨some 13, .nilCheck (.tmp 8), 0, "", #[], none⟩,
    ⟨none, .store 3 (.tmp 13) (.tmp 12), 0, "", #[], none⟩] false)
  (.seq (.seq (.region 2 #[⟨some 14, .move (.tmp 1), 57, "", #[], none⟩,
    ⟨some 15, .nilCheck (.tmp 14), 0, "", #[], none⟩,
    ⟨some 16, .load 3 (.tmp 15), 3, "", #[], none⟩,
    ⟨some 17, .binOp .lss 3 (.tmp 16) (.const (.int .i64 0)) 3, 4, "", #[], none⟩,
    ⟨some 18, .move (.tmp 17), 4, "", #[], none⟩,
    ⟨some 19, .move (.tmp 2), 3, "", #[], some (18, false)⟩,
    ⟨some 20, .binOp .gtr 3 (.tmp 19) (.const (.int .i64 20)) 3, 4, "", #[], some (18, false)⟩,
    ⟨some 21, .pick (.tmp 18) (.const (.bool true)) (.tmp 20), 4, "", #[], none⟩,
    ⟨some 22, .move (.tmp 21), 4, "", #[], none⟩,
    ⟨some 23, .fieldAddr 33 (.tmp 3) 1, 0, "", #[], some (22, false)⟩,
    ⟨some 24, .load 30 (.tmp 23), 30, "", #[], some (22, false)⟩,
    ⟨some 25, .call { callee := .builtin .len, args := #[.tmp 24], argTypes := #[30] }, 3, "", #[], some (22, false)⟩,
    ⟨some 26, .binOp .gtr 3 (.tmp 25) (.const (.int .i64 20)) 3, 4, "", #[], some (22, false)⟩,
    ⟨some 27, .pick (.tmp 22) (.const (.bool true)) (.tmp 26), 4, "", #[], none⟩,
    ⟨some 28, .move (.tmp 27), 4, "", #[], none⟩,
    ⟨some 29, .fieldAddr 33 (.tmp 3) 2, 0, "", #[], some (28, false)⟩,
    ⟨some 30, .load 31 (.tmp 29), 31, "", #[], some (28, false)⟩,
    ⟨some 31, .call { callee := .builtin .len, args := #[.tmp 30], argTypes := #[31] }, 3, "", #[], some (28, false)⟩,
    ⟨some 32, .binOp .gtr 3 (.tmp 31) (.const (.int .i64 20)) 3, 4, "", #[], some (28, false)⟩,
    ⟨some 33, .pick (.tmp 28) (.const (.bool true)) (.tmp 32), 4, "", #[], none⟩] false)
  (.cond (.tmp 33)
    (.seq (.region 3 #[⟨some 6, .assign (.const (.int .i64 0)), 3, "", #[], none⟩] false)
    .ret)
    .skip))
  (.seq (.seq (.region 4 #[⟨some 7, .assign (.const (.int .i64 0)), 3, "", #[], none⟩] false)
  (.block 0 (.loop (.seq (.seq (.region 5 #[⟨some 34, .move (.tmp 7), 3, "", #[], none⟩,
    ⟨some 35, .fieldAddr 33 (.tmp 3) 2, 0, "", #[], none⟩,
    ⟨some 36, .load 31 (.tmp 35), 31, "", #[], none⟩,
    ⟨some 37, .call { callee := .builtin .len, args := #[.tmp 36], argTypes := #[31] }, 3, "", #[], none⟩,
    ⟨some 38, .binOp .lss 3 (.tmp 34) (.tmp 37) 3, 4, "", #[], none⟩] false)
  (.cond (.tmp 38)
    .skip
    (.exit 0)))
  (.seq (.block 1 (.seq (.region 7 #[⟨some 41, .fieldAddr 33 (.tmp 3) 2, 0, "", #[], none⟩,
    ⟨some 42, .load 31 (.tmp 41), 31, "", #[], none⟩,
    ⟨some 43, .move (.tmp 7), 3, "", #[], none⟩,
    ⟨some 44, .indexAddr 31 (.tmp 42) (.tmp 43), 0, "", #[], none⟩,
    ⟨some 45, .load 33 (.tmp 44), 33, "", #[], none⟩,
    ⟨some 46, .move (.tmp 1), 57, "", #[], none⟩,
    ⟨some 47, .move (.tmp 2), 3, "", #[], none⟩,
    ⟨some 48, .binOp .add 3 (.tmp 47) (.const (.int .i64 1)) 3, 3, "", #[], none⟩,
    ⟨some 49, .call { callee := .value (.func 23), args := #[.tmp 45, .tmp 46, .tmp 48], argTypes := #[33, 57, 3] }, 3, "", #[], none⟩,
    ⟨some 50, .binOp .eql 3 (.tmp 49) (.const (.int .i64 0)) 3, 4, "", #[], none⟩] false)
  (.cond (.tmp 50)
    (.seq (.region 8 #[⟨some 6, .assign (.const (.int .i64 0)), 3, "", #[], none⟩] false)
    .ret)
    .skip)))
  (.region 6 #[⟨some 39, .move (.tmp 7), 3, "", #[], none⟩,
    ⟨some 40, .binOp .add 3 (.tmp 39) (.const (.int .i64 1)) 3, 3, "", #[], none⟩,
    ⟨some 7, .assign (.tmp 40), 3, "", #[], none⟩] false))))))
  (.seq (.region 9 #[⟨some 6, .assign (.const (.int .i64 1)), 3, "", #[], none⟩] false)
  .ret)))))
def fn23 : AFn := { ntmps := 51, results := [.tmp 6], body := c23, keep := fun | 0 => some [1, 2, 3] | 1 => some [1, 2, 3] | 2 => some [1, 2, 3, 33] | 3 => some [6] | 4 => some [1, 2, 3, 7] | 5 => some [1, 2, 3, 7, 38] | 6 => some [1, 2, 3, 7] | 7 => some [1, 2, 3, 7, 50] | 8 => some [6] | 9 => some [6] | _ => none, head := fun | 5 => some [1, 2, 3, 7] | _ => none, opn := opnT, dyn := fun _ => [] }
/-- vidimus/vidimuslaw19.told -/
def c24 : Code :=
  (.seq (.region 0 #[⟨some 1, .box 33 (.tmp 0), 0, "", #[], none⟩,
    ⟨some 2, .alloc 25, 0, "", #[], none⟩,
    ⟨some 3, .alloc 45, 0, "", #[], none⟩] false)
  (.seq (.region 1 #[⟨some 4, .alloc 25, 0, "", #[], none⟩] false)
  (.seq (.region 2 #[⟨some 11, .load 33 (.tmp 1), 33, "", #[], none⟩,
    ⟨some 12, .call { callee := .value (.func 39), args := #[.tmp 11], argTypes := #[33] }, 34, "", #[], none⟩,
    ⟨some 5, .assign (.tmp 12), 34, "", #[], none⟩] false)
  (.seq (.seq (.region 3 #[⟨some 13, .move (.tmp 5), 34, "", #[], none⟩,
    ⟨some 14, .binOp .neq 34 (.tmp 13) (.const (.int .i64 0)) 34, 4, "", #[], none⟩] false)
  (.cond (.tmp 14)
    (.seq (.region 4 #[⟨some 15, .load 25 (.tmp 4), 25, "", #[], none⟩,
      ⟨some 16, .move (.tmp 5), 34, "", #[], none⟩,
      ⟨some 17, .call { callee := .value (.func 46), args := #[.tmp 16, .const (.int .i64 (-1))], argTypes := #[34, 3] }, 45, "", #[], none⟩,
      ⟨none, .store 25 (.tmp 2) (.tmp 15), 0, "", #[], none⟩,
      ⟨none, .store 45 (.tmp 3) (.tmp 17), 0, "", #[], none⟩] true)
    .ret)
    .skip))
  (.seq (.region 5 #[⟨some 18, .build 29 #[(0, .const (.int .u8 2))], 29, "", #[], none⟩,
    ⟨some 19, .build 80 #[(0, .tmp 18), (2, .const (.bool true))], 80, "", #[], none⟩,
    ⟨some 6, .alloc 80, 0, "", #[], none⟩,
    ⟨none, .store 80 (.tmp 6) (.tmp 19), 0, "", #[], none⟩] false)
  (.seq (.region 6 #[⟨some 20, .build 29 #[(0, .const (.int .u8 2)), (2, .const (.int .u32 1))], 29, "", #[], none⟩,
    ⟨some 21, .build 80 #[(0, .tmp 20), (2, .const (.bool true))], 80, "", #[], none⟩,
    ⟨some 7, .alloc 80, 0, "", #[], none⟩,
    ⟨none, .store 80 (.tmp 7) (.tmp 21), 0, "", #[], none⟩] false)
  (.seq (.region 7 #[⟨some 23, .load 33 (.tmp 1), 33, "", #[], none⟩,
    ⟨some 24, .build 29 #[(1, .const (.bool true)), (2, .const (.int .u32 16))], 29, "", #[], none⟩,
    ⟨some 25, .load 80 (.tmp 6), 80, "", #[], none⟩,
    ⟨some 26, .load 80 (.tmp 7), 80, "", #[], none⟩,
    ⟨some 27, .buildSlice 81 2 #[(0, .tmp 25), (1, .tmp 26)], 81, "", fz, none⟩,
    ⟨some 28, .call { callee := .value (.func 47), args := #[.tmp 23, .tmp 24, .tmp 27], argTypes := #[33, 29, 81] }, 77, "", #[], none⟩,
    ⟨some 22, .move (.tmp 28), 77, "", #[], none⟩,
    ⟨some 29, .extract (.tmp 22) 0, 43, "", #[], none⟩,
    ⟨some 30, .extract (.tmp 22) 1, 45, "", #[], none⟩,
    ⟨some 9, .alloc 45, 0, "", #[], none⟩,
    ⟨some 8, .assign (.tmp 29), 43, "", #[], none⟩,
    ⟨none, .store 45 (.tmp 9) (.tmp 30), 0, "", #[], none⟩] false)
  (.seq (.seq (.region 8 #[⟨some 31, .fieldAddr 45 (.tmp 9) 1, 0, "", #[], none⟩,
    ⟨some 32, .load 34 (.tmp 31), 34, "", #[], none⟩,
    ⟨some 33, .binOp .neq 34 (.tmp 32) (.const (.int .i64 0)) 34, 4, "", #[], none⟩] false)
  (.cond (.tmp 33)
    (.seq (.region 9 #[⟨some 34, .load 25 (.tmp 4), 25, "", #[], none⟩,
      ⟨some 35, .load 45 (.tmp 9), 45, "", #[], none⟩,
      ⟨none, .store 25 (.tmp 2) (.tmp 34), 0, "", #[], none⟩,
      ⟨none, .store 45 (.tmp 3) (.tmp 35), 0, "", #[], none⟩] true)
    .ret)
    .skip))
  (.seq (.region 10 #[⟨some 36, .build 25 #[(0, .const (.int .i64 (-1))), (1, .const (.int .i64 (-1)))], 25, "", #[], none⟩,
    ⟨some 10, .alloc 25, 0, "", #[], none⟩,
    ⟨none, .store 25 (.tmp 10) (.tmp 36), 0, "", #[], none⟩] false)
  (.seq (.seq (.region 11 #[⟨some 37, .move (.tmp 8), 43, "", #[], none⟩,
    ⟨some 38, .indexAddr 43 (.tmp 37) (.const (.int .i64 0)), 0, "", #[], none⟩,
    ⟨some 39, .load 3 (.tmp 38), 3, "", #[], none⟩,
    ⟨some 40, .binOp .lss 3 (.tmp 39) (.const (.int .i64 0)) 3, 4, "", #[], none⟩,
    ⟨some 41, .move (.tmp 40), 4, "", #[], none⟩,
    ⟨some 42, .move (.tmp 8), 43, "", #[], some (41, true)⟩,
    ⟨some 43, .indexAddr 43 (.tmp 42) (.const (.int .i64 1)), 0, "", #[], some (41, true)⟩,
    ⟨some 44, .load 3 (.tmp 43), 3, "", #[], some (41, true)⟩,
    ⟨some 45, .binOp .lss 3 (.tmp 44) (.const (.int .i64 0)) 3, 4, "", #[], some (41, true)⟩,
    ⟨some 46, .pick (.tmp 41) (.tmp 45) (.const (.bool false)), 4, "", #[], none⟩] false)
  (.cond (.tmp 46)
    (.seq (.region 12 #[⟨some 47, .load 25 (.tmp 4), 25, "", #[], none⟩,
      ⟨some 48, .call { callee := .value (.func 46), args := #[.const (.int .i64 17), .const (.int .i64 (-1))], argTypes := #[34, 3] }, 45, "", #[], none⟩,
      ⟨none, .store 25 (.tmp 2) (.tmp 47), 0, "", #[], none⟩,
      ⟨none, .store 45 (.tmp 3) (.tmp 48), 0, "", #[], none⟩] true)
    .ret)
    .skip))
  (.seq (.seq (.region 13 #[⟨some 49, .move (.tmp 8), 43, "", #[], none⟩,
    ⟨some 50, .indexAddr 43 (.tmp 49) (.const (.int .i64 0)), 0, "", #[], none⟩,
    ⟨some 51, .load 3 (.tmp 50), 3, "", #[], none⟩,
    ⟨some 52, .binOp .geq 3 (.tmp 51) (.const (.int .i64 0)) 3, 4, "", #[], none⟩] false)
  (.cond (.tmp 52)
    (.seq (.region 14 #[⟨some 54, .fieldAddr 33 (.tmp 1) 2, 0, "", #[], none⟩,
      ⟨some 55, .load 31 (.tmp 54), 31, "", #[], none⟩,
      ⟨some 56, .move (.tmp 8), 43, "", #[], none⟩,
      ⟨some 57, .indexAddr 43 (.tmp 56) (.const (.int .i64 0)), 0, "", #[], none⟩,
      ⟨some 58, .load 3 (.tmp 57), 3, "", #[], none⟩,
      ⟨some 59, .indexAddr 31 (.tmp 55) (.tmp 58), 0, "", #[], none⟩,
      ⟨some 60, .fieldAddr 33 (.tmp 59) 1, 0, "", #[], none⟩,
      ⟨some 61, .load 30 (.tmp 60), 30, "", #[], none⟩,
      ⟨some 62, .call { callee := .value (.func 28), args := #[.tmp 61], argTypes := #[30] }, 62, "", #[], none⟩,
      ⟨some 53, .move (.tmp 62), 62, "", #[], none⟩,
      ⟨some 63, .extract (.tmp 53) 0, 3, "", #[], none⟩,
      ⟨some 64, .extract (.tmp 53) 1, 34, "", #[], none⟩,
      ⟨some 65, .fieldAddr 25 (.tmp 10) 0, 0, "", #[], none⟩,
      ⟨none, .store 3 (.tmp 65) (.tmp 63), 0, "", #[], none⟩,
      ⟨some 5, .assign (.tmp 64), 34, "", #[], none⟩] true)
    (.seq (.region 15 #[⟨some 66, .move (.tmp 5), 34, "", #[], none⟩,
      ⟨some 67, .binOp .neq 34 (.tmp 66) (.const (.int .i64 0)) 34, 4, "", #[], none⟩] false)
    (.cond (.tmp 67)
      (.seq (.region 16 #[⟨some 68, .load 25 (.tmp 4), 25, "", #[], none⟩,
        ⟨some 69, .move (.tmp 5), 34, "", #[], none⟩,
        ⟨some 70, .move (.tmp 8), 43, "", #[], none⟩,
        ⟨some 71, .indexAddr 43 (.tmp 70) (.const (.int .i64 0)), 0, "", #[], none⟩,
        ⟨some 72, .load 3 (.tmp 71), 3, "", #[], none⟩,
        ⟨some 73, .call { callee := .value (.func 46), args := #[.tmp 69, .tmp 72], argTypes := #[34, 3] }, 45, "", #[], none⟩,
        ⟨none, .store 25 (.tmp 2) (.tmp 68), 0, "", #[], none⟩,
        ⟨none, .store 45 (.tmp 3) (.tmp 73), 0, "", #[], none⟩] true)
      .ret)
      .skip)))
    .skip))
  (.seq (.seq (.region 17 #[⟨some 74, .move (.tmp 8), 43, "", #[], none⟩,
    ⟨some 75, .indexAddr 43 (.tmp 74) (.const (.int .i64 1)), 0, "", #[], none⟩,
    ⟨some 76, .load 3 (.tmp 75), 3, "", #[], none⟩,
    ⟨some 77, .binOp .geq 3 (.tmp 76) (.const (.int .i64 0)) 3, 4, "", #[], none⟩] false)
  (.cond (.tmp 77)
    (.seq (.region 18 #[⟨some 79, .fieldAddr 33 (.tmp 1) 2, 0, "", #[], none⟩,
      ⟨some 80, .load 31 (.tmp 79), 31, "", #[], none⟩,
      ⟨some 81, .move (.tmp 8), 43, "", #[], none⟩,
      ⟨some 82, .indexAddr 43 (.tmp 81) (.const (.int .i64 1)), 0, "", #[], none⟩,
      ⟨some 83, .load 3 (.tmp 82), 3, "", #[], none⟩,
      ⟨some 84, .indexAddr 31 (.tmp 80) (.tmp 83), 0, "", #[], none⟩,
      ⟨some 85, .fieldAddr 33 (.tmp 84) 1, 0, "", #[], none⟩,
      ⟨some 86, .load 30 (.tmp 85), 30, "", #[], none⟩,
      ⟨some 87, .call { callee := .value (.func 28), args := #[.tmp 86], argTypes := #[30] }, 62, "", #[], none⟩,
      ⟨some 78, .move (.tmp 87), 62, "", #[], none⟩,
      ⟨some 88, .extract (.tmp 78) 0, 3, "", #[], none⟩,
      ⟨some 89, .extract (.tmp 78) 1, 34, "", #[], none⟩,
      ⟨some 90, .fieldAddr 25 (.tmp 10) 1, 0, "", #[], none⟩,
      ⟨none, .store 3 (.tmp 90) (.tmp 88), 0, "", #[], none⟩,
      ⟨some 5, .assign (.tmp 89), 34, "", #[], none⟩] true)
    (.seq (.region 19 #[⟨some 91, .move (.tmp 5), 34, "", #[], none⟩,
      ⟨some 92, .binOp .neq 34 (.tmp 91) (.const (.int .i64 0)) 34, 4, "", #[], none⟩] false)
    (.cond (.tmp 92)
      (.seq (.region 20 #[⟨some 93, .load 25 (.tmp 4), 25, "", #[], none⟩,
        ⟨some 94, .move (.tmp 5), 34, "", #[], none⟩,
        ⟨some 95, .move (.tmp 8), 43, "", #[], none⟩,
        ⟨some 96, .indexAddr 43 (.tmp 95) (.const (.int .i64 1)), 0, "", #[], none⟩,
        ⟨some 97, .load 3 (.tmp 96), 3, "", #[], none⟩,
        ⟨some 98, .call { callee := .value (.func 46), args := #[.tmp 94, .tmp 97], argTypes := #[34, 3] }, 45, "", #[], none⟩,
        ⟨none, .store 25 (.tmp 2) (.tmp 93), 0, "", #[], none⟩,
        ⟨none, .store 45 (.tmp 3) (.tmp 98), 0, "", #[], none⟩] true)
      .ret)
      .skip)))
    .skip))
  (.seq (.region 21 #[⟨some 99, .load 25 (.tmp 10), 25, "", #[], none⟩,
    ⟨some 100, .load 45 (.tmp 9), 45, "", #[], none⟩,
    ⟨none, .store 25 (.tmp 2) (.tmp 99), 0, "", #[], none⟩,
    ⟨none, .store 45 (.tmp 3) (.tmp 100), 0, "", #[], none⟩] true)
  .ret)))))))))))))
def fn24 : AFn := { ntmps := 101, results := [.cell 2 25, .cell 3 45], body := c24, keep := fun | 0 => some [1, 2, 3] | 1 => some [1, 2, 3, 4] | 2 => some [1, 2, 3, 4, 5] | 3 => some [1, 2, 3, 4, 5, 14] | 4 => some [2, 3] | 5 => some [1, 2, 3, 4, 6] | 6 => some [1, 2, 3, 4, 6, 7] | 7 => some [1, 2, 3, 4, 8, 9] | 8 => some [1, 2, 3, 4, 8, 9, 33] | 9 => some [2, 3] | 10 => some [1, 2, 3, 4, 8, 9, 10] | 11 => some [1, 2, 3, 4, 8, 9, 10, 46] | 12 => some [2, 3] | 13 => some [1, 2, 3, 4, 8, 9, 10, 52] | 14 => some [1, 2, 3, 4, 5, 8, 9, 10] | 15 => some [1, 2, 3, 4, 5, 8, 9, 10, 67] | 16 => some [2, 3] | 17 => some [1, 2, 3, 4, 8, 9, 10, 77] | 18 => some [2, 3, 4, 5, 8, 9, 10] | 19 => some [2, 3, 4, 5, 8, 9, 10, 92] | 20 => some [2, 3] | 21 => some [2, 3] | _ => none, head := fun  | _ => none, opn := fun _ => none, dyn := fun | 9 => [(1, 2)] | 21 => [(1, 2)] | _ => [] }
/-- vidimus/vidimusref19.Check -/
def c25 : Code :=
  (.seq (.region 0 #[⟨some 1, .box 25 (.tmp 0), 0, "", #[], none⟩,
    ⟨some 2, .assign (.const (.int .i64 0)), 34, "", #[], none⟩] false)
  (.seq (.seq (.region 1 #[⟨some 3, .fieldAddr 25 (.tmp 1) 0, 0, "", #[], none⟩,
    ⟨some 4, .load 3 (.tmp 3), 3, "", #[], none⟩,
    ⟨some 5, .binOp .lss 3 (.tmp 4) (.const (.int .i64 (-1))) 3, 4, "", #[], none⟩,
    ⟨some 6, .move (.tmp 5), 4, "", #[], none⟩,
    ⟨some 7, .fieldAddr 25 (.tmp 1) 0, 0, "", #[], some (6, false)⟩,
    ⟨some 8, .load 3 (.tmp 7), 3, "", #[], some (6, false)⟩,
    ⟨some 9, .binOp .gtr 3 (.tmp 8) (.const (.int .i64 2147483647)) 3, 4, "", #[], some (6, false)⟩,
    ⟨some 10, .pick (.tmp 6) (.const (.bool true)) (.tmp 9), 4, "", #[], none⟩,
    ⟨some 11, .move (.tmp 10), 4, "", #[], none⟩,
    ⟨some 12, .fieldAddr 25 (.tmp 1) 1, 0, "", #[], some (11, false)⟩,
    ⟨some 13, .load 3 (.tmp 12), 3, "", #[], some (11, false)⟩,
    ⟨some 14, .binOp .lss 3 (.tmp 13) (.const (.int .i64 (-1))) 3, 4, "", #[], some (11, false)⟩,
    ⟨some 15, .pick (.tmp 11) (.const (.bool true)) (.tmp 14), 4, "", #[], none⟩,
    ⟨some 16, .move (.tmp 15), 4, "", #[], none⟩,
    ⟨some 17, .fieldAddr 25 (.tmp 1) 1, 0, "", #[], some (16, false)⟩,
    ⟨some 18, .load 3 (.tmp 17), 3, "", #[], some (16, false)⟩,
    ⟨some 19, .binOp .gtr 3 (.tmp 18) (.const (.int .i64 2147483647)) 3, 4, "", #[], some (16, false)⟩,
    ⟨some 20, .pick (.tmp 16) (.const (.bool true)) (.tmp 19), 4, "", #[], none⟩] false)
  (.cond (.tmp 20)
    (.seq (.region 2 #[⟨some 2, .assign (.const (.int .i64 1)), 34, "", #[], none⟩] false)
    .ret)
    .skip))
  (.seq (.seq (.region 3 #[⟨some 21, .fieldAddr 25 (.tmp 1) 0, 0, "", #[], none⟩,
    ⟨some 22, .load 3 (.tmp 21), 3, "", #[], none⟩,
    ⟨some 23, .binOp .eql 3 (.tmp 22) (.const (.int .i64 (-1))) 3, 4, "", #[], none⟩,
    ⟨some 24, .move (.tmp 23), 4, "", #[], none⟩,
    ⟨some 25, .fieldAddr 25 (.tmp 1) 1, 0, "", #[], some (24, true)⟩,
    ⟨some 26, .load 3 (.tmp 25), 3, "", #[], some (24, true)⟩,
    ⟨some 27, .binOp .eql 3 (.tmp 26) (.const (.int .i64 (-1))) 3, 4, "", #[], some (24, true)⟩,
    ⟨some 28, .pick (.tmp 24) (.tmp 27) (.const (.bool false)), 4, "", #[], none⟩] false)
  (.cond (.tmp 28)
    (.seq (.region 4 #[⟨some 2, .assign (.const (.int .i64 17)), 34, "", #[], none⟩] false)
    .ret)
    .skip))
  (.seq (.region 5 #[⟨some 2, .assign (.const (.int .i64 0)), 34, "", #[], none⟩] false)
  .ret))))
def fn25 : AFn := { ntmps := 29, results := [.tmp 2], body := c25, keep := fun | 0 => some [1] | 1 => some [1, 20] | 2 => some [2] | 3 => some [28] | 4 => some [2] | 5 => some [2] | _ => none, head := fun  | _ => none, opn := fun _ => none, dyn := fun _ => [] }
/-- vidimus/elements.Get -/
def c26 : Code :=
  (.seq (.region 0 #[⟨some 2, .alloc 33, 0, "", #[], none⟩,
    ⟨some 3, .assign (.const (.int .i64 0)), 3, "", #[], none⟩,
    ⟨some 4, .assign (.const (.int .i64 0)), 34, "", #[], none⟩] false)
  (.seq (.region 1 #[⟨some 7, .move (.tmp 0), 30, "", #[], none⟩,
    ⟨some 8, .call { callee := .value (.func 48), args := #[.tmp 7], argTypes := #[30] }, 88, "", #[], none⟩,
    ⟨some 6, .move (.tmp 8), 88, "", #[], none⟩,
    ⟨some 9, .extract (.tmp 6) 0, 33, "", #[], none⟩,
    ⟨some 10, .extract (.tmp 6) 1, 3, "", #[], none⟩,
    ⟨some 11, .extract (.tmp 6) 2, 3, "", #[], none⟩,
    ⟨some 12, .extract (.tmp 6) 3, 34, "", #[], none⟩,
    ⟨none, .store 33 (.tmp 2) (.tmp 9), 0, "", #[], none⟩,
    ⟨some 5, .assign (.tmp 10), 3, "", #[], none⟩,
    ⟨some 3, .assign (.tmp 11), 3, "", #[], none⟩,
    ⟨some 4, .assign (.tmp 12), 34, "", #[], none⟩] false)
  (.seq (.block 0 (.seq (.region 2 #[⟨some 14, .move (.tmp 4), 34, "", #[], none⟩,
    ⟨some 15, .binOp .neq 34 (.tmp 14) (.const (.int .i64 0)) 34, 4, "", #[], none⟩,
    ⟨some 13, .assign (.tmp 15), 4, "", #[], none⟩] false)
  (.cond (.tmp 13)
    (.seq (.region 3 #[⟨some 16, .build 33 #[], 33, "", #[], none⟩,
      ⟨some 17, .move (.tmp 3), 3, "", #[], none⟩,
      ⟨some 18, .move (.tmp 4), 34, "", #[], none⟩,
      ⟨none, .store 33 (.tmp 2) (.tmp 16), 0, "", #[], none⟩,
      ⟨some 3, .assign (.tmp 17), 3, "", #[], none⟩,
      ⟨some 4, .assign (.tmp 18), 34, "", #[], none⟩] false)
    .ret)
    (.seq (.region 4 #[⟨some 20, .move (.tmp 5), 3, "", #[], none⟩,
      ⟨some 21, .move (.tmp 0), 30, "", #[], none⟩,
      ⟨some 22, .call { callee := .builtin .len, args := #[.tmp 21], argTypes := #[30] }, 3, "", #[], none⟩,
      ⟨some 23, .binOp .lss 3 (.tmp 20) (.tmp 22) 3, 4, "", #[], none⟩,
      ⟨some 19, .assign (.tmp 23), 4, "", #[], none⟩] false)
    (.cond (.tmp 19)
      (.seq (.region 5 #[⟨some 24, .build 33 #[], 33, "", #[], none⟩,
        ⟨some 25, .move (.tmp 5), 3, "", #[], none⟩,
        ⟨none, .store 33 (.tmp 2) (.tmp 24), 0, "", #[], none⟩,
        ⟨some 3, .assign (.tmp 25), 3, "", #[], none⟩,
        ⟨some 4, .assign (.const (.int .i64 8)), 34, "", #[], none⟩] false)
      .ret)
      .skip)))))
  (.seq (.region 6 #[⟨some 26, .load 33 (.tmp 2), 33, "", #[], none⟩,
    ⟨none, .store 33 (.tmp 2) (.tmp 26), 0, "", #[], none⟩,
    ⟨some 3, .assign (.const (.int .i64 0)), 3, "", #[], none⟩,
    ⟨some 4, .assign (.const (.int .i64 0)), 34, "", #[], none⟩] false)
  .ret))))
def fn26 : AFn := { ntmps := 27, results := [.cell 2 33, .tmp 3, .tmp 4], body := c26, keep := fun | 0 => some [0, 2] | 1 => some [0, 2, 3, 4, 5] | 2 => some [0, 2, 3, 4, 5, 13] | 3 => some [2, 3, 4] | 4 => some [2, 5, 19] | 5 => some [2, 3, 4] | 6 => some [2, 3, 4] | _ => none, head := fun  | _ => none, opn := fun _ => none, dyn := fun _ => [] }
/-- vidimus/vidimusref12.Offset -/
def c27 : Code :=
  (.seq (.region 0 #[⟨some 2, .box 33 (.tmp 0), 0, "", #[], none⟩,
    ⟨some 4, .assign (.const (.int .i64 0)), 3, "", #[], none⟩] false)
  (.seq (.region 1 #[⟨some 5, .assign (.const (.int .i64 0)), 3, "", #[], none⟩] false)
  (.seq (.seq (.region 2 #[⟨some 6, .assign (.const (.int .i64 0)), 3, "", #[], none⟩] false)
  (.block 0 (.loop (.seq (.seq (.region 3 #[⟨some 9, .move (.tmp 6), 3, "", #[], none⟩,
    ⟨some 10, .move (.tmp 1), 43, "", #[], none⟩,
    ⟨some 11, .call { callee := .builtin .len, args := #[.tmp 10], argTypes := #[43] }, 3, "", #[], none⟩,
    ⟨some 12, .binOp .lss 3 (.tmp 9) (.tmp 11) 3, 4, "", #[], none⟩] false)
  (.cond (.tmp 12)
    .skip
    (.exit 0)))
  (.seq (.block 1 (.seq (.seq (.region 5 #[⟨some 15, .move (.tmp 1), 43, "", #[], none⟩,
    ⟨some 16, .move (.tmp 6), 3, "", #[], none⟩,
    ⟨some 17, .indexAddr 43 (.tmp 15) (.tmp 16), 0, "", #[], none⟩,
    ⟨some 18, .load 3 (.tmp 17), 3, "", #[], none⟩,
    ⟨some 19, .binOp .lss 3 (.tmp 18) (.const (.int .i64 0)) 3, 4, "", #[], none⟩,
    ⟨some 20, .move (.tmp 19), 4, "", #[], none⟩,
    ⟨some 21, .move (.tmp 1), 43, "", #[], some (20, false)⟩,
    ⟨some 22, .move (.tmp 6), 3, "", #[], some (20, false)⟩,
    ⟨some 23, .indexAddr 43 (.tmp 21) (.tmp 22), 0, "", #[], some (20, false)⟩,
    ⟨some 24, .load 3 (.tmp 23), 3, "", #[], some (20, false)⟩,
    ⟨some 25, .fieldAddr 33 (.tmp 2) 2, 0, "", #[], some (20, false)⟩,
    ⟨some 26, .load 31 (.tmp 25), 31, "", #[], some (20, false)⟩,
    ⟨some 27, .call { callee := .builtin .len, args := #[.tmp 26], argTypes := #[31] }, 3, "", #[], some (20, false)⟩,
    ⟨some 28, .binOp .geq 3 (.tmp 24) (.tmp 27) 3, 4, "", #[], some (20, false)⟩,
    ⟨some 29, .pick (.tmp 20) (.const (.bool true)) (.tmp 28), 4, "", #[], none⟩] true)
  (.cond (.tmp 29)
    (.seq (.region 6 #[⟨some 4, .assign (.const (.int .i64 (-1))), 3, "", #[], none⟩] false)
    .ret)
    .skip))
  (.seq (.region 7 #[⟨some 7, .assign (.const (.int .i64 0)), 3, "", #[], none⟩] false)
  (.seq (.seq (.region 8 #[⟨some 30, .move (.tmp 1), 43, "", #[], none⟩,
    ⟨some 31, .move (.tmp 6), 3, "", #[], none⟩,
    ⟨some 32, .indexAddr 43 (.tmp 30) (.tmp 31), 0, "", #[], none⟩,
    ⟨some 33, .load 3 (.tmp 32), 3, "", #[], none⟩,
    ⟨some 8, .assign (.tmp 33), 3, "", #[], none⟩] false)
  (.block 2 (.loop (.seq (.seq (.region 9 #[⟨some 34, .move (.tmp 8), 3, "", #[], none⟩,
    ⟨some 35, .fieldAddr 33 (.tmp 2) 2, 0, "", #[], none⟩,
    ⟨some 36, .load 31 (.tmp 35), 31, "", #[], none⟩,
    ⟨some 37, .call { callee := .builtin .len, args := #[.tmp 36], argTypes := #[31] }, 3, "", #[], none⟩,
    ⟨some 38, .binOp .lss 3 (.tmp 34) (.tmp 37) 3, 4, "", #[], none⟩] false)
  (.cond (.tmp 38)
    .skip
    (.exit 2)))
  (.seq (.block 3 (.region 11 #[⟨some 41, .move (.tmp 7), 3, "", #[], none⟩,
    ⟨some 42, .fieldAddr 33 (.tmp 2) 2, 0, "", #[], none⟩,
    ⟨some 43, .load 31 (.tmp 42), 31, "", #[], none⟩,
    ⟨some 44, .move (.tmp 8), 3, "", #[], none⟩,
    ⟨some 45, .indexAddr 31 (.tmp 43) (.tmp 44), 0, "", #[], none⟩,
    ⟨some 46, .load 33 (.tmp 45), 33, "", #[], none⟩,
    ⟨some 47, .call { callee := .value (.func 49), args := #[.tmp 46], argTypes := #[33] }, 30, "", #[], none⟩,
    ⟨some 48, .call { callee := .builtin .len, args := #[.tmp 47], argTypes := #[30] }, 3, "", #[], none⟩,
    ⟨some 49, .binOp .add 3 (.tmp 41) (.tmp 48) 3, 3, "", #[], none⟩,
    ⟨some 7, .assign (.tmp 49), 3, "", #[], none⟩] false))
  (.region 10 #[⟨some 39, .move (.tmp 8), 3, "", #[], none⟩,
    ⟨some 40, .binOp .add 3 (.tmp 39) (.const (.int .i64 1)) 3, 3, "", #[], none⟩,
    ⟨some 8, .assign (.tmp 40), 3, "", #[], none⟩] false))))))
  (.seq (.region 12 #[⟨some 50, .move (.tmp 5), 3, "", #[], none⟩,
    ⟨some 51, .load 33 (.tmp 2), 33, "", #[], none⟩,
    ⟨some 52, .call { callee := .value (.func 49), args := #[.tmp 51], argTypes := #[33] }, 30, "", #[], none⟩,
    ⟨some 53, .call { callee := .builtin .len, args := #[.tmp 52], argTypes := #[30] }, 3, "", #[], none⟩,
    ⟨some 54, .move (.tmp 7), 3, "", #[], none⟩,
    ⟨some 55, .binOp .sub 3 (.tmp 53) (.tmp 54) 3, 3, "", #[], none⟩,
    ⟨some 56, .binOp .add 3 (.tmp 50) (.tmp 55) 3, 3, "", #[], none⟩,
    ⟨some 5, .assign (.tmp 56), 3, "", #[], none⟩] false)
  (.region 13 #[⟨some 57, .fieldAddr 33 (.tmp 2) 2, 0, "", #[], none⟩,
    ⟨some 58, .load 31 (.tmp 57), 31, "", #[], none⟩,
    ⟨some 59, .move (.tmp 1), 43, "", #[], none⟩,
    ⟨some 60, .move (.tmp 6), 3, "", #[], none⟩,
    ⟨some 61, .indexAddr 43 (.tmp 59) (.tmp 60), 0, "", #[], none⟩,
    ⟨some 62, .load 3 (.tmp 61), 3, "", #[], none⟩,
    ⟨some 63, .indexAddr 31 (.tmp 58) (.tmp 62), 0, "", #[], none⟩,
    ⟨some 64, .load 33 (.tmp 63), 33, "", #[], none⟩,
    ⟨none, .store 33 (.tmp 2) (.tmp 64), 0, "", #[], none⟩] true))))))
  (.region 4 #[⟨some 13, .move (.tmp 6), 3, "", #[], none⟩,
    ⟨some 14, .binOp .add 3 (.tmp 13) (.const (.int .i64 1)) 3, 3, "", #[], none⟩,
    ⟨some 6, .assign (.tmp 14), 3, "", #[], none⟩] false))))))
  (.seq (.region 14 #[⟨some 65, .move (.tmp 5), 3, "", #[], none⟩,
    ⟨some 4, .assign (.tmp 65), 3, "", #[], none⟩] false)
  .ret))))
def fn27 : AFn := { ntmps := 66, results := [.tmp 4], body := c27, keep := fun | 0 => some [1, 2] | 1 => some [1, 2, 5] | 2 => some [1, 2, 5, 6] | 3 => some [1, 2, 5, 6, 12] | 4 => some [1, 2, 5, 6] | 5 => some [1, 2, 5, 6, 29] | 6 => some [4] | 7 => some [1, 2, 5, 6, 7] | 8 => some [1, 2, 5, 6, 7, 8] | 9 => some [1, 2, 5, 6, 7, 8, 38] | 10 => some [1, 2, 5, 6, 7, 8] | 11 => some [1, 2, 5, 6, 7, 8] | 12 => some [1, 2, 5, 6] | 13 => some [1, 2, 5, 6] | 14 => some [4] | _ => none, head := fun | 3 => some [1, 2, 5, 6] | 9 => some [1, 2, 5, 6, 7, 8] | _ => none, opn := fun _ => none, dyn := fun _ => [] }
/-- vidimus/vidimuslaw19.number -/
def c28 : Code :=
  (.seq (.region 0 #[⟨some 2, .assign (.const (.int .i64 0)), 3, "", #[], none⟩,
    ⟨some 3, .assign (.const (.int .i64 0)), 34, "", #[], none⟩] false)
  (.seq (.region 1 #[⟨some 7, .move (.tmp 0), 30, "", #[], none⟩,
    ⟨some 8, .call { callee := .value (.func 50), args := #[.tmp 7], argTypes := #[30] }, 62, "", #[], none⟩,
    ⟨some 6, .move (.tmp 8), 62, "", #[], none⟩,
    ⟨some 9, .extract (.tmp 6) 0, 3, "", #[], none⟩,
    ⟨some 10, .extract (.tmp 6) 1, 34, "", #[], none⟩,
    ⟨some 4, .assign (.tmp 9), 3, "", #[], none⟩,
    ⟨some 5, .assign (.tmp 10), 34, "", #[], none⟩] false)
  (.seq (.seq (.region 2 #[⟨some 11, .move (.tmp 5), 34, "", #[], none⟩,
    ⟨some 12, .binOp .neq 34 (.tmp 11) (.const (.int .i64 0)) 34, 4, "", #[], none⟩] false)
  (.cond (.tmp 12)
    (.seq (.region 3 #[⟨some 13, .move (.tmp 5), 34, "", #[], none⟩,
      ⟨some 2, .assign (.const (.int .i64 0)), 3, "", #[], none⟩,
      ⟨some 3, .assign (.tmp 13), 34, "", #[], none⟩] false)
    .ret)
    .skip))
  (.seq (.seq (.region 4 #[⟨some 14, .move (.tmp 4), 3, "", #[], none⟩,
    ⟨some 15, .binOp .lss 3 (.tmp 14) (.const (.int .i64 0)) 3, 4, "", #[], none⟩] false)
  (.cond (.tmp 15)
    (.seq (.region 5 #[⟨some 2, .assign (.const (.int .i64 0)), 3, "", #[], none⟩,
      ⟨some 3, .assign (.const (.int .i64 11)), 34, "", #[], none⟩] false)
    .ret)
    .skip))
  (.seq (.seq (.region 6 #[⟨some 16, .move (.tmp 4), 3, "", #[], none⟩,
    ⟨some 17, .binOp .gtr 3 (.tmp 16) (.const (.int .i64 2147483647)) 3, 4, "", #[], none⟩] false)
  (.cond (.tmp 17)
    (.seq (.region 7 #[⟨some 2, .assign (.const (.int .i64 0)), 3, "", #[], none⟩,
      ⟨some 3, .assign (.const (.int .i64 3)), 34, "", #[], none⟩] false)
    .ret)
    .skip))
  (.seq (.region 8 #[⟨some 18, .move (.tmp 4), 3, "", #[], none⟩,
    ⟨some 2, .assign (.tmp 18), 3, "", #[], none⟩,
    ⟨some 3, .assign (.const (.int .i64 0)), 34, "", #[], none⟩] false)
  .ret))))))
def fn28 : AFn := { ntmps := 19, results := [.tmp 2, .tmp 3], body := c28, keep := fun | 0 => some [0] | 1 => some [4, 5] | 2 => some [4, 5, 12] | 3 => some [2, 3] | 4 => some [4, 15] | 5 => some [2, 3] | 6 => some [4, 17] | 7 => some [2, 3] | 8 => some [2, 3] | _ => none, head := fun  | _ => none, opn := fun _ => none, dyn := fun _ => [] }
/-- vidimus/constraints.Less -/
def c29 : Code :=
  (.seq (.region 0 #[⟨some 4, .assign (.const (.int .i64 0)), 3, "", #[], none⟩] false)
  (.seq (.block 0 (.seq (.region 1 #[⟨some 6, .move (.tmp 0), 3, "", #[], none⟩,
    ⟨some 7, .binOp .lss 3 (.tmp 6) (.const (.int .i64 0)) 3, 4, "", #[], none⟩,
    ⟨some 8, .move (.tmp 7), 4, "", #[], none⟩,
    ⟨some 9, .move (.tmp 1), 3, "", #[], some (8, true)⟩,
    ⟨some 10, .binOp .lss 3 (.tmp 9) (.const (.int .i64 0)) 3, 4, "", #[], some (8, true)⟩,
    ⟨some 11, .pick (.tmp 8) (.tmp 10) (.const (.bool false)), 4, "", #[], none⟩,
    ⟨some 5, .assign (.tmp 11), 4, "", #[], none⟩] false)
  (.cond (.tmp 5)
    (.seq (.region 2 #[⟨some 4, .assign (.const (.int .i64 (-1))), 3, "", #[], none⟩] false)
    .ret)
    (.seq (.region 3 #[⟨some 13, .move (.tmp 0), 3, "", #[], none⟩,
      ⟨some 14, .binOp .lss 3 (.tmp 13) (.const (.int .i64 0)) 3, 4, "", #[], none⟩,
      ⟨some 12, .assign (.tmp 14), 4, "", #[], none⟩] false)
    (.cond (.tmp 12)
      (.seq (.region 4 #[⟨some 15, .move (.tmp 1), 3, "", #[], none⟩,
        ⟨some 4, .assign (.tmp 15), 3, "", #[], none⟩] false)
      .ret)
      (.seq (.region 5 #[⟨some 17, .move (.tmp 1), 3, "", #[], none⟩,
        ⟨some 18, .binOp .lss 3 (.tmp 17) (.const (.int .i64 0)) 3, 4, "", #[], none⟩,
        ⟨some 16, .assign (.tmp 18), 4, "", #[], none⟩] false)
      (.cond (.tmp 16)
        (.seq (.region 6 #[⟨some 19, .move (.tmp 0), 3, "", #[], none⟩,
          ⟨some 4, .assign (.tmp 19), 3, "", #[], none⟩] false)
        .ret)
        .skip)))))))
  (.seq (.region 7 #[⟨some 20, .move (.tmp 0), 3, "", #[], none⟩,
    ⟨some 21, .move (.tmp 1), 3, "", #[], none⟩,
    ⟨some 22, .call { callee := .builtin .min, args := #[.tmp 20, .tmp 21], argTypes := #[3, 3] }, 3, "", #[], none⟩,
    ⟨some 4, .assign (.tmp 22), 3, "", #[], none⟩] false)
  .ret)))
def fn29 : AFn := { ntmps := 23, results := [.tmp 4], body := c29, keep := fun | 0 => some [0, 1] | 1 => some [0, 1, 5] | 2 => some [4] | 3 => some [0, 1, 12] | 4 => some [4] | 5 => some [0, 1, 16] | 6 => some [4] | 7 => some [4] | _ => none, head := fun  | _ => none, opn := fun _ => none, dyn := fun _ => [] }
/-- vidimus/vidimusref19.Less -/
def c30 : Code :=
  (.seq (.region 0 #[⟨some 4, .assign (.const (.int .i64 0)), 3, "", #[], none⟩] false)
  (.seq (.seq (.region 1 #[⟨some 5, .move (.tmp 0), 3, "", #[], none⟩,
    ⟨some 6, .binOp .lss 3 (.tmp 5) (.const (.int .i64 0)) 3, 4, "", #[], none⟩,
    ⟨some 7, .move (.tmp 6), 4, "", #[], none⟩,
    ⟨some 8, .move (.tmp 1), 3, "", #[], some (7, true)⟩,
    ⟨some 9, .binOp .lss 3 (.tmp 8) (.const (.int .i64 0)) 3, 4, "", #[], some (7, true)⟩,
    ⟨some 10, .pick (.tmp 7) (.tmp 9) (.const (.bool false)), 4, "", #[], none⟩] false)
  (.cond (.tmp 10)
    (.seq (.region 2 #[⟨some 4, .assign (.const (.int .i64 (-1))), 3, "", #[], none⟩] false)
    .ret)
    .skip))
  (.seq (.seq (.region 3 #[⟨some 11, .move (.tmp 0), 3, "", #[], none⟩,
    ⟨some 12, .binOp .lss 3 (.tmp 11) (.const (.int .i64 0)) 3, 4, "", #[], none⟩,
    ⟨some 13, .move (.tmp 12), 4, "", #[], none⟩,
    ⟨some 14, .move (.tmp 1), 3, "", #[], some (13, false)⟩,
    ⟨some 15, .binOp .geq 3 (.tmp 14) (.const (.int .i64 0)) 3, 4, "", #[], some (13, false)⟩,
    ⟨some 16, .move (.tmp 15), 4, "", #[], some (13, false)⟩,
    ⟨some 17, .move (.tmp 1), 3, "", #[], some (16, true)⟩,
    ⟨some 18, .move (.tmp 0), 3, "", #[], some (16, true)⟩,
    ⟨some 19, .binOp .lss 3 (.tmp 17) (.tmp 18) 3, 4, "", #[], some (16, true)⟩,
    ⟨some 20, .pick (.tmp 16) (.tmp 19) (.const (.bool false)), 4, "", #[], some (13, false)⟩,
    ⟨some 21, .pick (.tmp 13) (.const (.bool true)) (.tmp 20), 4, "", #[], none⟩] false)
  (.cond (.tmp 21)
    (.seq (.region 4 #[⟨some 22, .move (.tmp 1), 3, "", #[], none⟩,
      ⟨some 4, .assign (.tmp 22), 3, "", #[], none⟩] false)
    .ret)
    .skip))
  (.seq (.region 5 #[⟨some 23, .move (.tmp 0), 3, "", #[], none⟩,
    ⟨some 4, .assign (.tmp 23), 3, "", #[], none⟩] false)
  .ret))))
def fn30 : AFn := { ntmps := 24, results := [.tmp 4], body := c30, keep := fun | 0 => some [0, 1] | 1 => some [0, 1, 10] | 2 => some [4] | 3 => some [0, 1, 21] | 4 => some [4] | 5 => some [4] | _ => none, head := fun  | _ => none, opn := fun _ => none, dyn := fun _ => [] }
/-- vidimus/constraints.Both -/
def c31 : Code :=
  (.seq (.region 0 #[⟨some 2, .box 25 (.tmp 0), 0, "", #[], none⟩,
    ⟨some 3, .box 25 (.tmp 1), 0, "", #[], none⟩,
    ⟨some 4, .alloc 25, 0, "", #[], none⟩] false)
  (.seq (.region 1 #[⟨some 5, .fieldAddr 25 (.tmp 2) 0, 0, "", #[], none⟩,
    ⟨some 6, .load 3 (.tmp 5), 3, "", #[], none⟩,
    ⟨some 7, .fieldAddr 25 (.tmp 3) 0, 0, "", #[], none⟩,
    ⟨some 8, .load 3 (.tmp 7), 3, "", #[], none⟩,
    ⟨some 9, .call { callee := .value (.func 29), args := #[.tmp 6, .tmp 8], argTypes := #[3, 3] }, 3, "", #[], none⟩,
    ⟨some 10, .fieldAddr 25 (.tmp 2) 1, 0, "", #[], none⟩,
    ⟨some 11, .load 3 (.tmp 10), 3, "", #[], none⟩,
    ⟨some 12, .fieldAddr 25 (.tmp 3) 1, 0, "", #[], none⟩,
    ⟨some 13, .load 3 (.tmp 12), 3, "", #[], none⟩,
    ⟨some 14, .call { callee := .value (.func 29), args := #[.tmp 11, .tmp 13], argTypes := #[3, 3] }, 3, "", #[], none⟩,
    ⟨some 15, .build 25 #[(0, .tmp 9), (1, .tmp 14)], 25, "", #[], none⟩,
    ⟨none, .store 25 (.tmp 4) (.tmp 15), 0, "", #[], none⟩] true)
  .ret))
def fn31 : AFn := { ntmps := 16, results := [.cell 4 25], body := c31, keep := fun | 0 => some [2, 3, 4] | 1 => some [4] | _ => none, head := fun  | _ => none, opn := fun _ => none, dyn := fun _ => [] }
/-- vidimus/constraints.part -/
def c32 : Code :=
  (.seq (.region 0 #[⟨some 2, .alloc 29, 0, "", #[], none⟩] false)
  (.seq (.region 1 #[⟨some 3, .move (.tmp 0), 3, "", #[], none⟩,
    ⟨some 4, .convert 3 22 (.tmp 3), 22, "", #[], none⟩,
    ⟨some 5, .build 29 #[(0, .const (.int .u8 2)), (2, .tmp 4)], 29, "", #[], none⟩,
    ⟨none, .store 29 (.tmp 2) (.tmp 5), 0, "", #[], none⟩] false)
  .ret))
def fn32 : AFn := { ntmps := 6, results := [.cell 2 29], body := c32, keep := fun | 0 => some [0, 2] | 1 => some [2] | _ => none, head := fun  | _ => none, opn := fun _ => none, dyn := fun _ => [] }
/-- vidimus/scalars.PutInt -/
def c33 : Code :=
  (.seq (.region 0 #[⟨some 2, .assign (.const (.slice none 0 0)), 30, "", #[], none⟩] false)
  (.seq (.region 1 #[⟨some 3, .alloc 91, 0, "", #[], none⟩] false)
  (.seq (.seq (.region 2 #[⟨some 6, .move (.const (.int .i64 0)), 3, "", #[], none⟩] false)
  (.block 0 (.loop (.seq (.region 3 #[⟨some 7, .binOp .lss 3 (.tmp 6) (.const (.int .i64 8)) 3, 0, "", #[], none⟩] false)
  (.seq (.cond (.tmp 7)
    .skip
    (.exit 0))
  (.seq (.block 1 (.seq (.region 4 #[⟨some 8, .move (.tmp 6), 3, "", #[], none⟩,
    ⟨some 4, .assign (.tmp 8), 3, "", #[], none⟩] false)
  (.region 5 #[⟨some 9, .move (.tmp 4), 3, "", #[], none⟩,
    ⟨some 10, .binOp .sub 3 (.const (.int .i64 7)) (.tmp 9) 3, 3, "", #[], none⟩,
    ⟨some 11, .move (.tmp 0), 3, "", #[], none⟩,
    ⟨some 12, .move (.tmp 4), 3, "", #[], none⟩,
    ⟨some 13, .binOp .mul 3 (.const (.int .i64 8)) (.tmp 12) 3, 3, "", #[], none⟩,
    ⟨some 14, .binOp .shr 3 (.tmp 11) (.tmp 13) 3, 3, "", #[], none⟩,
    ⟨some 15, .convert 3 5 (.tmp 14), 5, "", #[], none⟩,
    ⟨some 16, .indexAddr 91 (.tmp 3) (.tmp 10), 0, "", #[], none⟩,
    ⟨none, .store 5 (.tmp 16) (.tmp 15), 0, "", #[], none⟩] false)))
  (.region 6 #[⟨some 17, .binOp .add 3 (.tmp 6) (.const (.int .i64 1)) 3, 3, "", #[], none⟩,
    ⟨some 6, .move (.tmp 17), 3, "", #[], none⟩] false)))))))
  (.seq (.region 7 #[⟨some 18, .slice 91 (.tmp 3) none none none, 30, "", #[], none⟩,
    ⟨some 5, .assign (.tmp 18), 30, "", #[], none⟩] false)
  (.seq (.block 2 (.loop (.seq (.seq (.region 8 #[⟨some 19, .move (.tmp 5), 30, "", #[], none⟩,
    ⟨some 20, .call { callee := .value (.func 51), args := #[.tmp 19], argTypes := #[30] }, 4, "", #[], none⟩] false)
  (.cond (.tmp 20)
    .skip
    (.exit 2)))
  (.block 3 (.region 9 #[⟨some 21, .move (.tmp 5), 30, "", #[], none⟩,
    ⟨some 22, .slice 30 (.tmp 21) (some (.const (.int .i64 1))) none none, 30, "", #[], none⟩,
    ⟨some 5, .assign (.tmp 22), 30, "", #[], none⟩] false)))))
  (.seq (.region 10 #[⟨some 23, .move (.tmp 5), 30, "", #[], none⟩,
    ⟨some 24, .call { callee := .value (.func 52), args := #[.tmp 23], argTypes := #[30] }, 30, "", #[], none⟩,
    ⟨some 2, .assign (.tmp 24), 30, "", #[], none⟩] false)
  .ret))))))
def fn33 : AFn := { ntmps := 25, results := [.tmp 2], body := c33, keep := fun | 0 => some [0] | 1 => some [0, 3] | 2 => some [0, 3, 6] | 3 => some [0, 3, 6, 7] | 4 => some [0, 3, 4, 6] | 5 => some [0, 3, 6] | 6 => some [0, 3, 6] | 7 => some [5] | 8 => some [5, 20] | 9 => some [5] | 10 => some [2] | _ => none, head := fun | 3 => some [0, 3, 6] | 8 => some [5] | _ => none, opn := fun _ => none, dyn := fun _ => [] }
/-- slices.Clip[[]vidimus/api.Element,vidimus/api.Element] -/
def c34 : Code :=
  (.seq (.region 0 #[⟨some 2, .assign (.const (.slice none 0 0)), 31, "", #[], none⟩] false)
  (.seq (.region 1 #[⟨some 3, .move (.tmp 0), 31, "", #[], none⟩,
    ⟨some 4, .move (.tmp 0), 31, "", #[], none⟩,
    ⟨some 5, .call { callee := .builtin .len, args := #[.tmp 4], argTypes := #[31] }, 3, "", #[], none⟩,
    ⟨some 6, .move (.tmp 0), 31, "", #[], none⟩,
    ⟨some 7, .call { callee := .builtin .len, args := #[.tmp 6], argTypes := #[31] }, 3, "", #[], none⟩,
    ⟨some 8, .slice 31 (.tmp 3) none (some (.tmp 5)) (some (.tmp 7)), 31, "", #[], none⟩,
    ⟨some 2, .assign (.tmp 8), 31, "", #[], none⟩] false)
  .ret))
def fn34 : AFn := { ntmps := 9, results := [.tmp 2], body := c34, keep := fun | 0 => some [0] | 1 => some [2] | _ => none, head := fun  | _ => none, opn := fun _ => none, dyn := fun _ => [] }
/-- vidimus/elements.Put -/
def c35 : Code :=
  (.seq (.region 0 #[⟨some 1, .box 33 (.tmp 0), 0, "", #[], none⟩,
    ⟨some 2, .assign (.const (.slice none 0 0)), 30, "", #[], none⟩,
    ⟨some 3, .assign (.const (.int .i64 0)), 34, "", #[], none⟩] false)
  (.seq (.seq (.region 1 #[⟨some 6, .load 33 (.tmp 1), 33, "", #[], none⟩,
    ⟨some 7, .call { callee := .value (.func 39), args := #[.tmp 6], argTypes := #[33] }, 34, "", #[], none⟩,
    ⟨some 4, .assign (.tmp 7), 34, "", #[], none⟩] false)
  (.seq (.region 2 #[⟨some 8, .move (.tmp 4), 34, "", #[], none⟩,
    ⟨some 9, .binOp .neq 34 (.tmp 8) (.const (.int .i64 0)) 34, 4, "", #[], none⟩] false)
  (.cond (.tmp 9)
    (.seq (.region 3 #[⟨some 10, .move (.tmp 4), 34, "", #[], none⟩,
      ⟨some 2, .assign (.const (.slice none 0 0)), 30, "", #[], none⟩,
      ⟨some 3, .assign (.tmp 10), 34, "", #[], none⟩] false)
    .ret)
    .skip)))
  (.seq (.region 4 #[⟨some 11, .load 33 (.tmp 1), 33, "", #[], none⟩,
    ⟨some 12, .call { callee := .value (.func 53), args := #[.tmp 11], argTypes := #[33] }, 3, "", #[], none⟩,
    ⟨some 5, .assign (.tmp 12), 3, "", #[], none⟩] false)
  (.seq (.seq (.region 5 #[⟨some 13, .move (.tmp 5), 3, "", #[], none⟩,
    ⟨some 14, .binOp .gtr 3 (.tmp 13) (.const (.int .i64 1048576)) 3, 4, "", #[], none⟩] false)
  (.cond (.tmp 14)
    (.seq (.region 6 #[⟨some 2, .assign (.const (.slice none 0 0)), 30, "", #[], none⟩,
      ⟨some 3, .assign (.const (.int .i64 3)), 34, "", #[], none⟩] false)
    .ret)
    .skip))
  (.seq (.region 7 #[⟨some 15, .move (.tmp 5), 3, "", #[], none⟩,
    ⟨some 16, .makeSlice 30 (.const (.int .i64 0)) (.tmp 15), 30, "", #[], none⟩,
    ⟨some 17, .load 33 (.tmp 1), 33, "", #[], none⟩,
    ⟨some 18, .call { callee := .value (.func 54), args := #[.tmp 16, .tmp 17], argTypes := #[30, 33] }, 30, "", #[], none⟩,
    ⟨some 2, .assign (.tmp 18), 30, "", #[], none⟩,
    ⟨some 3, .assign (.const (.int .i64 0)), 34, "", #[], none⟩] true)
  .ret)))))
def fn35 : AFn := { ntmps := 19, results := [.tmp 2, .tmp 3], body := c35, keep := fun | 0 => some [1] | 1 => some [1, 4] | 2 => some [1, 4, 9] | 3 => some [2, 3] | 4 => some [1, 5] | 5 => some [1, 5, 14] | 6 => some [2, 3] | 7 => some [2, 3] | _ => none, head := fun  | _ => none, opn := opnT, dyn := fun | 7 => [(3, 3)] | _ => [] }
/-- vidimus/constraints.skip -/
def c36 : Code :=
  (.seq (.region 0 #[⟨some 2, .assign (.const (.bool false)), 4, "", #[], none⟩] false)
  (.seq (.region 1 #[⟨some 3, .move (.tmp 0), 3, "", #[], none⟩,
    ⟨some 4, .binOp .geq 3 (.tmp 3) (.const (.int .i64 0)) 3, 4, "", #[], none⟩,
    ⟨some 5, .move (.tmp 4), 4, "", #[], none⟩,
    ⟨some 6, .move (.tmp 0), 3, "", #[], some (5, true)⟩,
    ⟨some 7, .binOp .leq 3 (.tmp 6) (.const (.int .i64 2147483647)) 3, 4, "", #[], some (5, true)⟩,
    ⟨some 8, .pick (.tmp 5) (.tmp 7) (.const (.bool false)), 4, "", #[], none⟩,
    ⟨some 2, .assign (.tmp 8), 4, "", #[], none⟩] false)
  .ret))
def fn36 : AFn := { ntmps := 9, results := [.tmp 2], body := c36, keep := fun | 0 => some [0] | 1 => some [2] | _ => none, head := fun  | _ => none, opn := fun _ => none, dyn := fun _ => [] }
/-- vidimus/vidimusref02.Put -/
def c37 : Code :=
  (.seq (.region 0 #[⟨some 1, .box 29 (.tmp 0), 0, "", #[], none⟩,
    ⟨some 2, .assign (.const (.slice none 0 0)), 30, "", #[], none⟩] false)
  (.seq (.region 1 #[⟨some 4, .fieldAddr 29 (.tmp 1) 0, 0, "", #[], none⟩,
    ⟨some 5, .load 27 (.tmp 4), 27, "", #[], none⟩,
    ⟨some 6, .convert 27 3 (.tmp 5), 3, "", #[], none⟩,
    ⟨some 7, .binOp .mul 3 (.const (.int .i64 64)) (.tmp 6) 3, 3, "", #[], none⟩,
    ⟨some 3, .assign (.tmp 7), 3, "", #[], none⟩] false)
  (.seq (.seq (.region 2 #[⟨some 8, .fieldAddr 29 (.tmp 1) 1, 0, "", #[], none⟩,
    ⟨some 9, .load 4 (.tmp 8), 4, "", #[], none⟩] false)
  (.cond (.tmp 9)
    (.region 3 #[⟨some 10, .move (.tmp 3), 3, "", #[], none⟩,
      ⟨some 11, .binOp .add 3 (.tmp 10) (.const (.int .i64 32)) 3, 3, "", #[], none⟩,
      ⟨some 3, .assign (.tmp 11), 3, "", #[], none⟩] false)
    .skip))
  (.seq (.seq (.region 4 #[⟨some 12, .fieldAddr 29 (.tmp 1) 2, 0, "", #[], none⟩,
    ⟨some 13, .load 22 (.tmp 12), 22, "", #[], none⟩,
    ⟨some 14, .binOp .lss 22 (.tmp 13) (.const (.int .u32 31)) 22, 4, "", #[], none⟩] false)
  (.cond (.tmp 14)
    (.seq (.region 5 #[⟨some 15, .move (.tmp 3), 3, "", #[], none⟩,
      ⟨some 16, .fieldAddr 29 (.tmp 1) 2, 0, "", #[], none⟩,
      ⟨some 17, .load 22 (.tmp 16), 22, "", #[], none⟩,
      ⟨some 18, .convert 22 3 (.tmp 17), 3, "", #[], none⟩,
      ⟨some 19, .binOp .add 3 (.tmp 15) (.tmp 18) 3, 3, "", #[], none⟩,
      ⟨some 20, .convert 3 5 (.tmp 19), 5, "", #[], none⟩,
      ⟨some 21, .buildSlice 30 1 #[(0, .tmp 20)], 30, "", #[], none⟩,
      ⟨some 2, .assign (.tmp 21), 30, "", #[], none⟩] false)
    .ret)
    .skip))
  (.seq (.region 6 #[⟨some 22, .move (.tmp 3), 3, "", #[], none⟩,
    ⟨some 23, .binOp .add 3 (.tmp 22) (.const (.int .i64 31)) 3, 3, "", #[], none⟩,
    ⟨some 24, .convert 3 5 (.tmp 23), 5, "", #[], none⟩,
    ⟨some 25, .buildSlice 30 1 #[(0, .tmp 24)], 30, "", #[], none⟩,
    ⟨some 26, .fieldAddr 29 (.tmp 1) 2, 0, "", #[], none⟩,
    ⟨some 27, .load 22 (.tmp 26), 22, "", #[], none⟩,
    ⟨some 28, .convert 22 3 (.tmp 27), 3, "", #[], none⟩,
    ⟨some 29, .call { callee := .value (.func 55), args := #[.tmp 28], argTypes := #[3] }, 30, "", #[], none⟩,
    ⟨some 30, .call { callee := .builtin .append, args := #[.tmp 25, .tmp 29], argTypes := #[30, 30] }, 30, "", #[], none⟩,
    ⟨some 2, .assign (.tmp 30), 30, "", #[], none⟩] false)
  .ret)))))
def fn37 : AFn := { ntmps := 31, results := [.tmp 2], body := c37, keep := fun | 0 => some [1] | 1 => some [1, 3] | 2 => some [1, 3, 9] | 3 => some [1, 3] | 4 => some [1, 3, 14] | 5 => some [2] | 6 => some [2] | _ => none, head := fun  | _ => none, opn := fun _ => none, dyn := fun _ => [] }
/-- vidimus/vidimusref03.Put -/
def c38 : Code :=
  (.seq (.region 0 #[⟨some 2, .assign (.const (.slice none 0 0)), 30, "", #[], none⟩] false)
  (.seq (.seq (.region 1 #[⟨some 4, .move (.tmp 0), 3, "", #[], none⟩,
    ⟨some 5, .binOp .lss 3 (.tmp 4) (.const (.int .i64 128)) 3, 4, "", #[], none⟩] false)
  (.cond (.tmp 5)
    (.seq (.region 2 #[⟨some 6, .move (.tmp 0), 3, "", #[], none⟩,
      ⟨some 7, .convert 3 5 (.tmp 6), 5, "", #[], none⟩,
      ⟨some 8, .buildSlice 30 1 #[(0, .tmp 7)], 30, "", #[], none⟩,
      ⟨some 2, .assign (.tmp 8), 30, "", #[], none⟩] false)
    .ret)
    .skip))
  (.seq (.region 3 #[⟨some 3, .assign (.const (.slice none 0 0)), 30, "", #[], none⟩] false)
  (.seq (.block 0 (.loop (.seq (.seq (.region 4 #[⟨some 9, .move (.tmp 0), 3, "", #[], none⟩,
    ⟨some 10, .binOp .gtr 3 (.tmp 9) (.const (.int .i64 0)) 3, 4, "", #[], none⟩] false)
  (.cond (.tmp 10)
    .skip
    (.exit 0)))
  (.block 1 (.seq (.region 5 #[⟨some 11, .move (.tmp 0), 3, "", #[], none⟩,
    ⟨some 12, .binOp .rem 3 (.tmp 11) (.const (.int .i64 256)) 3, 3, "", #[], none⟩,
    ⟨some 13, .convert 3 5 (.tmp 12), 5, "", #[], none⟩,
    ⟨some 14, .buildSlice 30 1 #[(0, .tmp 13)], 30, "", #[], none⟩,
    ⟨some 15, .move (.tmp 3), 30, "", #[], none⟩,
    ⟨some 16, .call { callee := .builtin .append, args := #[.tmp 14, .tmp 15], argTypes := #[30, 30] }, 30, "", #[], none⟩,
    ⟨some 3, .assign (.tmp 16), 30, "", #[], none⟩] false)
  (.region 6 #[⟨some 17, .move (.tmp 0), 3, "", #[], none⟩,
    ⟨some 18, .binOp .quo 3 (.tmp 17) (.const (.int .i64 256)) 3, 3, "", #[], none⟩,
    ⟨some 0, .assign (.tmp 18), 3, "", #[], none⟩] false))))))
  (.seq (.region 7 #[⟨some 19, .move (.tmp 3), 30, "", #[], none⟩,
    ⟨some 20, .call { callee := .builtin .len, args := #[.tmp 19], argTypes := #[30] }, 3, "", #[], none⟩,
    ⟨some 21, .binOp .add 3 (.const (.int .i64 128)) (.tmp 20) 3, 3, "", #[], none⟩,
    ⟨some 22, .convert 3 5 (.tmp 21), 5, "", #[], none⟩,
    ⟨some 23, .buildSlice 30 1 #[(0, .tmp 22)], 30, "", #[], none⟩,
    ⟨some 24, .move (.tmp 3), 30, "", #[], none⟩,
    ⟨some 25, .call { callee := .builtin .append, args := #[.tmp 23, .tmp 24], argTypes := #[30, 30] }, 30, "", #[], none⟩,
    ⟨some 2, .assign (.tmp 25), 30, "", #[], none⟩] false)
  .ret)))))
def fn38 : AFn := { ntmps := 26, results := [.tmp 2], body := c38, keep := fun | 0 => some [0] | 1 => some [0, 5] | 2 => some [2] | 3 => some [0, 3] | 4 => some [0, 3, 10] | 5 => some [0, 3] | 6 => some [0, 3] | 7 => some [2] | _ => none, head := fun | 4 => some [0, 3] | _ => none, opn := fun _ => none, dyn := fun _ => [] }
/-- vidimus/elements.Check -/
def c39 : Code :=
  (.seq (.region 0 #[⟨some 1, .box 33 (.tmp 0), 0, "", #[], none⟩,
    ⟨some 2, .assign (.const (.int .i64 0)), 34, "", #[], none⟩] false)
  (.seq (.region 1 #[⟨some 7, .load 33 (.tmp 1), 33, "", #[], none⟩,
    ⟨some 8, .call { callee := .value (.func 56), args := #[.tmp 7], argTypes := #[33] }, 95, "", #[], none⟩,
    ⟨some 6, .move (.tmp 8), 95, "", #[], none⟩,
    ⟨some 9, .extract (.tmp 6) 0, 34, "", #[], none⟩,
    ⟨some 10, .extract (.tmp 6) 1, 3, "", #[], none⟩,
    ⟨some 11, .extract (.tmp 6) 2, 3, "", #[], none⟩,
    ⟨some 3, .assign (.tmp 9), 34, "", #[], none⟩,
    ⟨some 4, .assign (.tmp 10), 3, "", #[], none⟩,
    ⟨some 5, .assign (.tmp 11), 3, "", #[], none⟩] false)
  (.seq (.region 2 #[⟨some 12, .move (.tmp 3), 34, "", #[], none⟩,
    ⟨some 2, .assign (.tmp 12), 34, "", #[], none⟩] false)
  .ret)))
def fn39 : AFn := { ntmps := 13, results := [.tmp 2], body := c39, keep := fun | 0 => some [1] | 1 => some [3] | 2 => some [2] | _ => none, head := fun  | _ => none, opn := fun _ => none, dyn := fun _ => [] }
/-- vidimus/fields.Sequence -/
def c40 : Code :=
  (.seq (.region 0 #[⟨some 3, .box 33 (.tmp 0), 0, "", #[], none⟩,
    ⟨some 4, .box 29 (.tmp 1), 0, "", #[], none⟩,
    ⟨some 6, .assign (.const (.slice none 0 0)), 43, "", #[], none⟩,
    ⟨some 7, .alloc 45, 0, "", #[], none⟩] false)
  (.seq (.block 0 (.seq (.region 1 #[⟨some 14, .move (.tmp 2), 81, "", #[], none⟩,
    ⟨some 15, .call { callee := .builtin .len, args := #[.tmp 14], argTypes := #[81] }, 3, "", #[], none⟩,
    ⟨some 16, .binOp .gtr 3 (.tmp 15) (.const (.int .i64 256)) 3, 4, "", #[], none⟩,
    ⟨some 13, .assign (.tmp 16), 4, "", #[], none⟩] false)
  (.cond (.tmp 13)
    (.seq (.region 2 #[⟨some 17, .call { callee := .value (.func 57), args := #[.const (.int .i64 3), .const (.slice none 0 0)], argTypes := #[34, 43] }, 45, "", #[], none⟩,
      ⟨some 6, .assign (.const (.slice none 0 0)), 43, "", #[], none⟩,
      ⟨none, .store 45 (.tmp 7) (.tmp 17), 0, "", #[], none⟩] false)
    .ret)
    (.seq (.region 3 #[⟨some 19, .fieldAddr 33 (.tmp 3) 0, 0, "", #[], none⟩,
      ⟨some 20, .load 29 (.tmp 19), 29, "", #[], none⟩,
      ⟨some 21, .load 29 (.tmp 4), 29, "", #[], none⟩,
      ⟨some 22, .binOp .neq 29 (.tmp 20) (.tmp 21) 29, 4, "", #[], none⟩,
      ⟨some 18, .assign (.tmp 22), 4, "", #[], none⟩] false)
    (.cond (.tmp 18)
      (.seq (.region 4 #[⟨some 23, .call { callee := .value (.func 57), args := #[.const (.int .i64 9), .const (.slice none 0 0)], argTypes := #[34, 43] }, 45, "", #[], none⟩,
        ⟨some 6, .assign (.const (.slice none 0 0)), 43, "", #[], none⟩,
        ⟨none, .store 45 (.tmp 7) (.tmp 23), 0, "", #[], none⟩] false)
      .ret)
      .skip)))))
  (.seq (.region 5 #[⟨some 8, .assign (.const (.int .i64 0)), 3, "", #[], none⟩] false)
  (.seq (.region 6 #[⟨some 24, .move (.tmp 2), 81, "", #[], none⟩,
    ⟨some 25, .call { callee := .builtin .len, args := #[.tmp 24], argTypes := #[81] }, 3, "", #[], none⟩,
    ⟨some 26, .makeSlice 43 (.const (.int .i64 0)) (.tmp 25), 43, "", #[], none⟩,
    ⟨some 9, .assign (.tmp 26), 43, "", #[], none⟩] false)
  (.seq (.seq (.region 7 #[⟨some 27, .move (.tmp 2), 81, "", #[], none⟩,
    ⟨some 28, .call { callee := .builtin .len, args := #[.tmp 27], argTypes := #[81] }, 3, "", #[], none⟩,
    ⟨some 29, .move (.const (.int .i64 0)), 3, "", #[], none⟩] false)
  (.block 1 (.loop (.seq (.region 8 #[⟨some 30, .binOp .lss 3 (.tmp 29) (.tmp 28) 3, 0, "", #[], none⟩] false)
  (.seq (.cond (.tmp 30)
    .skip
    (.exit 1))
  (.seq (.block 2 (.seq (.region 9 #[⟨some 31, .indexAddr 81 (.tmp 27) (.tmp 29), 0, "", #[], none⟩,
    ⟨some 32, .load 80 (.tmp 31), 80, "", #[], none⟩,
    ⟨some 11, .alloc 80, 0, "", #[], none⟩,
    ⟨none, .store 80 (.tmp 11) (.tmp 32), 0, "", #[], none⟩] false)
  (.seq (.region 10 #[⟨some 33, .load 80 (.tmp 11), 80, "", #[], none⟩,
    ⟨some 34, .makeFunc (.func 58) #[.tmp 33] #[], 58, "", #[], none⟩,
    ⟨some 12, .assign (.tmp 34), 58, "", #[], none⟩] false)
  (.block 3 (.seq (.region 12 #[⟨some 39, .move (.tmp 8), 3, "", #[], none⟩,
    ⟨some 40, .fieldAddr 33 (.tmp 3) 2, 0, "", #[], none⟩,
    ⟨some 41, .load 31 (.tmp 40), 31, "", #[], none⟩,
    ⟨some 42, .call { callee := .builtin .len, args := #[.tmp 41], argTypes := #[31] }, 3, "", #[], none⟩,
    ⟨some 43, .binOp .lss 3 (.tmp 39) (.tmp 42) 3, 4, "", #[], none⟩,
    ⟨some 44, .move (.tmp 43), 4, "", #[], none⟩,
    ⟨some 45, .move (.tmp 12), 58, "", #[], some (44, true)⟩,
    ⟨some 46, .fieldAddr 33 (.tmp 3) 2, 0, "", #[], some (44, true)⟩,
    ⟨some 47, .load 31 (.tmp 46), 31, "", #[], some (44, true)⟩,
    ⟨some 48, .move (.tmp 8), 3, "", #[], some (44, true)⟩,
    ⟨some 49, .indexAddr 31 (.tmp 47) (.tmp 48), 0, "", #[], some (44, true)⟩,
    ⟨some 50, .load 33 (.tmp 49), 33, "", #[], some (44, true)⟩,
    ⟨some 51, .call { callee := .value (.tmp 45), args := #[.tmp 50], argTypes := #[33] }, 4, "", #[], some (44, true)⟩,
    ⟨some 52, .pick (.tmp 44) (.tmp 51) (.const (.bool false)), 4, "", #[], none⟩,
    ⟨some 38, .assign (.tmp 52), 4, "", #[], none⟩] false)
  (.cond (.tmp 38)
    (.seq (.region 13 #[⟨some 53, .move (.tmp 9), 43, "", #[], none⟩,
      ⟨some 54, .move (.tmp 8), 3, "", #[], none⟩,
      ⟨some 55, .buildSlice 43 1 #[(0, .tmp 54)], 43, "", #[], none⟩,
      ⟨some 56, .call { callee := .builtin .append, args := #[.tmp 53, .tmp 55], argTypes := #[43, 43] }, 43, "", #[], none⟩,
      ⟨some 9, .assign (.tmp 56), 43, "", #[], none⟩] false)
    (.region 14 #[⟨some 57, .move (.tmp 8), 3, "", #[], none⟩,
      ⟨some 58, .binOp .add 3 (.tmp 57) (.const (.int .i64 1)) 3, 3, "", #[], none⟩,
      ⟨some 8, .assign (.tmp 58), 3, "", #[], none⟩] false))
    (.seq (.region 15 #[⟨some 60, .fieldAddr 80 (.tmp 11) 2, 0, "", #[], none⟩,
      ⟨some 61, .load 4 (.tmp 60), 4, "", #[], none⟩,
      ⟨some 59, .assign (.tmp 61), 4, "", #[], none⟩] false)
    (.cond (.tmp 59)
      (.region 16 #[⟨some 62, .move (.tmp 9), 43, "", #[], none⟩,
        ⟨some 63, .buildSlice 43 1 #[(0, .const (.int .i64 (-1)))], 43, "", #[], none⟩,
        ⟨some 64, .call { callee := .builtin .append, args := #[.tmp 62, .tmp 63], argTypes := #[43, 43] }, 43, "", #[], none⟩,
        ⟨some 9, .assign (.tmp 64), 43, "", #[], none⟩] false)
      (.seq (.region 17 #[⟨some 66, .move (.tmp 8), 3, "", #[], none⟩,
        ⟨some 67, .fieldAddr 33 (.tmp 3) 2, 0, "", #[], none⟩,
        ⟨some 68, .load 31 (.tmp 67), 31, "", #[], none⟩,
        ⟨some 69, .call { callee := .builtin .len, args := #[.tmp 68], argTypes := #[31] }, 3, "", #[], none⟩,
        ⟨some 70, .binOp .eql 3 (.tmp 66) (.tmp 69) 3, 4, "", #[], none⟩,
        ⟨some 65, .assign (.tmp 70), 4, "", #[], none⟩] false)
      (.cond (.tmp 65)
        (.seq (.region 18 #[⟨some 71, .call { callee := .value (.func 57), args := #[.const (.int .i64 7), .const (.slice none 0 0)], argTypes := #[34, 43] }, 45, "", #[], none⟩,
          ⟨some 6, .assign (.const (.slice none 0 0)), 43, "", #[], none⟩,
          ⟨none, .store 45 (.tmp 7) (.tmp 71), 0, "", #[], none⟩] false)
        .ret)
        (.seq (.region 11 #[⟨some 35, .move (.tmp 8), 3, "", #[], none⟩,
          ⟨some 36, .buildSlice 43 1 #[(0, .tmp 35)], 43, "", fz, none⟩,
          ⟨some 37, .call { callee := .value (.func 57), args := #[.const (.int .i64 9), .tmp 36], argTypes := #[34, 43] }, 45, "", #[], none⟩,
          ⟨some 6, .assign (.const (.slice none 0 0)), 43, "", #[], none⟩,
          ⟨none, .store 45 (.tmp 7) (.tmp 37), 0, "", #[], none⟩] false)
        .ret)))))))))))
  (.region 19 #[⟨some 72, .binOp .add 3 (.tmp 29) (.const (.int .i64 1)) 3, 3, "", #[], none⟩,
    ⟨some 29, .move (.tmp 72), 3, "", #[], none⟩] false)))))))
  (.seq (.seq (.region 20 #[⟨some 73, .move (.tmp 8), 3, "", #[], none⟩,
    ⟨some 74, .fieldAddr 33 (.tmp 3) 2, 0, "", #[], none⟩,
    ⟨some 75, .load 31 (.tmp 74), 31, "", #[], none⟩,
    ⟨some 76, .call { callee := .builtin .len, args := #[.tmp 75], argTypes := #[31] }, 3, "", #[], none⟩,
    ⟨some 77, .binOp .lss 3 (.tmp 73) (.tmp 76) 3, 4, "", #[], none⟩] false)
  (.cond (.tmp 77)
    (.seq (.region 21 #[⟨some 78, .move (.tmp 8), 3, "", #[], none⟩,
      ⟨some 79, .buildSlice 43 1 #[(0, .tmp 78)], 43, "", fz, none⟩,
      ⟨some 80, .call { callee := .value (.func 57), args := #[.const (.int .i64 8), .tmp 79], argTypes := #[34, 43] }, 45, "", #[], none⟩,
      ⟨some 6, .assign (.const (.slice none 0 0)), 43, "", #[], none⟩,
      ⟨none, .store 45 (.tmp 7) (.tmp 80), 0, "", #[], none⟩] false)
    .ret)
    .skip))
  (.seq (.region 22 #[⟨some 81, .move (.tmp 9), 43, "", #[], none⟩,
    ⟨some 82, .build 45 #[], 45, "", #[], none⟩,
    ⟨some 6, .assign (.tmp 81), 43, "", #[], none⟩,
    ⟨none, .store 45 (.tmp 7) (.tmp 82), 0, "", #[], none⟩] false)
  .ret)))))))
def fn40 : AFn := { ntmps := 83, results := [.tmp 6, .cell 7 45], body := c40, keep := fun | 0 => some [2, 3, 4, 7] | 1 => some [2, 3, 4, 7, 13] | 2 => some [6, 7] | 3 => some [2, 3, 7, 18] | 4 => some [6, 7] | 5 => some [2, 3, 7, 8] | 6 => some [2, 3, 7, 8, 9] | 7 => some [3, 7, 8, 9, 27, 28, 29] | 8 => some [3, 7, 8, 9, 27, 28, 29, 30] | 9 => some [3, 7, 8, 9, 11, 27, 28, 29] | 10 => some [3, 7, 8, 9, 11, 12, 27, 28, 29] | 11 => some [6, 7] | 12 => some [3, 7, 8, 9, 11, 27, 28, 29, 38] | 13 => some [3, 7, 8, 9, 27, 28, 29] | 14 => some [3, 7, 8, 9, 27, 28, 29] | 15 => some [3, 7, 8, 9, 27, 28, 29, 59] | 16 => some [3, 7, 8, 9, 27, 28, 29] | 17 => some [7, 8, 65] | 18 => some [6, 7] | 19 => some [3, 7, 8, 9, 27, 28, 29] | 20 => some [7, 8, 9, 77] | 21 => some [6, 7] | 22 => some [6, 7] | _ => none, head := fun | 8 => some [3, 7, 8, 9, 27, 28, 29] | _ => none, opn := opnT, dyn := fun _ => [] }
/-- vidimus/constraints.number -/
def c41 : Code :=
  (.seq (.region 0 #[⟨some 2, .assign (.const (.int .i64 0)), 3, "", #[], none⟩,
    ⟨some 3, .assign (.const (.int .i64 0)), 34, "", #[], none⟩] false)
  (.seq (.region 1 #[⟨some 7, .move (.tmp 0), 30, "", #[], none⟩,
    ⟨some 8, .call { callee := .value (.func 50), args := #[.tmp 7], argTypes := #[30] }, 62, "", #[], none⟩,
    ⟨some 6, .move (.tmp 8), 62, "", #[], none⟩,
    ⟨some 9, .extract (.tmp 6) 0, 3, "", #[], none⟩,
    ⟨some 10, .extract (.tmp 6) 1, 34, "", #[], none⟩,
    ⟨some 4, .assign (.tmp 9), 3, "", #[], none⟩,
    ⟨some 5, .assign (.tmp 10), 34, "", #[], none⟩] false)
  (.seq (.block 0 (.seq (.region 2 #[⟨some 12, .move (.tmp 5), 34, "", #[], none⟩,
    ⟨some 13, .binOp .neq 34 (.tmp 12) (.const (.int .i64 0)) 34, 4, "", #[], none⟩,
    ⟨some 11, .assign (.tmp 13), 4, "", #[], none⟩] false)
  (.cond (.tmp 11)
    (.seq (.region 3 #[⟨some 14, .move (.tmp 5), 34, "", #[], none⟩,
      ⟨some 2, .assign (.const (.int .i64 0)), 3, "", #[], none⟩,
      ⟨some 3, .assign (.tmp 14), 34, "", #[], none⟩] false)
    .ret)
    (.seq (.region 4 #[⟨some 16, .move (.tmp 4), 3, "", #[], none⟩,
      ⟨some 17, .binOp .lss 3 (.tmp 16) (.const (.int .i64 0)) 3, 4, "", #[], none⟩,
      ⟨some 15, .assign (.tmp 17), 4, "", #[], none⟩] false)
    (.cond (.tmp 15)
      (.seq (.region 5 #[⟨some 2, .assign (.const (.int .i64 0)), 3, "", #[], none⟩,
        ⟨some 3, .assign (.const (.int .i64 11)), 34, "", #[], none⟩] false)
      .ret)
      (.seq (.region 6 #[⟨some 19, .move (.tmp 4), 3, "", #[], none⟩,
        ⟨some 20, .binOp .gtr 3 (.tmp 19) (.const (.int .i64 2147483647)) 3, 4, "", #[], none⟩,
        ⟨some 18, .assign (.tmp 20), 4, "", #[], none⟩] false)
      (.cond (.tmp 18)
        (.seq (.region 7 #[⟨some 2, .assign (.const (.int .i64 0)), 3, "", #[], none⟩,
          ⟨some 3, .assign (.const (.int .i64 3)), 34, "", #[], none⟩] false)
        .ret)
        .skip)))))))
  (.seq (.region 8 #[⟨some 21, .move (.tmp 4), 3, "", #[], none⟩,
    ⟨some 2, .assign (.tmp 21), 3, "", #[], none⟩,
    ⟨some 3, .assign (.const (.int .i64 0)), 34, "", #[], none⟩] false)
  .ret))))
def fn41 : AFn := { ntmps := 22, results := [.tmp 2, .tmp 3], body := c41, keep := fun | 0 => some [0] | 1 => some [4, 5] | 2 => some [4, 5, 11] | 3 => some [2, 3] | 4 => some [4, 15] | 5 => some [2, 3] | 6 => some [4, 18] | 7 => some [2, 3] | 8 => some [2, 3] | _ => none, head := fun  | _ => none, opn := fun _ => none, dyn := fun _ => [] }
/-- vidimus/fields.Under -/
def c42 : Code :=
  (.seq (.region 0 #[⟨some 3, .box 45 (.tmp 1), 0, "", #[], none⟩,
    ⟨some 4, .alloc 45, 0, "", #[], none⟩] false)
  (.seq (.seq (.region 1 #[⟨some 6, .fieldAddr 45 (.tmp 3) 1, 0, "", #[], none⟩,
    ⟨some 7, .load 34 (.tmp 6), 34, "", #[], none⟩,
    ⟨some 8, .binOp .eql 34 (.tmp 7) (.const (.int .i64 0)) 34, 4, "", #[], none⟩] false)
  (.cond (.tmp 8)
    (.seq (.region 2 #[⟨some 9, .build 45 #[], 45, "", #[], none⟩,
      ⟨none, .store 45 (.tmp 4) (.tmp 9), 0, "", #[], none⟩] false)
    .ret)
    .skip))
  (.seq (.region 3 #[⟨some 10, .fieldAddr 45 (.tmp 3) 0, 0, "", #[], none⟩,
    ⟨some 11, .load 43 (.tmp 10), 43, "", #[], none⟩,
    ⟨some 12, .call { callee := .builtin .len, args := #[.tmp 11], argTypes := #[43] }, 3, "", #[], none⟩,
    ⟨some 13, .binOp .add 3 (.const (.int .i64 1)) (.tmp 12) 3, 3, "", #[], none⟩,
    ⟨some 14, .makeSlice 43 (.tmp 13) (.tmp 13), 43, "", #[], none⟩,
    ⟨some 5, .assign (.tmp 14), 43, "", #[], none⟩] false)
  (.seq (.region 4 #[⟨some 15, .move (.tmp 5), 43, "", #[], none⟩,
    ⟨some 16, .move (.tmp 0), 3, "", #[], none⟩,
    ⟨some 17, .indexAddr 43 (.tmp 15) (.const (.int .i64 0)), 0, "", #[], none⟩,
    ⟨none, .store 3 (.tmp 17) (.tmp 16), 0, "", #[], none⟩] false)
  (.seq (.region 5 #[⟨some 18, .move (.tmp 5), 43, "", #[], none⟩,
    ⟨some 19, .slice 43 (.tmp 18) (some (.const (.int .i64 1))) none none, 43, "", #[], none⟩,
    ⟨some 20, .fieldAddr 45 (.tmp 3) 0, 0, "", #[], none⟩,
    ⟨some 21, .load 43 (.tmp 20), 43, "", #[], none⟩,
    ⟨some 22, .call { callee := .builtin .copy, args := #[.tmp 19, .tmp 21], argTypes := #[43, 43] }, 3, "", #[], none⟩] true)
  (.seq (.region 6 #[⟨some 23, .move (.tmp 5), 43, "", #[], none⟩,
    ⟨some 24, .fieldAddr 45 (.tmp 3) 1, 0, "", #[], none⟩,
    ⟨some 25, .load 34 (.tmp 24), 34, "", #[], none⟩,
    ⟨some 26, .build 45 #[(0, .tmp 23), (1, .tmp 25)], 45, "", #[], none⟩,
    ⟨none, .store 45 (.tmp 4) (.tmp 26), 0, "", #[], none⟩] false)
  .ret))))))
def fn42 : AFn := { ntmps := 27, results := [.cell 4 45], body := c42, keep := fun | 0 => some [0, 3, 4] | 1 => some [0, 3, 4, 8] | 2 => some [4] | 3 => some [0, 3, 4, 5] | 4 => some [3, 4, 5] | 5 => some [3, 4, 5] | 6 => some [4] | _ => none, head := fun  | _ => none, opn := fun _ => none, dyn := fun _ => [] }
/-- vidimus/constraints.read[vidimus/constraints.Constraints] -/
def c43 : Code :=
  (.seq (.region 0 #[⟨some 4, .alloc 25, 0, "", #[], none⟩,
    ⟨some 5, .assign (.const (.int .i64 0)), 3, "", #[], none⟩,
    ⟨some 6, .assign (.const (.int .i64 0)), 34, "", #[], none⟩] false)
  (.seq (.region 1 #[⟨some 10, .move (.tmp 0), 30, "", #[], none⟩,
    ⟨some 11, .call { callee := .value (.func 26), args := #[.tmp 10], argTypes := #[30] }, 59, "", #[], none⟩,
    ⟨some 9, .move (.tmp 11), 59, "", #[], none⟩,
    ⟨some 12, .extract (.tmp 9) 0, 33, "", #[], none⟩,
    ⟨some 13, .extract (.tmp 9) 1, 3, "", #[], none⟩,
    ⟨some 14, .extract (.tmp 9) 2, 34, "", #[], none⟩,
    ⟨some 7, .alloc 33, 0, "", #[], none⟩,
    ⟨none, .store 33 (.tmp 7) (.tmp 12), 0, "", #[], none⟩,
    ⟨some 5, .assign (.tmp 13), 3, "", #[], none⟩,
    ⟨some 6, .assign (.tmp 14), 34, "", #[], none⟩] false)
  (.seq (.seq (.region 2 #[⟨some 15, .move (.tmp 6), 34, "", #[], none⟩,
    ⟨some 16, .binOp .neq 34 (.tmp 15) (.const (.int .i64 0)) 34, 4, "", #[], none⟩] false)
  (.cond (.tmp 16)
    (.seq (.region 3 #[⟨some 17, .load 25 (.tmp 4), 25, "", #[], none⟩,
      ⟨some 18, .move (.tmp 5), 3, "", #[], none⟩,
      ⟨some 19, .move (.tmp 6), 34, "", #[], none⟩,
      ⟨none, .store 25 (.tmp 4) (.tmp 17), 0, "", #[], none⟩,
      ⟨some 5, .assign (.tmp 18), 3, "", #[], none⟩,
      ⟨some 6, .assign (.tmp 19), 34, "", #[], none⟩] false)
    .ret)
    .skip))
  (.seq (.region 4 #[⟨some 21, .move (.tmp 1), 47, "", #[], none⟩,
    ⟨some 22, .load 33 (.tmp 7), 33, "", #[], none⟩,
    ⟨some 23, .call { callee := .value (.tmp 21), args := #[.tmp 22], argTypes := #[33] }, 46, "", #[], none⟩,
    ⟨some 20, .move (.tmp 23), 46, "", #[], none⟩,
    ⟨some 24, .extract (.tmp 20) 0, 25, "", #[], none⟩,
    ⟨some 25, .extract (.tmp 20) 1, 45, "", #[], none⟩,
    ⟨some 8, .alloc 45, 0, "", #[], none⟩,
    ⟨none, .store 25 (.tmp 4) (.tmp 24), 0, "", #[], none⟩,
    ⟨none, .store 45 (.tmp 8) (.tmp 25), 0, "", #[], none⟩] false)
  (.seq (.region 5 #[⟨some 27, .load 33 (.tmp 7), 33, "", #[], none⟩,
    ⟨some 28, .load 45 (.tmp 8), 45, "", #[], none⟩,
    ⟨some 29, .call { callee := .value (.func 59), args := #[.tmp 27, .tmp 28], argTypes := #[33, 45] }, 62, "", #[], none⟩,
    ⟨some 26, .move (.tmp 29), 62, "", #[], none⟩,
    ⟨some 30, .extract (.tmp 26) 0, 3, "", #[], none⟩,
    ⟨some 31, .extract (.tmp 26) 1, 34, "", #[], none⟩,
    ⟨some 5, .assign (.tmp 30), 3, "", #[], none⟩,
    ⟨some 6, .assign (.tmp 31), 34, "", #[], none⟩] false)
  (.seq (.region 6 #[⟨some 32, .load 25 (.tmp 4), 25, "", #[], none⟩,
    ⟨some 33, .move (.tmp 5), 3, "", #[], none⟩,
    ⟨some 34, .move (.tmp 6), 34, "", #[], none⟩,
    ⟨none, .store 25 (.tmp 4) (.tmp 32), 0, "", #[], none⟩,
    ⟨some 5, .assign (.tmp 33), 3, "", #[], none⟩,
    ⟨some 6, .assign (.tmp 34), 34, "", #[], none⟩] false)
  .ret))))))
def fn43 : AFn := { ntmps := 35, results := [.cell 4 25, .tmp 5, .tmp 6], body := c43, keep := fun | 0 => some [0, 1, 4] | 1 => some [1, 4, 5, 6, 7] | 2 => some [1, 4, 5, 6, 7, 16] | 3 => some [4, 5, 6] | 4 => some [4, 7, 8] | 5 => some [4, 5, 6] | 6 => some [4, 5, 6] | _ => none, head := fun  | _ => none, opn := opnT, dyn := fun _ => [] }
/-- vidimus/constraints.read[int] -/
def c44 : Code :=
  (.seq (.region 0 #[⟨some 4, .assign (.const (.int .i64 0)), 3, "", #[], none⟩,
    ⟨some 5, .assign (.const (.int .i64 0)), 3, "", #[], none⟩,
    ⟨some 6, .assign (.const (.int .i64 0)), 34, "", #[], none⟩] false)
  (.seq (.region 1 #[⟨some 10, .move (.tmp 0), 30, "", #[], none⟩,
    ⟨some 11, .call { callee := .value (.func 26), args := #[.tmp 10], argTypes := #[30] }, 59, "", #[], none⟩,
    ⟨some 9, .move (.tmp 11), 59, "", #[], none⟩,
    ⟨some 12, .extract (.tmp 9) 0, 33, "", #[], none⟩,
    ⟨some 13, .extract (.tmp 9) 1, 3, "", #[], none⟩,
    ⟨some 14, .extract (.tmp 9) 2, 34, "", #[], none⟩,
    ⟨some 7, .alloc 33, 0, "", #[], none⟩,
    ⟨none, .store 33 (.tmp 7) (.tmp 12), 0, "", #[], none⟩,
    ⟨some 5, .assign (.tmp 13), 3, "", #[], none⟩,
    ⟨some 6, .assign (.tmp 14), 34, "", #[], none⟩] false)
  (.seq (.seq (.region 2 #[⟨some 15, .move (.tmp 6), 34, "", #[], none⟩,
    ⟨some 16, .binOp .neq 34 (.tmp 15) (.const (.int .i64 0)) 34, 4, "", #[], none⟩] false)
  (.cond (.tmp 16)
    (.seq (.region 3 #[⟨some 17, .move (.tmp 4), 3, "", #[], none⟩,
      ⟨some 18, .move (.tmp 5), 3, "", #[], none⟩,
      ⟨some 19, .move (.tmp 6), 34, "", #[], none⟩,
      ⟨some 4, .assign (.tmp 17), 3, "", #[], none⟩,
      ⟨some 5, .assign (.tmp 18), 3, "", #[], none⟩,
      ⟨some 6, .assign (.tmp 19), 34, "", #[], none⟩] false)
    .ret)
    .skip))
  (.seq (.region 4 #[⟨some 21, .move (.tmp 1), 86, "", #[], none⟩,
    ⟨some 22, .load 33 (.tmp 7), 33, "", #[], none⟩,
    ⟨some 23, .call { callee := .value (.tmp 21), args := #[.tmp 22], argTypes := #[33] }, 99, "", #[], none⟩,
    ⟨some 20, .move (.tmp 23), 99, "", #[], none⟩,
    ⟨some 24, .extract (.tmp 20) 0, 3, "", #[], none⟩,
    ⟨some 25, .extract (.tmp 20) 1, 45, "", #[], none⟩,
    ⟨some 8, .alloc 45, 0, "", #[], none⟩,
    ⟨some 4, .assign (.tmp 24), 3, "", #[], none⟩,
    ⟨none, .store 45 (.tmp 8) (.tmp 25), 0, "", #[], none⟩] false)
  (.seq (.region 5 #[⟨some 27, .load 33 (.tmp 7), 33, "", #[], none⟩,
    ⟨some 28, .load 45 (.tmp 8), 45, "", #[], none⟩,
    ⟨some 29, .call { callee := .value (.func 59), args := #[.tmp 27, .tmp 28], argTypes := #[33, 45] }, 62, "", #[], none⟩,
    ⟨some 26, .move (.tmp 29), 62, "", #[], none⟩,
    ⟨some 30, .extract (.tmp 26) 0, 3, "", #[], none⟩,
    ⟨some 31, .extract (.tmp 26) 1, 34, "", #[], none⟩,
    ⟨some 5, .assign (.tmp 30), 3, "", #[], none⟩,
    ⟨some 6, .assign (.tmp 31), 34, "", #[], none⟩] false)
  (.seq (.region 6 #[⟨some 32, .move (.tmp 4), 3, "", #[], none⟩,
    ⟨some 33, .move (.tmp 5), 3, "", #[], none⟩,
    ⟨some 34, .move (.tmp 6), 34, "", #[], none⟩,
    ⟨some 4, .assign (.tmp 32), 3, "", #[], none⟩,
    ⟨some 5, .assign (.tmp 33), 3, "", #[], none⟩,
    ⟨some 6, .assign (.tmp 34), 34, "", #[], none⟩] false)
  .ret))))))
def fn44 : AFn := { ntmps := 35, results := [.tmp 4, .tmp 5, .tmp 6], body := c44, keep := fun | 0 => some [0, 1, 4] | 1 => some [1, 4, 5, 6, 7] | 2 => some [1, 4, 5, 6, 7, 16] | 3 => some [4, 5, 6] | 4 => some [4, 7, 8] | 5 => some [4, 5, 6] | 6 => some [4, 5, 6] | _ => none, head := fun  | _ => none, opn := opnT, dyn := fun _ => [] }
/-- vidimus/constraints.GetSkip$1 -/
def c45 : Code :=
  (.seq (.region 0 #[⟨some 1, .box 33 (.tmp 0), 0, "", #[], none⟩,
    ⟨some 2, .assign (.const (.int .i64 0)), 3, "", #[], none⟩,
    ⟨some 3, .alloc 45, 0, "", #[], none⟩] false)
  (.seq (.seq (.region 1 #[⟨some 6, .fieldAddr 33 (.tmp 1) 0, 0, "", #[], none⟩,
    ⟨some 7, .load 29 (.tmp 6), 29, "", #[], none⟩,
    ⟨some 8, .load 29 (.global 1), 29, "", #[], none⟩,
    ⟨some 9, .binOp .neq 29 (.tmp 7) (.tmp 8) 29, 4, "", #[], none⟩] false)
  (.cond (.tmp 9)
    (.seq (.region 2 #[⟨some 10, .build 45 #[(1, .const (.int .i64 9))], 45, "", #[], none⟩,
      ⟨some 2, .assign (.const (.int .i64 0)), 3, "", #[], none⟩,
      ⟨none, .store 45 (.tmp 3) (.tmp 10), 0, "", #[], none⟩] false)
    .ret)
    .skip))
  (.seq (.region 3 #[⟨some 12, .fieldAddr 33 (.tmp 1) 1, 0, "", #[], none⟩,
    ⟨some 13, .load 30 (.tmp 12), 30, "", #[], none⟩,
    ⟨some 14, .call { callee := .value (.func 41), args := #[.tmp 13], argTypes := #[30] }, 62, "", #[], none⟩,
    ⟨some 11, .move (.tmp 14), 62, "", #[], none⟩,
    ⟨some 15, .extract (.tmp 11) 0, 3, "", #[], none⟩,
    ⟨some 16, .extract (.tmp 11) 1, 34, "", #[], none⟩,
    ⟨some 4, .assign (.tmp 15), 3, "", #[], none⟩,
    ⟨some 5, .assign (.tmp 16), 34, "", #[], none⟩] false)
  (.seq (.region 4 #[⟨some 17, .move (.tmp 4), 3, "", #[], none⟩,
    ⟨some 18, .move (.tmp 5), 34, "", #[], none⟩,
    ⟨some 19, .build 45 #[(1, .tmp 18)], 45, "", #[], none⟩,
    ⟨some 2, .assign (.tmp 17), 3, "", #[], none⟩,
    ⟨none, .store 45 (.tmp 3) (.tmp 19), 0, "", #[], none⟩] false)
  .ret))))
def fn45 : AFn := { ntmps := 20, results := [.tmp 2, .cell 3 45], body := c45, keep := fun | 0 => some [1, 3] | 1 => some [1, 3, 9] | 2 => some [2, 3] | 3 => some [3, 4, 5] | 4 => some [2, 3] | _ => none, head := fun  | _ => none, opn := fun _ => none, dyn := fun _ => [] }
/-- vidimus/vidimusref12.Fault -/
def c46 : Code :=
  (.seq (.region 0 #[⟨some 4, .alloc 45, 0, "", #[], none⟩] false)
  (.seq (.region 1 #[⟨some 6, .move (.tmp 0), 34, "", #[], none⟩,
    ⟨some 7, .build 45 #[(1, .tmp 6)], 45, "", #[], none⟩,
    ⟨some 5, .alloc 45, 0, "", #[], none⟩,
    ⟨none, .store 45 (.tmp 5) (.tmp 7), 0, "", #[], none⟩] false)
  (.seq (.seq (.region 2 #[⟨some 8, .move (.tmp 1), 3, "", #[], none⟩,
    ⟨some 9, .binOp .geq 3 (.tmp 8) (.const (.int .i64 0)) 3, 4, "", #[], none⟩] false)
  (.cond (.tmp 9)
    (.region 3 #[⟨some 10, .fieldAddr 45 (.tmp 5) 0, 0, "", #[], none⟩,
      ⟨some 11, .load 43 (.tmp 10), 43, "", #[], none⟩,
      ⟨some 12, .move (.tmp 1), 3, "", #[], none⟩,
      ⟨some 13, .buildSlice 43 1 #[(0, .tmp 12)], 43, "", #[], none⟩,
      ⟨some 14, .call { callee := .builtin .append, args := #[.tmp 11, .tmp 13], argTypes := #[43, 43] }, 43, "", #[], none⟩,
      ⟨some 15, .fieldAddr 45 (.tmp 5) 0, 0, "", #[], none⟩,
      ⟨none, .store 43 (.tmp 15) (.tmp 14), 0, "", #[], none⟩] false)
    .skip))
  (.seq (.region 4 #[⟨some 16, .load 45 (.tmp 5), 45, "", #[], none⟩,
    ⟨none, .store 45 (.tmp 4) (.tmp 16), 0, "", #[], none⟩] false)
  .ret))))
def fn46 : AFn := { ntmps := 17, results := [.cell 4 45], body := c46, keep := fun | 0 => some [0, 1, 4] | 1 => some [1, 4, 5] | 2 => some [1, 4, 5, 9] | 3 => some [4, 5] | 4 => some [4] | _ => none, head := fun  | _ => none, opn := fun _ => none, dyn := fun _ => [] }
/-- vidimus/vidimusref12.Sequence -/
def c47 : Code :=
  (.seq (.region 0 #[⟨some 3, .box 33 (.tmp 0), 0, "", #[], none⟩,
    ⟨some 4, .box 29 (.tmp 1), 0, "", #[], none⟩,
    ⟨some 6, .assign (.const (.slice none 0 0)), 43, "", #[], none⟩,
    ⟨some 7, .alloc 45, 0, "", #[], none⟩] false)
  (.seq (.seq (.region 1 #[⟨some 11, .move (.tmp 2), 81, "", #[], none⟩,
    ⟨some 12, .call { callee := .builtin .len, args := #[.tmp 11], argTypes := #[81] }, 3, "", #[], none⟩,
    ⟨some 13, .binOp .gtr 3 (.tmp 12) (.const (.int .i64 256)) 3, 4, "", #[], none⟩] false)
  (.cond (.tmp 13)
    (.seq (.region 2 #[⟨some 14, .call { callee := .value (.func 46), args := #[.const (.int .i64 3), .const (.int .i64 (-1))], argTypes := #[34, 3] }, 45, "", #[], none⟩,
      ⟨some 6, .assign (.const (.slice none 0 0)), 43, "", #[], none⟩,
      ⟨none, .store 45 (.tmp 7) (.tmp 14), 0, "", #[], none⟩] false)
    .ret)
    .skip))
  (.seq (.seq (.region 3 #[⟨some 15, .fieldAddr 33 (.tmp 3) 0, 0, "", #[], none⟩,
    ⟨some 16, .load 29 (.tmp 15), 29, "", #[], none⟩,
    ⟨some 17, .load 29 (.tmp 4), 29, "", #[], none⟩,
    ⟨some 18, .binOp .neq 29 (.tmp 16) (.tmp 17) 29, 4, "", #[], none⟩] false)
  (.cond (.tmp 18)
    (.seq (.region 4 #[⟨some 19, .call { callee := .value (.func 46), args := #[.const (.int .i64 9), .const (.int .i64 (-1))], argTypes := #[34, 3] }, 45, "", #[], none⟩,
      ⟨some 6, .assign (.const (.slice none 0 0)), 43, "", #[], none⟩,
      ⟨none, .store 45 (.tmp 7) (.tmp 19), 0, "", #[], none⟩] false)
    .ret)
    .skip))
  (.seq (.region 5 #[⟨some 8, .assign (.const (.slice none 0 0)), 43, "", #[], none⟩] false)
  (.seq (.region 6 #[⟨some 9, .assign (.const (.int .i64 0)), 3, "", #[], none⟩] false)
  (.seq (.seq (.region 7 #[⟨some 10, .assign (.const (.int .i64 0)), 3, "", #[], none⟩] false)
  (.block 0 (.loop (.seq (.seq (.region 8 #[⟨some 20, .move (.tmp 10), 3, "", #[], none⟩,
    ⟨some 21, .move (.tmp 2), 81, "", #[], none⟩,
    ⟨some 22, .call { callee := .builtin .len, args := #[.tmp 21], argTypes := #[81] }, 3, "", #[], none⟩,
    ⟨some 23, .binOp .lss 3 (.tmp 20) (.tmp 22) 3, 4, "", #[], none⟩] false)
  (.cond (.tmp 23)
    .skip
    (.exit 0)))
  (.seq (.block 1 (.seq (.seq (.region 10 #[⟨some 26, .move (.tmp 9), 3, "", #[], none⟩,
    ⟨some 27, .fieldAddr 33 (.tmp 3) 2, 0, "", #[], none⟩,
    ⟨some 28, .load 31 (.tmp 27), 31, "", #[], none⟩,
    ⟨some 29, .call { callee := .builtin .len, args := #[.tmp 28], argTypes := #[31] }, 3, "", #[], none⟩,
    ⟨some 30, .binOp .lss 3 (.tmp 26) (.tmp 29) 3, 4, "", #[], none⟩,
    ⟨some 31, .move (.tmp 30), 4, "", #[], none⟩,
    ⟨some 32, .move (.tmp 2), 81, "", #[], some (31, true)⟩,
    ⟨some 33, .move (.tmp 10), 3, "", #[], some (31, true)⟩,
    ⟨some 34, .indexAddr 81 (.tmp 32) (.tmp 33), 0, "", #[], some (31, true)⟩,
    ⟨some 35, .fieldAddr 80 (.tmp 34) 1, 0, "", #[], some (31, true)⟩,
    ⟨some 36, .load 4 (.tmp 35), 4, "", #[], some (31, true)⟩,
    ⟨some 37, .move (.tmp 36), 4, "", #[], some (31, true)⟩,
    ⟨some 38, .move (.tmp 2), 81, "", #[], some (37, false)⟩,
    ⟨some 39, .move (.tmp 10), 3, "", #[], some (37, false)⟩,
    ⟨some 40, .indexAddr 81 (.tmp 38) (.tmp 39), 0, "", #[], some (37, false)⟩,
    ⟨some 41, .fieldAddr 80 (.tmp 40) 0, 0, "", #[], some (37, false)⟩,
    ⟨some 42, .load 29 (.tmp 41), 29, "", #[], some (37, false)⟩,
    ⟨some 43, .fieldAddr 33 (.tmp 3) 2, 0, "", #[], some (37, false)⟩,
    ⟨some 44, .load 31 (.tmp 43), 31, "", #[], some (37, false)⟩,
    ⟨some 45, .move (.tmp 9), 3, "", #[], some (37, false)⟩,
    ⟨some 46, .indexAddr 31 (.tmp 44) (.tmp 45), 0, "", #[], some (37, false)⟩,
    ⟨some 47, .fieldAddr 33 (.tmp 46) 0, 0, "", #[], some (37, false)⟩,
    ⟨some 48, .load 29 (.tmp 47), 29, "", #[], some (37, false)⟩,
    ⟨some 49, .binOp .eql 29 (.tmp 42) (.tmp 48) 29, 4, "", #[], some (37, false)⟩,
    ⟨some 50, .pick (.tmp 37) (.const (.bool true)) (.tmp 49), 4, "", #[], some (31, true)⟩,
    ⟨some 51, .pick (.tmp 31) (.tmp 50) (.const (.bool false)), 4, "", #[], none⟩] true)
  (.cond (.tmp 51)
    (.seq (.region 11 #[⟨some 52, .move (.tmp 8), 43, "", #[], none⟩,
      ⟨some 53, .move (.tmp 9), 3, "", #[], none⟩,
      ⟨some 54, .buildSlice 43 1 #[(0, .tmp 53)], 43, "", #[], none⟩,
      ⟨some 55, .call { callee := .builtin .append, args := #[.tmp 52, .tmp 54], argTypes := #[43, 43] }, 43, "", #[], none⟩,
      ⟨some 8, .assign (.tmp 55), 43, "", #[], none⟩] false)
    (.seq (.region 12 #[⟨some 56, .move (.tmp 9), 3, "", #[], none⟩,
      ⟨some 57, .binOp .add 3 (.tmp 56) (.const (.int .i64 1)) 3, 3, "", #[], none⟩,
      ⟨some 9, .assign (.tmp 57), 3, "", #[], none⟩] false)
    (.exit 1)))
    .skip))
  (.seq (.seq (.region 13 #[⟨some 58, .move (.tmp 2), 81, "", #[], none⟩,
    ⟨some 59, .move (.tmp 10), 3, "", #[], none⟩,
    ⟨some 60, .indexAddr 81 (.tmp 58) (.tmp 59), 0, "", #[], none⟩,
    ⟨some 61, .fieldAddr 80 (.tmp 60) 2, 0, "", #[], none⟩,
    ⟨some 62, .load 4 (.tmp 61), 4, "", #[], none⟩] false)
  (.cond (.tmp 62)
    (.seq (.region 14 #[⟨some 63, .move (.tmp 8), 43, "", #[], none⟩,
      ⟨some 64, .buildSlice 43 1 #[(0, .const (.int .i64 (-1)))], 43, "", #[], none⟩,
      ⟨some 65, .call { callee := .builtin .append, args := #[.tmp 63, .tmp 64], argTypes := #[43, 43] }, 43, "", #[], none⟩,
      ⟨some 8, .assign (.tmp 65), 43, "", #[], none⟩] false)
    (.exit 1))
    .skip))
  (.seq (.seq (.region 15 #[⟨some 66, .move (.tmp 9), 3, "", #[], none⟩,
    ⟨some 67, .fieldAddr 33 (.tmp 3) 2, 0, "", #[], none⟩,
    ⟨some 68, .load 31 (.tmp 67), 31, "", #[], none⟩,
    ⟨some 69, .call { callee := .builtin .len, args := #[.tmp 68], argTypes := #[31] }, 3, "", #[], none⟩,
    ⟨some 70, .binOp .eql 3 (.tmp 66) (.tmp 69) 3, 4, "", #[], none⟩] false)
  (.cond (.tmp 70)
    (.seq (.region 16 #[⟨some 71, .call { callee := .value (.func 46), args := #[.const (.int .i64 7), .const (.int .i64 (-1))], argTypes := #[34, 3] }, 45, "", #[], none⟩,
      ⟨some 6, .assign (.const (.slice none 0 0)), 43, "", #[], none⟩,
      ⟨none, .store 45 (.tmp 7) (.tmp 71), 0, "", #[], none⟩] false)
    .ret)
    .skip))
  (.seq (.region 17 #[⟨some 72, .move (.tmp 9), 3, "", #[], none⟩,
    ⟨some 73, .call { callee := .value (.func 46), args := #[.const (.int .i64 9), .tmp 72], argTypes := #[34, 3] }, 45, "", #[], none⟩,
    ⟨some 6, .assign (.const (.slice none 0 0)), 43, "", #[], none⟩,
    ⟨none, .store 45 (.tmp 7) (.tmp 73), 0, "", #[], none⟩] false)
  .ret)))))
  (.region 9 #[⟨some 24, .move (.tmp 10), 3, "", #[], none⟩,
    ⟨some 25, .binOp .add 3 (.tmp 24) (.const (.int .i64 1)) 3, 3, "", #[], none⟩,
    ⟨some 10, .assign (.tmp 25), 3, "", #[], none⟩] false))))))
  (.seq (.seq (.region 18 #[⟨some 74, .move (.tmp 9), 3, "", #[], none⟩,
    ⟨some 75, .fieldAddr 33 (.tmp 3) 2, 0, "", #[], none⟩,
    ⟨some 76, .load 31 (.tmp 75), 31, "", #[], none⟩,
    ⟨some 77, .call { callee := .builtin .len, args := #[.tmp 76], argTypes := #[31] }, 3, "", #[], none⟩,
    ⟨some 78, .binOp .lss 3 (.tmp 74) (.tmp 77) 3, 4, "", #[], none⟩] false)
  (.cond (.tmp 78)
    (.seq (.region 19 #[⟨some 79, .move (.tmp 9), 3, "", #[], none⟩,
      ⟨some 80, .call { callee := .value (.func 46), args := #[.const (.int .i64 8), .tmp 79], argTypes := #[34, 3] }, 45, "", #[], none⟩,
      ⟨some 6, .assign (.const (.slice none 0 0)), 43, "", #[], none⟩,
      ⟨none, .store 45 (.tmp 7) (.tmp 80), 0, "", #[], none⟩] false)
    .ret)
    .skip))
  (.seq (.region 20 #[⟨some 81, .move (.tmp 8), 43, "", #[], none⟩,
    ⟨some 82, .build 45 #[], 45, "", #[], none⟩,
    ⟨some 6, .assign (.tmp 81), 43, "", #[], none⟩,
    ⟨none, .store 45 (.tmp 7) (.tmp 82), 0, "", #[], none⟩] false)
  .ret))))))))
def fn47 : AFn := { ntmps := 83, results := [.tmp 6, .cell 7 45], body := c47, keep := fun | 0 => some [2, 3, 4, 7] | 1 => some [2, 3, 4, 7, 13] | 2 => some [6, 7] | 3 => some [2, 3, 7, 18] | 4 => some [6, 7] | 5 => some [2, 3, 7, 8] | 6 => some [2, 3, 7, 8, 9] | 7 => some [2, 3, 7, 8, 9, 10] | 8 => some [2, 3, 7, 8, 9, 10, 23] | 9 => some [2, 3, 7, 8, 9, 10] | 10 => some [2, 3, 7, 8, 9, 10, 51] | 11 => some [2, 3, 7, 8, 9, 10] | 12 => some [2, 3, 7, 8, 9, 10] | 13 => some [2, 3, 7, 8, 9, 10, 62] | 14 => some [2, 3, 7, 8, 9, 10] | 15 => some [7, 9, 70] | 16 => some [6, 7] | 17 => some [6, 7] | 18 => some [7, 8, 9, 78] | 19 => some [6, 7] | 20 => some [6, 7] | _ => none, head := fun | 8 => some [2, 3, 7, 8, 9, 10] | _ => none, opn := fun _ => none, dyn := fun _ => [] }
def d48_0 : Code :=
  (.region 0 #[⟨some 2, .alloc 33, 0, "", #[], none⟩,
    ⟨some 3, .alloc 3, 0, "", #[], none⟩,
    ⟨some 4, .alloc 3, 0, "", #[], none⟩,
    ⟨some 5, .alloc 34, 0, "", #[], none⟩] false)
def d48_1 : Code :=
  (.region 1 #[⟨some 7, .move (.tmp 0), 30, "", #[], none⟩,
    ⟨some 8, .call { callee := .builtin .len, args := #[.tmp 7], argTypes := #[30] }, 3, "", #[], none⟩,
    ⟨some 9, .binOp .gtr 3 (.tmp 8) (.const (.int .i64 1048576)) 3, 4, "", #[], none⟩] false)
def d48_2 : Code :=
  (.cond (.tmp 9)
    (.seq (.region 2 #[⟨some 10, .build 33 #[], 33, "", #[], none⟩,
      ⟨none, .store 33 (.tmp 2) (.tmp 10), 0, "", #[], none⟩,
      ⟨none, .store 3 (.tmp 3) (.const (.int .i64 0)), 0, "", #[], none⟩,
      ⟨none, .store 3 (.tmp 4) (.const (.int .i64 0)), 0, "", #[], none⟩,
      ⟨none, .store 34 (.tmp 5) (.const (.int .i64 3)), 0, "", #[], none⟩] false)
    .ret)
    .skip)
def d48_4 : Code :=
  (.region 4 #[⟨some 12, .move (.tmp 0), 30, "", #[], none⟩,
    ⟨some 13, .build 104 #[(0, .tmp 12)], 104, "", #[], none⟩,
    ⟨some 6, .alloc 104, 0, "", #[], none⟩,
    ⟨none, .store 104 (.tmp 6) (.tmp 13), 0, "", #[], none⟩] false)
def d48_5 : Code :=
  (.region 5 #[⟨some 15, .move (.tmp 0), 30, "", #[], none⟩,
    ⟨some 16, .call { callee := .builtin .len, args := #[.tmp 15], argTypes := #[30] }, 3, "", #[], none⟩,
    ⟨some 17, .call { callee := .value (.func 61), args := #[.tmp 6, .const (.int .i64 0), .tmp 16, .const (.int .i64 1)], argTypes := #[104, 3, 3, 3] }, 105, "", #[], none⟩,
    ⟨some 14, .move (.tmp 17), 105, "", #[], none⟩,
    ⟨some 18, .extract (.tmp 14) 0, 33, "", #[], none⟩,
    ⟨some 19, .extract (.tmp 14) 1, 3, "", #[], none⟩,
    ⟨none, .store 33 (.tmp 2) (.tmp 18), 0, "", #[], none⟩,
    ⟨none, .store 3 (.tmp 3) (.tmp 19), 0, "", #[], none⟩] false)
def d48_6 : Code :=
  (.region 6 #[⟨some 20, .load 33 (.tmp 2), 33, "", #[], none⟩,
    ⟨some 21, .load 3 (.tmp 3), 3, "", #[], none⟩,
    ⟨none, .store 33 (.tmp 2) (.tmp 20), 0, "", #[], none⟩,
    ⟨none, .store 3 (.tmp 3) (.tmp 21), 0, "", #[], none⟩,
    ⟨none, .store 3 (.tmp 4) (.const (.int .i64 0)), 0, "", #[], none⟩,
    ⟨none, .store 34 (.tmp 5) (.const (.int .i64 0)), 0, "", #[], none⟩] true)
def d48_7 : Code :=
  .ret
def e48_0 : Code :=
  (.region 1 #[⟨some 8, .move (.tmp 4), 20, "", #[], none⟩,
    ⟨some 9, .binOp .neq 20 (.tmp 8) (.const .nilIface) 20, 4, "", #[], none⟩] false)
def e48_1 : Code :=
  (.cond (.tmp 9)
    (.seq (.region 2 #[⟨some 11, .move (.tmp 4), 20, "", #[], none⟩,
      ⟨some 12, .typeAssert (.tmp 11) 20 101 true, 102, "", #[], none⟩,
      ⟨some 10, .move (.tmp 12), 102, "", #[], none⟩,
      ⟨some 13, .extract (.tmp 10) 0, 101, "", #[], none⟩,
      ⟨some 14, .extract (.tmp 10) 1, 4, "", #[], none⟩,
      ⟨some 5, .alloc 101, 0, "", #[], none⟩,
      ⟨none, .store 101 (.tmp 5) (.tmp 13), 0, "", #[], none⟩,
      ⟨some 6, .assign (.tmp 14), 4, "", #[], none⟩] false)
    (.seq (.seq (.region 3 #[⟨some 15, .move (.tmp 6), 4, "", #[], none⟩,
      ⟨some 16, .unOp .not 4 (.tmp 15), 4, "", #[], none⟩] false)
    (.cond (.tmp 16)
      (.region 4 #[⟨some 17, .move (.tmp 4), 20, "", #[], none⟩,
        ⟨none, .panic (.tmp 17), 0, "", #[], none⟩] false)
      .skip))
    (.region 5 #[⟨some 18, .build 33 #[], 33, "", #[], none⟩,
      ⟨some 19, .fieldAddr 101 (.tmp 5) 0, 0, "", #[], none⟩,
      ⟨some 20, .load 3 (.tmp 19), 3, "", #[], none⟩,
      ⟨some 21, .fieldAddr 101 (.tmp 5) 1, 0, "", #[], none⟩,
      ⟨some 22, .load 34 (.tmp 21), 34, "", #[], none⟩,
      ⟨none, .store 33 (.tmp 0) (.tmp 18), 0, "", #[], none⟩,
      ⟨none, .store 3 (.tmp 1) (.const (.int .i64 0)), 0, "", #[], none⟩,
      ⟨none, .store 3 (.tmp 2) (.tmp 20), 0, "", #[], none⟩,
      ⟨none, .store 34 (.tmp 3) (.tmp 22), 0, "", #[], none⟩] true)))
    .skip)
/-- vidimus/elements.Next -/
def fn48 : AFn := { ntmps := 22, results := [.cell 2 33, .cell 3 3, .cell 4 3, .cell 5 34], body := .refuse "", keep := fun | 0 => some [0, 2, 3, 4, 5] | 1 => some [0, 2, 3, 4, 5, 9] | 2 => some [2, 3, 4, 5] | 3 => some [0, 2, 3, 4, 5] | 4 => some [0, 2, 3, 4, 5, 6] | 5 => some [2, 3, 4, 5] | 6 => some [2, 3, 4, 5] | _ => none, head := fun  | _ => none, opn := opnT, dyn := fun | 6 => [(1, 2)] | _ => [] }
def gfn48 : AFn := { ntmps := 23, results := [], body := .refuse "", keep := fun | 0 => some [0, 1, 2, 3, 4] | 1 => some [0, 1, 2, 3, 4, 9] | 2 => some [0, 1, 2, 3, 4, 5, 6] | 3 => some [0, 1, 2, 3, 4, 5, 16] | 4 => some [0, 1, 2, 3, 5] | 5 => some [] | _ => none, head := fun  | _ => none, opn := opnT, dyn := fun | 5 => [(2, 5), (4, 5), (2, 6), (4, 6), (4, 7)] | _ => [] }
def grd48 : Grd := { pre := [d48_0, d48_1, d48_2], t := 11, caps := [2, 3, 4, 5], post := [d48_4, d48_5, d48_6, d48_7], g := 60, rs := [4, 7], gfn := gfn48, gpost := [e48_0, e48_1] }
/-- vidimus/vidimusref12.Encode -/
def c49 : Code :=
  (.seq (.region 0 #[⟨some 1, .box 33 (.tmp 0), 0, "", #[], none⟩,
    ⟨some 2, .assign (.const (.slice none 0 0)), 30, "", #[], none⟩] false)
  (.seq (.region 1 #[⟨some 10, .fieldAddr 33 (.tmp 1) 1, 0, "", #[], none⟩,
    ⟨some 11, .load 30 (.tmp 10), 30, "", #[], none⟩,
    ⟨some 12, .call { callee := .builtin .append, args := #[.const (.slice none 0 0), .tmp 11], argTypes := #[30, 30] }, 30, "", #[], none⟩,
    ⟨some 3, .assign (.tmp 12), 30, "", #[], none⟩] false)
  (.seq (.seq (.region 2 #[⟨some 4, .assign (.const (.int .i64 0)), 3, "", #[], none⟩] false)
  (.block 0 (.loop (.seq (.seq (.region 3 #[⟨some 13, .move (.tmp 4), 3, "", #[], none⟩,
    ⟨some 14, .fieldAddr 33 (.tmp 1) 2, 0, "", #[], none⟩,
    ⟨some 15, .load 31 (.tmp 14), 31, "", #[], none⟩,
    ⟨some 16, .call { callee := .builtin .len, args := #[.tmp 15], argTypes := #[31] }, 3, "", #[], none⟩,
    ⟨some 17, .binOp .lss 3 (.tmp 13) (.tmp 16) 3, 4, "", #[], none⟩] false)
  (.cond (.tmp 17)
    .skip
    (.exit 0)))
  (.seq (.block 1 (.region 5 #[⟨some 20, .move (.tmp 3), 30, "", #[], none⟩,
    ⟨some 21, .fieldAddr 33 (.tmp 1) 2, 0, "", #[], none⟩,
    ⟨some 22, .load 31 (.tmp 21), 31, "", #[], none⟩,
    ⟨some 23, .move (.tmp 4), 3, "", #[], none⟩,
    ⟨some 24, .indexAddr 31 (.tmp 22) (.tmp 23), 0, "", #[], none⟩,
    ⟨some 25, .load 33 (.tmp 24), 33, "", #[], none⟩,
    ⟨some 26, .call { callee := .value (.func 49), args := #[.tmp 25], argTypes := #[33] }, 30, "", #[], none⟩,
    ⟨some 27, .call { callee := .builtin .append, args := #[.tmp 20, .tmp 26], argTypes := #[30, 30] }, 30, "", #[], none⟩,
    ⟨some 3, .assign (.tmp 27), 30, "", #[], none⟩] false))
  (.region 4 #[⟨some 18, .move (.tmp 4), 3, "", #[], none⟩,
    ⟨some 19, .binOp .add 3 (.tmp 18) (.const (.int .i64 1)) 3, 3, "", #[], none⟩,
    ⟨some 4, .assign (.tmp 19), 3, "", #[], none⟩] false))))))
  (.seq (.region 6 #[⟨some 28, .fieldAddr 33 (.tmp 1) 0, 0, "", #[], none⟩,
    ⟨some 29, .fieldAddr 29 (.tmp 28) 0, 0, "", #[], none⟩,
    ⟨some 30, .load 27 (.tmp 29), 27, "", #[], none⟩,
    ⟨some 31, .binOp .mul 5 (.tmp 30) (.const (.int .u8 64)) 5, 5, "", #[], none⟩,
    ⟨some 5, .assign (.tmp 31), 5, "", #[], none⟩] false)
  (.seq (.seq (.region 7 #[⟨some 32, .fieldAddr 33 (.tmp 1) 0, 0, "", #[], none⟩,
    ⟨some 33, .fieldAddr 29 (.tmp 32) 1, 0, "", #[], none⟩,
    ⟨some 34, .load 4 (.tmp 33), 4, "", #[], none⟩] false)
  (.cond (.tmp 34)
    (.region 8 #[⟨some 35, .move (.tmp 5), 5, "", #[], none⟩,
      ⟨some 36, .binOp .add 5 (.tmp 35) (.const (.int .u8 32)) 5, 5, "", #[], none⟩,
      ⟨some 5, .assign (.tmp 36), 5, "", #[], none⟩] false)
    .skip))
  (.seq (.region 9 #[⟨some 37, .move (.tmp 5), 5, "", #[], none⟩,
    ⟨some 38, .fieldAddr 33 (.tmp 1) 0, 0, "", #[], none⟩,
    ⟨some 39, .fieldAddr 29 (.tmp 38) 2, 0, "", #[], none⟩,
    ⟨some 40, .load 22 (.tmp 39), 22, "", #[], none⟩,
    ⟨some 41, .call { callee := .builtin .min, args := #[.tmp 40, .const (.int .u32 31)], argTypes := #[22, 22] }, 22, "", #[], none⟩,
    ⟨some 42, .convert 22 5 (.tmp 41), 5, "", #[], none⟩,
    ⟨some 43, .binOp .add 5 (.tmp 37) (.tmp 42) 5, 5, "", #[], none⟩,
    ⟨some 44, .buildSlice 30 1 #[(0, .tmp 43)], 30, "", #[], none⟩,
    ⟨some 6, .assign (.tmp 44), 30, "", #[], none⟩] false)
  (.seq (.seq (.region 10 #[⟨some 45, .fieldAddr 33 (.tmp 1) 0, 0, "", #[], none⟩,
    ⟨some 46, .fieldAddr 29 (.tmp 45) 2, 0, "", #[], none⟩,
    ⟨some 47, .load 22 (.tmp 46), 22, "", #[], none⟩,
    ⟨some 48, .binOp .gtr 22 (.tmp 47) (.const (.int .u32 30)) 22, 4, "", #[], none⟩] false)
  (.cond (.tmp 48)
    (.region 11 #[⟨some 49, .move (.tmp 6), 30, "", #[], none⟩,
      ⟨some 50, .fieldAddr 33 (.tmp 1) 0, 0, "", #[], none⟩,
      ⟨some 51, .fieldAddr 29 (.tmp 50) 2, 0, "", #[], none⟩,
      ⟨some 52, .load 22 (.tmp 51), 22, "", #[], none⟩,
      ⟨some 53, .call { callee := .value (.func 62), args := #[.tmp 52], argTypes := #[22] }, 30, "", #[], none⟩,
      ⟨some 54, .call { callee := .builtin .append, args := #[.tmp 49, .tmp 53], argTypes := #[30, 30] }, 30, "", #[], none⟩,
      ⟨some 6, .assign (.tmp 54), 30, "", #[], none⟩] false)
    .skip))
  (.seq (.region 12 #[⟨some 55, .move (.tmp 3), 30, "", #[], none⟩,
    ⟨some 56, .call { callee := .builtin .len, args := #[.tmp 55], argTypes := #[30] }, 3, "", #[], none⟩,
    ⟨some 7, .assign (.tmp 56), 3, "", #[], none⟩] false)
  (.seq (.seq (.region 13 #[⟨some 57, .move (.tmp 7), 3, "", #[], none⟩,
    ⟨some 58, .binOp .lss 3 (.tmp 57) (.const (.int .i64 128)) 3, 4, "", #[], none⟩] false)
  (.cond (.tmp 58)
    (.region 14 #[⟨some 59, .move (.tmp 6), 30, "", #[], none⟩,
      ⟨some 60, .move (.tmp 7), 3, "", #[], none⟩,
      ⟨some 61, .convert 3 5 (.tmp 60), 5, "", #[], none⟩,
      ⟨some 62, .buildSlice 30 1 #[(0, .tmp 61)], 30, "", #[], none⟩,
      ⟨some 63, .call { callee := .builtin .append, args := #[.tmp 59, .tmp 62], argTypes := #[30, 30] }, 30, "", #[], none⟩,
      ⟨some 6, .assign (.tmp 63), 30, "", #[], none⟩] false)
    (.seq (.region 15 #[⟨some 8, .assign (.const (.slice none 0 0)), 30, "", #[], none⟩] false)
    (.seq (.seq (.region 16 #[⟨some 64, .move (.tmp 7), 3, "", #[], none⟩,
      ⟨some 9, .assign (.tmp 64), 3, "", #[], none⟩] false)
    (.block 2 (.loop (.seq (.seq (.region 17 #[⟨some 65, .move (.tmp 9), 3, "", #[], none⟩,
      ⟨some 66, .binOp .gtr 3 (.tmp 65) (.const (.int .i64 0)) 3, 4, "", #[], none⟩] false)
    (.cond (.tmp 66)
      .skip
      (.exit 2)))
    (.seq (.block 3 (.region 19 #[⟨some 69, .move (.tmp 9), 3, "", #[], none⟩,
      ⟨some 70, .binOp .rem 3 (.tmp 69) (.const (.int .i64 256)) 3, 3, "", #[], none⟩,
      ⟨some 71, .convert 3 5 (.tmp 70), 5, "", #[], none⟩,
      ⟨some 72, .buildSlice 30 1 #[(0, .tmp 71)], 30, "", #[], none⟩,
      ⟨some 73, .move (.tmp 8), 30, "", #[], none⟩,
      ⟨some 74, .call { callee := .builtin .append, args := #[.tmp 72, .tmp 73], argTypes := #[30, 30] }, 30, "", #[], none⟩,
      ⟨some 8, .assign (.tmp 74), 30, "", #[], none⟩] false))
    (.region 18 #[⟨some 67, .move (.tmp 9), 3, "", #[], none⟩,
      ⟨some 68, .binOp .quo 3 (.tmp 67) (.const (.int .i64 256)) 3, 3, "", #[], none⟩,
      ⟨some 9, .assign (.tmp 68), 3, "", #[], none⟩] false))))))
    (.seq (.region 20 #[⟨some 75, .move (.tmp 6), 30, "", #[], none⟩,
      ⟨some 76, .move (.tmp 8), 30, "", #[], none⟩,
      ⟨some 77, .call { callee := .builtin .len, args := #[.tmp 76], argTypes := #[30] }, 3, "", #[], none⟩,
      ⟨some 78, .binOp .add 3 (.const (.int .i64 128)) (.tmp 77) 3, 3, "", #[], none⟩,
      ⟨some 79, .convert 3 5 (.tmp 78), 5, "", #[], none⟩,
      ⟨some 80, .buildSlice 30 1 #[(0, .tmp 79)], 30, "", #[], none⟩,
      ⟨some 81, .call { callee := .builtin .append, args := #[.tmp 75, .tmp 80], argTypes := #[30, 30] }, 30, "", #[], none⟩,
      ⟨some 6, .assign (.tmp 81), 30, "", #[], none⟩] false)
    (.region 21 #[⟨some 82, .move (.tmp 6), 30, "", #[], none⟩,
      ⟨some 83, .move (.tmp 8), 30, "", #[], none⟩,
      ⟨some 84, .call { callee := .builtin .append, args := #[.tmp 82, .tmp 83], argTypes := #[30, 30] }, 30, "", #[], none⟩,
      ⟨some 6, .assign (.tmp 84), 30, "", #[], none⟩] false))))))
  (.seq (.region 22 #[⟨some 85, .move (.tmp 6), 30, "", #[], none⟩,
    ⟨some 86, .move (.tmp 3), 30, "", #[], none⟩,
    ⟨some 87, .call { callee := .builtin .append, args := #[.tmp 85, .tmp 86], argTypes := #[30, 30] }, 30, "", #[], none⟩,
    ⟨some 2, .assign (.tmp 87), 30, "", #[], none⟩] false)
  .ret))))))))))
def fn49 : AFn := { ntmps := 88, results := [.tmp 2], body := c49, keep := fun | 0 => some [1] | 1 => some [1, 3] | 2 => some [1, 3, 4] | 3 => some [1, 3, 4, 17] | 4 => some [1, 3, 4] | 5 => some [1, 3, 4] | 6 => some [1, 3, 5] | 7 => some [1, 3, 5, 34] | 8 => some [1, 3, 5] | 9 => some [1, 3, 6] | 10 => some [1, 3, 6, 48] | 11 => some [3, 6] | 12 => some [3, 6, 7] | 13 => some [3, 6, 7, 58] | 14 => some [3, 6] | 15 => some [3, 6, 7, 8] | 16 => some [3, 6, 8, 9] | 17 => some [3, 6, 8, 9, 66] | 18 => some [3, 6, 8, 9] | 19 => some [3, 6, 8, 9] | 20 => some [3, 6, 8] | 21 => some [3, 6] | 22 => some [2] | _ => none, head := fun | 3 => some [1, 3, 4] | 17 => some [3, 6, 8, 9] | _ => none, opn := fun _ => none, dyn := fun _ => [] }
/-- vidimus/scalars.GetInt -/
def c50 : Code :=
  (.seq (.region 0 #[⟨some 2, .assign (.const (.int .i64 0)), 3, "", #[], none⟩,
    ⟨some 3, .assign (.const (.int .i64 0)), 34, "", #[], none⟩] false)
  (.seq (.block 0 (.seq (.region 1 #[⟨some 8, .move (.tmp 0), 30, "", #[], none⟩,
    ⟨some 9, .call { callee := .builtin .len, args := #[.tmp 8], argTypes := #[30] }, 3, "", #[], none⟩,
    ⟨some 10, .binOp .eql 3 (.tmp 9) (.const (.int .i64 0)) 3, 4, "", #[], none⟩,
    ⟨some 11, .move (.tmp 10), 4, "", #[], none⟩,
    ⟨some 12, .move (.tmp 0), 30, "", #[], some (11, false)⟩,
    ⟨some 13, .call { callee := .value (.func 51), args := #[.tmp 12], argTypes := #[30] }, 4, "", #[], some (11, false)⟩,
    ⟨some 14, .pick (.tmp 11) (.const (.bool true)) (.tmp 13), 4, "", #[], none⟩,
    ⟨some 7, .assign (.tmp 14), 4, "", #[], none⟩] false)
  (.cond (.tmp 7)
    (.seq (.region 2 #[⟨some 2, .assign (.const (.int .i64 0)), 3, "", #[], none⟩,
      ⟨some 3, .assign (.const (.int .i64 11)), 34, "", #[], none⟩] false)
    .ret)
    (.seq (.region 3 #[⟨some 16, .move (.tmp 0), 30, "", #[], none⟩,
      ⟨some 17, .call { callee := .builtin .len, args := #[.tmp 16], argTypes := #[30] }, 3, "", #[], none⟩,
      ⟨some 18, .binOp .gtr 3 (.tmp 17) (.const (.int .i64 8)) 3, 4, "", #[], none⟩,
      ⟨some 15, .assign (.tmp 18), 4, "", #[], none⟩] false)
    (.cond (.tmp 15)
      (.seq (.region 4 #[⟨some 2, .assign (.const (.int .i64 0)), 3, "", #[], none⟩,
        ⟨some 3, .assign (.const (.int .i64 3)), 34, "", #[], none⟩] false)
      .ret)
      .skip)))))
  (.seq (.region 5 #[⟨some 19, .move (.tmp 0), 30, "", #[], none⟩,
    ⟨some 20, .indexAddr 30 (.tmp 19) (.const (.int .i64 0)), 0, "", #[], none⟩,
    ⟨some 21, .load 5 (.tmp 20), 5, "", #[], none⟩,
    ⟨some 22, .convert 5 107 (.tmp 21), 107, "", #[], none⟩,
    ⟨some 23, .convert 107 3 (.tmp 22), 3, "", #[], none⟩,
    ⟨some 4, .assign (.tmp 23), 3, "", #[], none⟩] false)
  (.seq (.seq (.region 6 #[⟨some 24, .move (.tmp 0), 30, "", #[], none⟩,
    ⟨some 25, .slice 30 (.tmp 24) (some (.const (.int .i64 1))) none none, 30, "", #[], none⟩,
    ⟨some 26, .call { callee := .builtin .len, args := #[.tmp 25], argTypes := #[30] }, 3, "", #[], none⟩,
    ⟨some 27, .move (.const (.int .i64 0)), 3, "", #[], none⟩] false)
  (.block 1 (.loop (.seq (.region 7 #[⟨some 28, .binOp .lss 3 (.tmp 27) (.tmp 26) 3, 0, "", #[], none⟩] false)
  (.seq (.cond (.tmp 28)
    .skip
    (.exit 1))
  (.seq (.block 2 (.seq (.region 8 #[⟨some 29, .indexAddr 30 (.tmp 25) (.tmp 27), 0, "", #[], none⟩,
    ⟨some 30, .load 5 (.tmp 29), 5, "", #[], none⟩,
    ⟨some 6, .assign (.tmp 30), 5, "", #[], none⟩] false)
  (.region 9 #[⟨some 31, .move (.tmp 4), 3, "", #[], none⟩,
    ⟨some 32, .binOp .shl 3 (.tmp 31) (.const (.int .u64 8)) 108, 3, "", #[], none⟩,
    ⟨some 33, .move (.tmp 6), 5, "", #[], none⟩,
    ⟨some 34, .convert 5 3 (.tmp 33), 3, "", #[], none⟩,
    ⟨some 35, .binOp .or 3 (.tmp 32) (.tmp 34) 3, 3, "", #[], none⟩,
    ⟨some 4, .assign (.tmp 35), 3, "", #[], none⟩] false)))
  (.region 10 #[⟨some 36, .binOp .add 3 (.tmp 27) (.const (.int .i64 1)) 3, 3, "", #[], none⟩,
    ⟨some 27, .move (.tmp 36), 3, "", #[], none⟩] false)))))))
  (.seq (.region 11 #[⟨some 37, .move (.tmp 4), 3, "", #[], none⟩,
    ⟨some 2, .assign (.tmp 37), 3, "", #[], none⟩,
    ⟨some 3, .assign (.const (.int .i64 0)), 34, "", #[], none⟩] false)
  .ret)))))
def fn50 : AFn := { ntmps := 38, results := [.tmp 2, .tmp 3], body := c50, keep := fun | 0 => some [0] | 1 => some [0, 7] | 2 => some [2, 3] | 3 => some [0, 15] | 4 => some [2, 3] | 5 => some [0, 4] | 6 => some [4, 25, 26, 27] | 7 => some [4, 25, 26, 27, 28] | 8 => some [4, 6, 25, 26, 27] | 9 => some [4, 25, 26, 27] | 10 => some [4, 25, 26, 27] | 11 => some [2, 3] | _ => none, head := fun | 7 => some [4, 25, 26, 27] | _ => none, opn := fun _ => none, dyn := fun _ => [] }
/-- vidimus/scalars.superfluous -/
def c51 : Code :=
  (.seq (.region 0 #[⟨some 2, .assign (.const (.bool false)), 4, "", #[], none⟩] false)
  (.seq (.region 1 #[⟨some 3, .move (.tmp 0), 30, "", #[], none⟩,
    ⟨some 4, .call { callee := .builtin .len, args := #[.tmp 3], argTypes := #[30] }, 3, "", #[], none⟩,
    ⟨some 5, .binOp .gtr 3 (.tmp 4) (.const (.int .i64 1)) 3, 4, "", #[], none⟩,
    ⟨some 6, .move (.tmp 5), 4, "", #[], none⟩,
    ⟨some 7, .move (.tmp 0), 30, "", #[], some (6, true)⟩,
    ⟨some 8, .indexAddr 30 (.tmp 7) (.const (.int .i64 0)), 0, "", #[], some (6, true)⟩,
    ⟨some 9, .load 5 (.tmp 8), 5, "", #[], some (6, true)⟩,
    ⟨some 10, .binOp .eql 5 (.tmp 9) (.const (.int .u8 0)) 5, 4, "", #[], some (6, true)⟩,
    ⟨some 11, .move (.tmp 10), 4, "", #[], some (6, true)⟩,
    ⟨some 12, .move (.tmp 0), 30, "", #[], some (11, true)⟩,
    ⟨some 13, .indexAddr 30 (.tmp 12) (.const (.int .i64 1)), 0, "", #[], some (11, true)⟩,
    ⟨some 14, .load 5 (.tmp 13), 5, "", #[], some (11, true)⟩,
    ⟨some 15, .binOp .lss 5 (.tmp 14) (.const (.int .u8 128)) 5, 4, "", #[], some (11, true)⟩,
    ⟨some 16, .pick (.tmp 11) (.tmp 15) (.const (.bool false)), 4, "", #[], some (6, true)⟩,
    ⟨some 17, .move (.tmp 16), 4, "", #[], some (6, true)⟩,
    ⟨some 18, .move (.tmp 0), 30, "", #[], some (17, false)⟩,
    ⟨some 19, .indexAddr 30 (.tmp 18) (.const (.int .i64 0)), 0, "", #[], some (17, false)⟩,
    ⟨some 20, .load 5 (.tmp 19), 5, "", #[], some (17, false)⟩,
    ⟨some 21, .binOp .eql 5 (.tmp 20) (.const (.int .u8 255)) 5, 4, "", #[], some (17, false)⟩,
    ⟨some 22, .move (.tmp 21), 4, "", #[], some (17, false)⟩,
    ⟨some 23, .move (.tmp 0), 30, "", #[], some (22, true)⟩,
    ⟨some 24, .indexAddr 30 (.tmp 23) (.const (.int .i64 1)), 0, "", #[], some (22, true)⟩,
    ⟨some 25, .load 5 (.tmp 24), 5, "", #[], some (22, true)⟩,
    ⟨some 26, .binOp .geq 5 (.tmp 25) (.const (.int .u8 128)) 5, 4, "", #[], some (22, true)⟩,
    ⟨some 27, .pick (.tmp 22) (.tmp 26) (.const (.bool false)), 4, "", #[], some (17, false)⟩,
    ⟨some 28, .pick (.tmp 17) (.const (.bool true)) (.tmp 27), 4, "", #[], some (6, true)⟩,
    ⟨some 29, .pick (.tmp 6) (.tmp 28) (.const (.bool false)), 4, "", #[], none⟩,
    ⟨some 2, .assign (.tmp 29), 4, "", #[], none⟩] false)
  .ret))
def fn51 : AFn := { ntmps := 30, results := [.tmp 2], body := c51, keep := fun | 0 => some [0] | 1 => some [2] | _ => none, head := fun  | _ => none, opn := fun _ => none, dyn := fun _ => [] }
/-- slices.Clip[[]byte,byte] -/
def c52 : Code :=
  (.seq (.region 0 #[⟨some 2, .assign (.const (.slice none 0 0)), 30, "", #[], none⟩] false)
  (.seq (.region 1 #[⟨some 3, .move (.tmp 0), 30, "", #[], none⟩,
    ⟨some 4, .move (.tmp 0), 30, "", #[], none⟩,
    ⟨some 5, .call { callee := .builtin .len, args := #[.tmp 4], argTypes := #[30] }, 3, "", #[], none⟩,
    ⟨some 6, .move (.tmp 0), 30, "", #[], none⟩,
    ⟨some 7, .call { callee := .builtin .len, args := #[.tmp 6], argTypes := #[30] }, 3, "", #[], none⟩,
    ⟨some 8, .slice 30 (.tmp 3) none (some (.tmp 5)) (some (.tmp 7)), 30, "", #[], none⟩,
    ⟨some 2, .assign (.tmp 8), 30, "", #[], none⟩] false)
  .ret))
def fn52 : AFn := { ntmps := 9, results := [.tmp 2], body := c52, keep := fun | 0 => some [0] | 1 => some [2] | _ => none, head := fun  | _ => none, opn := fun _ => none, dyn := fun _ => [] }
/-- vidimus/elements.size -/
def c53 : Code :=
  (.seq (.region 0 #[⟨some 1, .box 33 (.tmp 0), 0, "", #[], none⟩,
    ⟨some 2, .assign (.const (.int .i64 0)), 3, "", #[], none⟩] false)
  (.seq (.region 1 #[⟨some 4, .load 33 (.tmp 1), 33, "", #[], none⟩,
    ⟨some 5, .call { callee := .value (.func 63), args := #[.tmp 4], argTypes := #[33] }, 3, "", #[], none⟩,
    ⟨some 3, .assign (.tmp 5), 3, "", #[], none⟩] false)
  (.seq (.seq (.region 2 #[⟨some 6, .move (.tmp 3), 3, "", #[], none⟩,
    ⟨some 7, .binOp .gtr 3 (.tmp 6) (.const (.int .i64 1048576)) 3, 4, "", #[], none⟩] false)
  (.cond (.tmp 7)
    (.seq (.region 3 #[⟨some 8, .move (.tmp 3), 3, "", #[], none⟩,
      ⟨some 2, .assign (.tmp 8), 3, "", #[], none⟩] false)
    .ret)
    .skip))
  (.seq (.region 4 #[⟨some 9, .fieldAddr 33 (.tmp 1) 0, 0, "", #[], none⟩,
    ⟨some 10, .load 29 (.tmp 9), 29, "", #[], none⟩,
    ⟨some 11, .call { callee := .value (.func 65), args := #[.tmp 10], argTypes := #[29] }, 3, "", #[], none⟩,
    ⟨some 12, .move (.tmp 3), 3, "", #[], none⟩,
    ⟨some 13, .call { callee := .value (.func 64), args := #[.tmp 11, .tmp 12], argTypes := #[3, 3] }, 3, "", #[], none⟩,
    ⟨some 2, .assign (.tmp 13), 3, "", #[], none⟩] false)
  .ret))))
def fn53 : AFn := { ntmps := 14, results := [.tmp 2], body := c53, keep := fun | 0 => some [1] | 1 => some [1, 3] | 2 => some [1, 3, 7] | 3 => some [2] | 4 => some [2] | _ => none, head := fun  | _ => none, opn := fun _ => none, dyn := fun _ => [] }
/-- vidimus/elements.put -/
def c54 : Code :=
  (.seq (.region 0 #[⟨some 3, .box 33 (.tmp 1), 0, "", #[], none⟩,
    ⟨some 4, .assign (.const (.slice none 0 0)), 30, "", #[], none⟩] false)
  (.seq (.region 1 #[⟨some 12, .fieldAddr 33 (.tmp 3) 0, 0, "", #[], none⟩,
    ⟨some 13, .load 29 (.tmp 12), 29, "", #[], none⟩,
    ⟨some 14, .call { callee := .value (.func 66), args := #[.tmp 13], argTypes := #[29] }, 37, "", #[], none⟩,
    ⟨some 11, .move (.tmp 14), 37, "", #[], none⟩,
    ⟨some 15, .extract (.tmp 11) 0, 30, "", #[], none⟩,
    ⟨some 16, .extract (.tmp 11) 1, 34, "", #[], none⟩,
    ⟨some 5, .assign (.tmp 15), 30, "", #[], none⟩,
    ⟨some 6, .assign (.tmp 16), 34, "", #[], none⟩] false)
  (.seq (.region 2 #[⟨some 18, .load 33 (.tmp 3), 33, "", #[], none⟩,
    ⟨some 19, .call { callee := .value (.func 63), args := #[.tmp 18], argTypes := #[33] }, 3, "", #[], none⟩,
    ⟨some 20, .call { callee := .value (.func 67), args := #[.tmp 19], argTypes := #[3] }, 37, "", #[], none⟩,
    ⟨some 17, .move (.tmp 20), 37, "", #[], none⟩,
    ⟨some 21, .extract (.tmp 17) 0, 30, "", #[], none⟩,
    ⟨some 22, .extract (.tmp 17) 1, 34, "", #[], none⟩,
    ⟨some 7, .assign (.tmp 21), 30, "", #[], none⟩,
    ⟨some 8, .assign (.tmp 22), 34, "", #[], none⟩] false)
  (.seq (.region 3 #[⟨some 23, .move (.tmp 0), 30, "", #[], none⟩,
    ⟨some 24, .move (.tmp 5), 30, "", #[], none⟩,
    ⟨some 25, .call { callee := .builtin .append, args := #[.tmp 23, .tmp 24], argTypes := #[30, 30] }, 30, "", #[], none⟩,
    ⟨some 26, .move (.tmp 7), 30, "", #[], none⟩,
    ⟨some 27, .call { callee := .builtin .append, args := #[.tmp 25, .tmp 26], argTypes := #[30, 30] }, 30, "", #[], none⟩,
    ⟨some 0, .assign (.tmp 27), 30, "", #[], none⟩] false)
  (.seq (.region 4 #[⟨some 28, .move (.tmp 0), 30, "", #[], none⟩,
    ⟨some 29, .fieldAddr 33 (.tmp 3) 1, 0, "", #[], none⟩,
    ⟨some 30, .load 30 (.tmp 29), 30, "", #[], none⟩,
    ⟨some 31, .call { callee := .builtin .append, args := #[.tmp 28, .tmp 30], argTypes := #[30, 30] }, 30, "", #[], none⟩,
    ⟨some 0, .assign (.tmp 31), 30, "", #[], none⟩] false)
  (.seq (.seq (.region 5 #[⟨some 32, .fieldAddr 33 (.tmp 3) 2, 0, "", #[], none⟩,
    ⟨some 33, .load 31 (.tmp 32), 31, "", #[], none⟩,
    ⟨some 34, .call { callee := .builtin .len, args := #[.tmp 33], argTypes := #[31] }, 3, "", #[], none⟩,
    ⟨some 35, .move (.const (.int .i64 0)), 3, "", #[], none⟩] false)
  (.block 0 (.loop (.seq (.region 6 #[⟨some 36, .binOp .lss 3 (.tmp 35) (.tmp 34) 3, 0, "", #[], none⟩] false)
  (.seq (.cond (.tmp 36)
    .skip
    (.exit 0))
  (.seq (.block 1 (.seq (.region 7 #[⟨some 37, .indexAddr 31 (.tmp 33) (.tmp 35), 0, "", #[], none⟩,
    ⟨some 38, .load 33 (.tmp 37), 33, "", #[], none⟩,
    ⟨some 10, .alloc 33, 0, "", #[], none⟩,
    ⟨none, .store 33 (.tmp 10) (.tmp 38), 0, "", #[], none⟩] false)
  (.region 8 #[⟨some 39, .move (.tmp 0), 30, "", #[], none⟩,
    ⟨some 40, .load 33 (.tmp 10), 33, "", #[], none⟩,
    ⟨some 41, .call { callee := .value (.func 54), args := #[.tmp 39, .tmp 40], argTypes := #[30, 33] }, 30, "", #[], none⟩,
    ⟨some 0, .assign (.tmp 41), 30, "", #[], none⟩] false)))
  (.region 9 #[⟨some 42, .binOp .add 3 (.tmp 35) (.const (.int .i64 1)) 3, 3, "", #[], none⟩,
    ⟨some 35, .move (.tmp 42), 3, "", #[], none⟩] false)))))))
  (.seq (.region 10 #[⟨some 43, .move (.tmp 0), 30, "", #[], none⟩,
    ⟨some 4, .assign (.tmp 43), 30, "", #[], none⟩] false)
  .ret)))))))
def fn54 : AFn := { ntmps := 44, results := [.tmp 4], body := c54, keep := fun | 0 => some [0, 3] | 1 => some [0, 3, 5] | 2 => some [0, 3, 5, 7] | 3 => some [0, 3] | 4 => some [0, 3] | 5 => some [0, 33, 34, 35] | 6 => some [0, 33, 34, 35, 36] | 7 => some [0, 10, 33, 34, 35] | 8 => some [0, 33, 34, 35] | 9 => some [0, 33, 34, 35] | 10 => some [4] | _ => none, head := fun | 6 => some [0, 33, 34, 35] | _ => none, opn := opnT, dyn := fun _ => [] }
/-- vidimus/vidimusref02.Groups -/
def c55 : Code :=
  (.seq (.region 0 #[⟨some 2, .assign (.const (.slice none 0 0)), 30, "", #[], none⟩] false)
  (.seq (.region 1 #[⟨some 4, .move (.tmp 0), 3, "", #[], none⟩,
    ⟨some 5, .binOp .rem 3 (.tmp 4) (.const (.int .i64 128)) 3, 3, "", #[], none⟩,
    ⟨some 6, .convert 3 5 (.tmp 5), 5, "", #[], none⟩,
    ⟨some 7, .buildSlice 30 1 #[(0, .tmp 6)], 30, "", #[], none⟩,
    ⟨some 3, .assign (.tmp 7), 30, "", #[], none⟩] false)
  (.seq (.seq (.region 2 #[⟨some 8, .move (.tmp 0), 3, "", #[], none⟩,
    ⟨some 9, .binOp .quo 3 (.tmp 8) (.const (.int .i64 128)) 3, 3, "", #[], none⟩,
    ⟨some 0, .assign (.tmp 9), 3, "", #[], none⟩] false)
  (.block 0 (.loop (.seq (.seq (.region 3 #[⟨some 10, .move (.tmp 0), 3, "", #[], none⟩,
    ⟨some 11, .binOp .gtr 3 (.tmp 10) (.const (.int .i64 0)) 3, 4, "", #[], none⟩] false)
  (.cond (.tmp 11)
    .skip
    (.exit 0)))
  (.seq (.block 1 (.region 5 #[⟨some 14, .move (.tmp 0), 3, "", #[], none⟩,
    ⟨some 15, .binOp .rem 3 (.tmp 14) (.const (.int .i64 128)) 3, 3, "", #[], none⟩,
    ⟨some 16, .binOp .add 3 (.const (.int .i64 128)) (.tmp 15) 3, 3, "", #[], none⟩,
    ⟨some 17, .convert 3 5 (.tmp 16), 5, "", #[], none⟩,
    ⟨some 18, .buildSlice 30 1 #[(0, .tmp 17)], 30, "", #[], none⟩,
    ⟨some 19, .move (.tmp 3), 30, "", #[], none⟩,
    ⟨some 20, .call { callee := .builtin .append, args := #[.tmp 18, .tmp 19], argTypes := #[30, 30] }, 30, "", #[], none⟩,
    ⟨some 3, .assign (.tmp 20), 30, "", #[], none⟩] false))
  (.region 4 #[⟨some 12, .move (.tmp 0), 3, "", #[], none⟩,
    ⟨some 13, .binOp .quo 3 (.tmp 12) (.const (.int .i64 128)) 3, 3, "", #[], none⟩,
    ⟨some 0, .assign (.tmp 13), 3, "", #[], none⟩] false))))))
  (.seq (.region 6 #[⟨some 21, .move (.tmp 3), 30, "", #[], none⟩,
    ⟨some 2, .assign (.tmp 21), 30, "", #[], none⟩] false)
  .ret))))
def fn55 : AFn := { ntmps := 22, results := [.tmp 2], body := c55, keep := fun | 0 => some [0] | 1 => some [0, 3] | 2 => some [0, 3] | 3 => some [0, 3, 11] | 4 => some [0, 3] | 5 => some [0, 3] | 6 => some [2] | _ => none, head := fun | 3 => some [0, 3] | _ => none, opn := fun _ => none, dyn := fun _ => [] }
/-- vidimus/elements.measure -/
def c56 : Code :=
  (.seq (.region 0 #[⟨some 1, .box 33 (.tmp 0), 0, "", #[], none⟩,
    ⟨some 2, .assign (.const (.int .i64 0)), 34, "", #[], none⟩,
    ⟨some 3, .alloc 3, 0, "", #[], none⟩,
    ⟨some 4, .alloc 3, 0, "", #[], none⟩] false)
  (.seq (.region 1 #[⟨some 5, .load 33 (.tmp 1), 33, "", #[], none⟩,
    ⟨some 6, .makeFunc (.func 69) #[] #[.tmp 3, .tmp 4], 113, "", #[], none⟩,
    ⟨some 7, .call { callee := .value (.func 68), args := #[.tmp 5, .tmp 6], argTypes := #[33, 113] }, 34, "", #[], none⟩,
    ⟨some 2, .assign (.tmp 7), 34, "", #[], none⟩] false)
  (.seq (.seq (.region 2 #[⟨some 8, .move (.tmp 2), 34, "", #[], none⟩,
    ⟨some 9, .binOp .neq 34 (.tmp 8) (.const (.int .i64 0)) 34, 4, "", #[], none⟩] false)
  (.cond (.tmp 9)
    (.seq (.region 3 #[⟨some 10, .move (.tmp 2), 34, "", #[], none⟩,
      ⟨some 2, .assign (.tmp 10), 34, "", #[], none⟩,
      ⟨none, .store 3 (.tmp 3) (.const (.int .i64 0)), 0, "", #[], none⟩,
      ⟨none, .store 3 (.tmp 4) (.const (.int .i64 0)), 0, "", #[], none⟩] false)
    .ret)
    .skip))
  (.seq (.region 4 #[⟨some 11, .load 3 (.tmp 3), 3, "", #[], none⟩,
    ⟨some 12, .load 3 (.tmp 4), 3, "", #[], none⟩,
    ⟨some 2, .assign (.const (.int .i64 0)), 34, "", #[], none⟩,
    ⟨none, .store 3 (.tmp 3) (.tmp 11), 0, "", #[], none⟩,
    ⟨none, .store 3 (.tmp 4) (.tmp 12), 0, "", #[], none⟩] true)
  .ret))))
def fn56 : AFn := { ntmps := 13, results := [.tmp 2, .cell 3 3, .cell 4 3], body := c56, keep := fun | 0 => some [1, 3, 4] | 1 => some [2, 3, 4] | 2 => some [2, 3, 4, 9] | 3 => some [2, 3, 4] | 4 => some [2, 3, 4] | _ => none, head := fun  | _ => none, opn := opnT, dyn := fun | 4 => [(1, 3)] | _ => [] }
/-- vidimus/fields.fault -/
def c57 : Code :=
  (.seq (.region 0 #[⟨some 4, .alloc 45, 0, "", #[], none⟩] false)
  (.seq (.region 1 #[⟨some 5, .move (.tmp 1), 43, "", #[], none⟩,
    ⟨some 6, .call { callee := .value (.func 71), args := #[.tmp 5], argTypes := #[43] }, 43, "", #[], none⟩,
    ⟨some 7, .move (.tmp 0), 34, "", #[], none⟩,
    ⟨some 8, .build 45 #[(0, .tmp 6), (1, .tmp 7)], 45, "", #[], none⟩,
    ⟨none, .store 45 (.tmp 4) (.tmp 8), 0, "", #[], none⟩] false)
  .ret))
def fn57 : AFn := { ntmps := 9, results := [.cell 4 45], body := c57, keep := fun | 0 => some [0, 1, 4] | 1 => some [4] | _ => none, head := fun  | _ => none, opn := fun _ => none, dyn := fun _ => [] }
/-- (vidimus/fields.Field).matches -/
def c58 : Code :=
  (.seq (.region 0 #[⟨some 2, .box 80 (.tmp 0), 0, "", #[], none⟩,
    ⟨some 3, .box 33 (.tmp 1), 0, "", #[], none⟩,
    ⟨some 4, .assign (.const (.bool false)), 4, "", #[], none⟩] false)
  (.seq (.region 1 #[⟨some 5, .fieldAddr 80 (.tmp 2) 1, 0, "", #[], none⟩,
    ⟨some 6, .load 4 (.tmp 5), 4, "", #[], none⟩,
    ⟨some 7, .move (.tmp 6), 4, "", #[], none⟩,
    ⟨some 8, .fieldAddr 80 (.tmp 2) 0, 0, "", #[], some (7, false)⟩,
    ⟨some 9, .load 29 (.tmp 8), 29, "", #[], some (7, false)⟩,
    ⟨some 10, .fieldAddr 33 (.tmp 3) 0, 0, "", #[], some (7, false)⟩,
    ⟨some 11, .load 29 (.tmp 10), 29, "", #[], some (7, false)⟩,
    ⟨some 12, .binOp .eql 29 (.tmp 9) (.tmp 11) 29, 4, "", #[], some (7, false)⟩,
    ⟨some 13, .pick (.tmp 7) (.const (.bool true)) (.tmp 12), 4, "", #[], none⟩,
    ⟨some 4, .assign (.tmp 13), 4, "", #[], none⟩] false)
  .ret))
def fn58 : AFn := { ntmps := 14, results := [.tmp 4], body := c58, keep := fun | 0 => some [2, 3] | 1 => some [4] | _ => none, head := fun  | _ => none, opn := fun _ => none, dyn := fun _ => [] }
/-- vidimus/fields.Report -/
def c59 : Code :=
  (.seq (.region 0 #[⟨some 2, .box 33 (.tmp 0), 0, "", #[], none⟩,
    ⟨some 3, .box 45 (.tmp 1), 0, "", #[], none⟩,
    ⟨some 4, .assign (.const (.int .i64 0)), 3, "", #[], none⟩,
    ⟨some 5, .assign (.const (.int .i64 0)), 34, "", #[], none⟩] false)
  (.seq (.seq (.region 1 #[⟨some 8, .fieldAddr 45 (.tmp 3) 1, 0, "", #[], none⟩,
    ⟨some 9, .load 34 (.tmp 8), 34, "", #[], none⟩,
    ⟨some 10, .binOp .eql 34 (.tmp 9) (.const (.int .i64 0)) 34, 4, "", #[], none⟩] false)
  (.cond (.tmp 10)
    (.seq (.region 2 #[⟨some 4, .assign (.const (.int .i64 0)), 3, "", #[], none⟩,
      ⟨some 5, .assign (.const (.int .i64 0)), 34, "", #[], none⟩] false)
    .ret)
    .skip))
  (.seq (.region 3 #[⟨some 12, .load 33 (.tmp 2), 33, "", #[], none⟩,
    ⟨some 13, .fieldAddr 45 (.tmp 3) 0, 0, "", #[], none⟩,
    ⟨some 14, .load 43 (.tmp 13), 43, "", #[], none⟩,
    ⟨some 15, .call { callee := .value (.func 72), args := #[.tmp 12, .tmp 14], argTypes := #[33, 43] }, 62, "", #[], none⟩,
    ⟨some 11, .move (.tmp 15), 62, "", #[], none⟩,
    ⟨some 16, .extract (.tmp 11) 0, 3, "", #[], none⟩,
    ⟨some 17, .extract (.tmp 11) 1, 34, "", #[], none⟩,
    ⟨some 6, .assign (.tmp 16), 3, "", #[], none⟩,
    ⟨some 7, .assign (.tmp 17), 34, "", #[], none⟩] false)
  (.seq (.region 4 #[⟨some 18, .move (.tmp 6), 3, "", #[], none⟩,
    ⟨some 19, .fieldAddr 45 (.tmp 3) 1, 0, "", #[], none⟩,
    ⟨some 20, .load 34 (.tmp 19), 34, "", #[], none⟩,
    ⟨some 4, .assign (.tmp 18), 3, "", #[], none⟩,
    ⟨some 5, .assign (.tmp 20), 34, "", #[], none⟩] true)
  .ret))))
def fn59 : AFn := { ntmps := 21, results := [.tmp 4, .tmp 5], body := c59, keep := fun | 0 => some [2, 3] | 1 => some [2, 3, 10] | 2 => some [4, 5] | 3 => some [3, 6] | 4 => some [4, 5] | _ => none, head := fun  | _ => none, opn := fun _ => none, dyn := fun _ => [] }
/-- vidimus/elements.Next$1 -/
def c60 : Code :=
  (.seq (.region 0 #[⟨some 7, .call { callee := .builtin .recover, args := #[], argTypes := #[] }, 20, "", #[], none⟩,
    ⟨some 4, .assign (.tmp 7), 20, "", #[], none⟩] false)
  (.seq (.region 1 #[⟨some 8, .move (.tmp 4), 20, "", #[], none⟩,
    ⟨some 9, .binOp .neq 20 (.tmp 8) (.const .nilIface) 20, 4, "", #[], none⟩] false)
  (.cond (.tmp 9)
    (.seq (.region 2 #[⟨some 11, .move (.tmp 4), 20, "", #[], none⟩,
      ⟨some 12, .typeAssert (.tmp 11) 20 101 true, 102, "", #[], none⟩,
      ⟨some 10, .move (.tmp 12), 102, "", #[], none⟩,
      ⟨some 13, .extract (.tmp 10) 0, 101, "", #[], none⟩,
      ⟨some 14, .extract (.tmp 10) 1, 4, "", #[], none⟩,
      ⟨some 5, .alloc 101, 0, "", #[], none⟩,
      ⟨none, .store 101 (.tmp 5) (.tmp 13), 0, "", #[], none⟩,
      ⟨some 6, .assign (.tmp 14), 4, "", #[], none⟩] false)
    (.seq (.seq (.region 3 #[⟨some 15, .move (.tmp 6), 4, "", #[], none⟩,
      ⟨some 16, .unOp .not 4 (.tmp 15), 4, "", #[], none⟩] false)
    (.cond (.tmp 16)
      (.region 4 #[⟨some 17, .move (.tmp 4), 20, "", #[], none⟩,
        ⟨none, .panic (.tmp 17), 0, "", #[], none⟩] false)
      .skip))
    (.region 5 #[⟨some 18, .build 33 #[], 33, "", #[], none⟩,
      ⟨some 19, .fieldAddr 101 (.tmp 5) 0, 0, "", #[], none⟩,
      ⟨some 20, .load 3 (.tmp 19), 3, "", #[], none⟩,
      ⟨some 21, .fieldAddr 101 (.tmp 5) 1, 0, "", #[], none⟩,
      ⟨some 22, .load 34 (.tmp 21), 34, "", #[], none⟩,
      ⟨none, .store 33 (.tmp 0) (.tmp 18), 0, "", #[], none⟩,
      ⟨none, .store 3 (.tmp 1) (.const (.int .i64 0)), 0, "", #[], none⟩,
      ⟨none, .store 3 (.tmp 2) (.tmp 20), 0, "", #[], none⟩,
      ⟨none, .store 34 (.tmp 3) (.tmp 22), 0, "", #[], none⟩] true)))
    .skip)))
def fn60 : AFn := { ntmps := 23, results := [], body := c60, keep := fun | 0 => some [0, 1, 2, 3, 4] | 1 => some [0, 1, 2, 3, 4, 9] | 2 => some [0, 1, 2, 3, 4, 5, 6] | 3 => some [0, 1, 2, 3, 4, 5, 16] | 4 => some [0, 1, 2, 3, 5] | 5 => some [] | _ => none, head := fun  | _ => none, opn := fun _ => none, dyn := fun | 5 => [(2, 5), (4, 5), (2, 6), (4, 6), (4, 7)] | _ => [] }
end TabC
