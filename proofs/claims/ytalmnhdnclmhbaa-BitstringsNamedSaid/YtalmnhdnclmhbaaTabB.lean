/- The tables of this translation for the evaluator: written by gen2.py. No conditions. -/
import Derived.Test.YtalmnhdnclmhbaaB2
set_option linter.unusedVariables false
set_option maxRecDepth 100000
namespace TabB
open Go Ab

def opnT : FuncId → Option (List Bool × Bool)
  | _ => none

/-- vidimus/vidimuslaw03.LengthsPut -/
def c3 : Code :=
  (.seq (.region 0 #[⟨some 2, .assign (.const (.bool false)), 4, "", #[], none⟩] false)
  (.seq (.region 1 #[⟨some 7, .move (.tmp 0), 3, "", #[], none⟩,
    ⟨some 8, .call { callee := .value (.func 13), args := #[.tmp 7], argTypes := #[3] }, 24, "", #[], none⟩,
    ⟨some 6, .move (.tmp 8), 24, "", #[], none⟩,
    ⟨some 9, .extract (.tmp 6) 0, 22, "", #[], none⟩,
    ⟨some 10, .extract (.tmp 6) 1, 23, "", #[], none⟩,
    ⟨some 3, .assign (.tmp 9), 22, "", #[], none⟩,
    ⟨some 4, .assign (.tmp 10), 23, "", #[], none⟩] false)
  (.seq (.block 0 (.seq (.region 2 #[⟨some 12, .move (.tmp 0), 3, "", #[], none⟩,
    ⟨some 13, .binOp .lss 3 (.tmp 12) (.const (.int .i64 0)) 3, 4, "", #[], none⟩,
    ⟨some 11, .assign (.tmp 13), 4, "", #[], none⟩] false)
  (.cond (.tmp 11)
    (.seq (.region 3 #[⟨some 14, .move (.tmp 3), 22, "", #[], none⟩,
      ⟨some 15, .move (.tmp 4), 23, "", #[], none⟩,
      ⟨some 16, .call { callee := .value (.func 14), args := #[.tmp 14, .tmp 15, .const (.slice none 0 0), .const (.int .i64 1)], argTypes := #[22, 23, 22, 3] }, 4, "", #[], none⟩,
      ⟨some 17, .move (.tmp 16), 4, "", #[], none⟩,
      ⟨some 18, .move (.tmp 0), 3, "", #[], some (17, true)⟩,
      ⟨some 19, .call { callee := .value (.func 15), args := #[.tmp 18], argTypes := #[3] }, 3, "", #[], some (17, true)⟩,
      ⟨some 20, .binOp .eql 3 (.tmp 19) (.const (.int .i64 0)) 3, 4, "", #[], some (17, true)⟩,
      ⟨some 21, .pick (.tmp 17) (.tmp 20) (.const (.bool false)), 4, "", #[], none⟩,
      ⟨some 22, .move (.tmp 21), 4, "", #[], none⟩,
      ⟨some 23, .call { callee := .value (.func 16), args := #[], argTypes := #[] }, 4, "", #[], some (22, true)⟩,
      ⟨some 24, .pick (.tmp 22) (.tmp 23) (.const (.bool false)), 4, "", #[], none⟩,
      ⟨some 2, .assign (.tmp 24), 4, "", #[], none⟩] false)
    .ret)
    (.seq (.region 4 #[⟨some 26, .move (.tmp 0), 3, "", #[], none⟩,
      ⟨some 27, .binOp .gtr 3 (.tmp 26) (.const (.int .i64 16777215)) 3, 4, "", #[], none⟩,
      ⟨some 25, .assign (.tmp 27), 4, "", #[], none⟩] false)
    (.cond (.tmp 25)
      (.seq (.region 5 #[⟨some 28, .move (.tmp 3), 22, "", #[], none⟩,
        ⟨some 29, .move (.tmp 4), 23, "", #[], none⟩,
        ⟨some 30, .call { callee := .value (.func 14), args := #[.tmp 28, .tmp 29, .const (.slice none 0 0), .const (.int .i64 3)], argTypes := #[22, 23, 22, 3] }, 4, "", #[], none⟩,
        ⟨some 31, .move (.tmp 30), 4, "", #[], none⟩,
        ⟨some 32, .move (.tmp 0), 3, "", #[], some (31, true)⟩,
        ⟨some 33, .call { callee := .value (.func 15), args := #[.tmp 32], argTypes := #[3] }, 3, "", #[], some (31, true)⟩,
        ⟨some 34, .binOp .eql 3 (.tmp 33) (.const (.int .i64 0)) 3, 4, "", #[], some (31, true)⟩,
        ⟨some 35, .pick (.tmp 31) (.tmp 34) (.const (.bool false)), 4, "", #[], none⟩,
        ⟨some 36, .move (.tmp 35), 4, "", #[], none⟩,
        ⟨some 37, .call { callee := .value (.func 16), args := #[], argTypes := #[] }, 4, "", #[], some (36, true)⟩,
        ⟨some 38, .pick (.tmp 36) (.tmp 37) (.const (.bool false)), 4, "", #[], none⟩,
        ⟨some 2, .assign (.tmp 38), 4, "", #[], none⟩] false)
      .ret)
      .skip)))))
  (.seq (.region 6 #[⟨some 39, .move (.tmp 0), 3, "", #[], none⟩,
    ⟨some 40, .call { callee := .value (.func 17), args := #[.tmp 39], argTypes := #[3] }, 22, "", #[], none⟩,
    ⟨some 5, .assign (.tmp 40), 22, "", #[], none⟩] false)
  (.seq (.region 7 #[⟨some 41, .move (.tmp 3), 22, "", #[], none⟩,
    ⟨some 42, .move (.tmp 4), 23, "", #[], none⟩,
    ⟨some 43, .move (.tmp 5), 22, "", #[], none⟩,
    ⟨some 44, .call { callee := .value (.func 14), args := #[.tmp 41, .tmp 42, .tmp 43, .const (.int .i64 0)], argTypes := #[22, 23, 22, 3] }, 4, "", #[], none⟩,
    ⟨some 45, .move (.tmp 44), 4, "", #[], none⟩,
    ⟨some 46, .move (.tmp 0), 3, "", #[], some (45, true)⟩,
    ⟨some 47, .call { callee := .value (.func 15), args := #[.tmp 46], argTypes := #[3] }, 3, "", #[], some (45, true)⟩,
    ⟨some 48, .move (.tmp 5), 22, "", #[], some (45, true)⟩,
    ⟨some 49, .call { callee := .builtin .len, args := #[.tmp 48], argTypes := #[22] }, 3, "", #[], some (45, true)⟩,
    ⟨some 50, .binOp .eql 3 (.tmp 47) (.tmp 49) 3, 4, "", #[], some (45, true)⟩,
    ⟨some 51, .pick (.tmp 45) (.tmp 50) (.const (.bool false)), 4, "", #[], none⟩,
    ⟨some 52, .move (.tmp 51), 4, "", #[], none⟩,
    ⟨some 53, .call { callee := .value (.func 16), args := #[], argTypes := #[] }, 4, "", #[], some (52, true)⟩,
    ⟨some 54, .pick (.tmp 52) (.tmp 53) (.const (.bool false)), 4, "", #[], none⟩,
    ⟨some 2, .assign (.tmp 54), 4, "", #[], none⟩] false)
  .ret)))))
def fn3 : AFn := { ntmps := 55, results := [.tmp 2], body := c3, keep := fun | 0 => some [0] | 1 => some [0, 3, 4] | 2 => some [0, 3, 4, 11] | 3 => some [2] | 4 => some [0, 3, 4, 25] | 5 => some [2] | 6 => some [0, 3, 4, 5] | 7 => some [2] | _ => none, head := fun  | _ => none, opn := fun _ => none, dyn := fun _ => [] }
/-- vidimus/vidimuslaw03.LengthsBack -/
def c4 : Code :=
  (.seq (.region 0 #[⟨some 6, .assign (.const (.bool false)), 4, "", #[], none⟩] false)
  (.seq (.seq (.region 1 #[⟨some 10, .move (.tmp 1), 22, "", #[], none⟩,
    ⟨some 11, .call { callee := .builtin .len, args := #[.tmp 10], argTypes := #[22] }, 3, "", #[], none⟩,
    ⟨some 12, .binOp .gtr 3 (.tmp 11) (.const (.int .i64 10)) 3, 4, "", #[], none⟩] false)
  (.cond (.tmp 12)
    (.seq (.region 2 #[⟨some 13, .call { callee := .value (.func 16), args := #[], argTypes := #[] }, 4, "", #[], none⟩,
      ⟨some 6, .assign (.tmp 13), 4, "", #[], none⟩] false)
    .ret)
    .skip))
  (.seq (.region 3 #[⟨some 14, .move (.tmp 0), 31, "", #[], none⟩,
    ⟨some 15, .binOp .rem 31 (.tmp 14) (.const (.int .u32 16777216)) 31, 31, "", #[], none⟩,
    ⟨some 16, .convert 31 3 (.tmp 15), 3, "", #[], none⟩,
    ⟨some 7, .assign (.tmp 16), 3, "", #[], none⟩] false)
  (.seq (.region 4 #[⟨some 18, .move (.tmp 7), 3, "", #[], none⟩,
    ⟨some 19, .call { callee := .value (.func 13), args := #[.tmp 18], argTypes := #[3] }, 24, "", #[], none⟩,
    ⟨some 17, .move (.tmp 19), 24, "", #[], none⟩,
    ⟨some 20, .extract (.tmp 17) 0, 22, "", #[], none⟩,
    ⟨some 21, .extract (.tmp 17) 1, 23, "", #[], none⟩,
    ⟨some 8, .assign (.tmp 20), 22, "", #[], none⟩,
    ⟨some 9, .assign (.tmp 21), 23, "", #[], none⟩] false)
  (.seq (.seq (.region 5 #[⟨some 22, .move (.tmp 9), 23, "", #[], none⟩,
    ⟨some 23, .binOp .neq 23 (.tmp 22) (.const (.int .i64 0)) 23, 4, "", #[], none⟩,
    ⟨some 24, .move (.tmp 23), 4, "", #[], none⟩,
    ⟨some 25, .move (.tmp 8), 22, "", #[], some (24, false)⟩,
    ⟨some 26, .call { callee := .builtin .len, args := #[.tmp 25], argTypes := #[22] }, 3, "", #[], some (24, false)⟩,
    ⟨some 27, .binOp .eql 3 (.tmp 26) (.const (.int .i64 0)) 3, 4, "", #[], some (24, false)⟩,
    ⟨some 28, .pick (.tmp 24) (.const (.bool true)) (.tmp 27), 4, "", #[], none⟩,
    ⟨some 29, .move (.tmp 28), 4, "", #[], none⟩,
    ⟨some 30, .move (.tmp 8), 22, "", #[], some (29, false)⟩,
    ⟨some 31, .call { callee := .builtin .len, args := #[.tmp 30], argTypes := #[22] }, 3, "", #[], some (29, false)⟩,
    ⟨some 32, .binOp .gtr 3 (.tmp 31) (.const (.int .i64 4)) 3, 4, "", #[], some (29, false)⟩,
    ⟨some 33, .pick (.tmp 29) (.const (.bool true)) (.tmp 32), 4, "", #[], none⟩,
    ⟨some 34, .move (.tmp 33), 4, "", #[], none⟩,
    ⟨some 35, .buildSlice 22 0 #[], 22, "", #[], some (34, false)⟩,
    ⟨some 36, .move (.tmp 8), 22, "", #[], some (34, false)⟩,
    ⟨some 37, .call { callee := .builtin .append, args := #[.tmp 35, .tmp 36], argTypes := #[22, 22] }, 22, "", #[], some (34, false)⟩,
    ⟨some 38, .move (.tmp 1), 22, "", #[], some (34, false)⟩,
    ⟨some 39, .call { callee := .builtin .append, args := #[.tmp 37, .tmp 38], argTypes := #[22, 22] }, 22, "", #[], some (34, false)⟩,
    ⟨some 40, .move (.tmp 7), 3, "", #[], some (34, false)⟩,
    ⟨some 41, .move (.tmp 8), 22, "", #[], some (34, false)⟩,
    ⟨some 42, .call { callee := .builtin .len, args := #[.tmp 41], argTypes := #[22] }, 3, "", #[], some (34, false)⟩,
    ⟨some 43, .call { callee := .value (.func 18), args := #[.tmp 39, .tmp 40, .tmp 42, .const (.int .i64 0)], argTypes := #[22, 3, 3, 3] }, 4, "", #[], some (34, false)⟩,
    ⟨some 44, .unOp .not 4 (.tmp 43), 4, "", #[], some (34, false)⟩,
    ⟨some 45, .pick (.tmp 34) (.const (.bool true)) (.tmp 44), 4, "", #[], none⟩] false)
  (.cond (.tmp 45)
    (.seq (.region 6 #[⟨some 6, .assign (.const (.bool false)), 4, "", #[], none⟩] false)
    .ret)
    .skip))
  (.seq (.region 7 #[⟨some 46, .move (.tmp 8), 22, "", #[], none⟩,
    ⟨some 47, .move (.tmp 2), 5, "", #[], none⟩,
    ⟨some 48, .convert 5 3 (.tmp 47), 3, "", #[], none⟩,
    ⟨some 49, .move (.tmp 8), 22, "", #[], none⟩,
    ⟨some 50, .call { callee := .builtin .len, args := #[.tmp 49], argTypes := #[22] }, 3, "", #[], none⟩,
    ⟨some 51, .binOp .rem 3 (.tmp 48) (.tmp 50) 3, 3, "", #[], none⟩,
    ⟨some 52, .slice 22 (.tmp 46) none (some (.tmp 51)) none, 22, "", #[], none⟩,
    ⟨some 53, .call { callee := .value (.func 18), args := #[.tmp 52, .const (.int .i64 0), .const (.int .i64 0), .const (.int .i64 7)], argTypes := #[22, 3, 3, 3] }, 4, "", #[], none⟩,
    ⟨some 54, .move (.tmp 53), 4, "", #[], none⟩,
    ⟨some 55, .call { callee := .value (.func 16), args := #[], argTypes := #[] }, 4, "", #[], some (54, true)⟩,
    ⟨some 56, .pick (.tmp 54) (.tmp 55) (.const (.bool false)), 4, "", #[], none⟩,
    ⟨some 6, .assign (.tmp 56), 4, "", #[], none⟩] false)
  .ret))))))
def fn4 : AFn := { ntmps := 57, results := [.tmp 6], body := c4, keep := fun | 0 => some [0, 1, 2] | 1 => some [0, 1, 2, 12] | 2 => some [6] | 3 => some [1, 2, 7] | 4 => some [1, 2, 7, 8, 9] | 5 => some [2, 8, 45] | 6 => some [6] | 7 => some [6] | _ => none, head := fun  | _ => none, opn := fun _ => none, dyn := fun _ => [] }
/-- vidimus/vidimuslaw03.LengthsGet -/
def c5 : Code :=
  (.seq (.region 0 #[⟨some 2, .assign (.const (.bool false)), 4, "", #[], none⟩] false)
  (.seq (.seq (.region 1 #[⟨some 8, .move (.tmp 0), 22, "", #[], none⟩,
    ⟨some 9, .call { callee := .builtin .len, args := #[.tmp 8], argTypes := #[22] }, 3, "", #[], none⟩,
    ⟨some 10, .binOp .gtr 3 (.tmp 9) (.const (.int .i64 10)) 3, 4, "", #[], none⟩] false)
  (.cond (.tmp 10)
    (.seq (.region 2 #[⟨some 11, .call { callee := .value (.func 16), args := #[], argTypes := #[] }, 4, "", #[], none⟩,
      ⟨some 2, .assign (.tmp 11), 4, "", #[], none⟩] false)
    .ret)
    .skip))
  (.seq (.region 3 #[⟨some 13, .move (.tmp 0), 22, "", #[], none⟩,
    ⟨some 14, .call { callee := .value (.func 19), args := #[.tmp 13], argTypes := #[22] }, 34, "", #[], none⟩,
    ⟨some 12, .move (.tmp 14), 34, "", #[], none⟩,
    ⟨some 15, .extract (.tmp 12) 0, 3, "", #[], none⟩,
    ⟨some 16, .extract (.tmp 12) 1, 3, "", #[], none⟩,
    ⟨some 17, .extract (.tmp 12) 2, 3, "", #[], none⟩,
    ⟨some 3, .assign (.tmp 15), 3, "", #[], none⟩,
    ⟨some 4, .assign (.tmp 16), 3, "", #[], none⟩,
    ⟨some 5, .assign (.tmp 17), 3, "", #[], none⟩] false)
  (.seq (.seq (.region 4 #[⟨some 18, .move (.tmp 0), 22, "", #[], none⟩,
    ⟨some 19, .move (.tmp 3), 3, "", #[], none⟩,
    ⟨some 20, .move (.tmp 4), 3, "", #[], none⟩,
    ⟨some 21, .move (.tmp 5), 3, "", #[], none⟩,
    ⟨some 22, .call { callee := .value (.func 18), args := #[.tmp 18, .tmp 19, .tmp 20, .tmp 21], argTypes := #[22, 3, 3, 3] }, 4, "", #[], none⟩,
    ⟨some 23, .unOp .not 4 (.tmp 22), 4, "", #[], none⟩] false)
  (.cond (.tmp 23)
    (.seq (.region 5 #[⟨some 2, .assign (.const (.bool false)), 4, "", #[], none⟩] false)
    .ret)
    .skip))
  (.seq (.seq (.region 6 #[⟨some 24, .move (.tmp 5), 3, "", #[], none⟩,
    ⟨some 25, .binOp .neq 3 (.tmp 24) (.const (.int .i64 0)) 3, 4, "", #[], none⟩] false)
  (.cond (.tmp 25)
    (.seq (.region 7 #[⟨some 26, .call { callee := .value (.func 16), args := #[], argTypes := #[] }, 4, "", #[], none⟩,
      ⟨some 2, .assign (.tmp 26), 4, "", #[], none⟩] false)
    .ret)
    .skip))
  (.seq (.region 8 #[⟨some 28, .move (.tmp 3), 3, "", #[], none⟩,
    ⟨some 29, .call { callee := .value (.func 13), args := #[.tmp 28], argTypes := #[3] }, 24, "", #[], none⟩,
    ⟨some 27, .move (.tmp 29), 24, "", #[], none⟩,
    ⟨some 30, .extract (.tmp 27) 0, 22, "", #[], none⟩,
    ⟨some 31, .extract (.tmp 27) 1, 23, "", #[], none⟩,
    ⟨some 6, .assign (.tmp 30), 22, "", #[], none⟩,
    ⟨some 7, .assign (.tmp 31), 23, "", #[], none⟩] false)
  (.seq (.region 9 #[⟨some 32, .move (.tmp 6), 22, "", #[], none⟩,
    ⟨some 33, .move (.tmp 7), 23, "", #[], none⟩,
    ⟨some 34, .move (.tmp 0), 22, "", #[], none⟩,
    ⟨some 35, .move (.tmp 4), 3, "", #[], none⟩,
    ⟨some 36, .slice 22 (.tmp 34) none (some (.tmp 35)) none, 22, "", #[], none⟩,
    ⟨some 37, .call { callee := .value (.func 14), args := #[.tmp 32, .tmp 33, .tmp 36, .const (.int .i64 0)], argTypes := #[22, 23, 22, 3] }, 4, "", #[], none⟩,
    ⟨some 38, .move (.tmp 37), 4, "", #[], none⟩,
    ⟨some 39, .call { callee := .value (.func 16), args := #[], argTypes := #[] }, 4, "", #[], some (38, true)⟩,
    ⟨some 40, .pick (.tmp 38) (.tmp 39) (.const (.bool false)), 4, "", #[], none⟩,
    ⟨some 2, .assign (.tmp 40), 4, "", #[], none⟩] false)
  .ret)))))))
def fn5 : AFn := { ntmps := 41, results := [.tmp 2], body := c5, keep := fun | 0 => some [0] | 1 => some [0, 10] | 2 => some [2] | 3 => some [0, 3, 4, 5] | 4 => some [0, 3, 4, 5, 23] | 5 => some [2] | 6 => some [0, 3, 4, 25] | 7 => some [2] | 8 => some [0, 4, 6, 7] | 9 => some [2] | _ => none, head := fun  | _ => none, opn := fun _ => none, dyn := fun _ => [] }
/-- vidimus/vidimuslaw03.LengthsOrder -/
def c6 : Code :=
  (.seq (.region 0 #[⟨some 6, .assign (.const (.bool false)), 4, "", #[], none⟩] false)
  (.seq (.region 1 #[⟨some 11, .move (.tmp 0), 31, "", #[], none⟩,
    ⟨some 12, .binOp .rem 31 (.tmp 11) (.const (.int .u32 16777216)) 31, 31, "", #[], none⟩,
    ⟨some 13, .convert 31 3 (.tmp 12), 3, "", #[], none⟩,
    ⟨some 14, .move (.tmp 1), 31, "", #[], none⟩,
    ⟨some 15, .binOp .rem 31 (.tmp 14) (.const (.int .u32 16777216)) 31, 31, "", #[], none⟩,
    ⟨some 16, .convert 31 3 (.tmp 15), 3, "", #[], none⟩,
    ⟨some 7, .assign (.tmp 13), 3, "", #[], none⟩,
    ⟨some 8, .assign (.tmp 16), 3, "", #[], none⟩] false)
  (.seq (.seq (.region 2 #[⟨some 17, .move (.tmp 7), 3, "", #[], none⟩,
    ⟨some 18, .move (.tmp 8), 3, "", #[], none⟩,
    ⟨some 19, .binOp .gtr 3 (.tmp 17) (.tmp 18) 3, 4, "", #[], none⟩] false)
  (.cond (.tmp 19)
    (.region 3 #[⟨some 20, .move (.tmp 8), 3, "", #[], none⟩,
      ⟨some 21, .move (.tmp 7), 3, "", #[], none⟩,
      ⟨some 7, .assign (.tmp 20), 3, "", #[], none⟩,
      ⟨some 8, .assign (.tmp 21), 3, "", #[], none⟩] false)
    .skip))
  (.seq (.region 4 #[⟨some 22, .move (.tmp 2), 3, "", #[], none⟩,
    ⟨some 23, .move (.tmp 7), 3, "", #[], none⟩,
    ⟨some 24, .call { callee := .value (.func 20), args := #[.tmp 22, .tmp 23], argTypes := #[3, 3] }, 3, "", #[], none⟩,
    ⟨some 25, .move (.tmp 2), 3, "", #[], none⟩,
    ⟨some 26, .move (.tmp 8), 3, "", #[], none⟩,
    ⟨some 27, .call { callee := .value (.func 20), args := #[.tmp 25, .tmp 26], argTypes := #[3, 3] }, 3, "", #[], none⟩,
    ⟨some 9, .assign (.tmp 24), 3, "", #[], none⟩,
    ⟨some 10, .assign (.tmp 27), 3, "", #[], none⟩] false)
  (.seq (.seq (.region 5 #[⟨some 28, .move (.tmp 2), 3, "", #[], none⟩,
    ⟨some 29, .binOp .lss 3 (.tmp 28) (.const (.int .i64 1)) 3, 4, "", #[], none⟩,
    ⟨some 30, .move (.tmp 29), 4, "", #[], none⟩,
    ⟨some 31, .move (.tmp 2), 3, "", #[], some (30, false)⟩,
    ⟨some 32, .binOp .gtr 3 (.tmp 31) (.const (.int .i64 5)) 3, 4, "", #[], some (30, false)⟩,
    ⟨some 33, .pick (.tmp 30) (.const (.bool true)) (.tmp 32), 4, "", #[], none⟩] false)
  (.cond (.tmp 33)
    (.seq (.region 6 #[⟨some 34, .move (.tmp 9), 3, "", #[], none⟩,
      ⟨some 35, .binOp .eql 3 (.tmp 34) (.const (.int .i64 0)) 3, 4, "", #[], none⟩,
      ⟨some 36, .move (.tmp 35), 4, "", #[], none⟩,
      ⟨some 37, .move (.tmp 10), 3, "", #[], some (36, true)⟩,
      ⟨some 38, .binOp .eql 3 (.tmp 37) (.const (.int .i64 0)) 3, 4, "", #[], some (36, true)⟩,
      ⟨some 39, .pick (.tmp 36) (.tmp 38) (.const (.bool false)), 4, "", #[], none⟩,
      ⟨some 40, .move (.tmp 39), 4, "", #[], none⟩,
      ⟨some 41, .call { callee := .value (.func 16), args := #[], argTypes := #[] }, 4, "", #[], some (40, true)⟩,
      ⟨some 42, .pick (.tmp 40) (.tmp 41) (.const (.bool false)), 4, "", #[], none⟩,
      ⟨some 6, .assign (.tmp 42), 4, "", #[], none⟩] false)
    .ret)
    .skip))
  (.seq (.region 7 #[⟨some 43, .move (.tmp 7), 3, "", #[], none⟩,
    ⟨some 44, .call { callee := .value (.func 15), args := #[.tmp 43], argTypes := #[3] }, 3, "", #[], none⟩,
    ⟨some 45, .move (.tmp 8), 3, "", #[], none⟩,
    ⟨some 46, .call { callee := .value (.func 15), args := #[.tmp 45], argTypes := #[3] }, 3, "", #[], none⟩,
    ⟨some 47, .binOp .leq 3 (.tmp 44) (.tmp 46) 3, 4, "", #[], none⟩,
    ⟨some 48, .move (.tmp 47), 4, "", #[], none⟩,
    ⟨some 49, .move (.tmp 9), 3, "", #[], some (48, true)⟩,
    ⟨some 50, .move (.tmp 2), 3, "", #[], some (48, true)⟩,
    ⟨some 51, .move (.tmp 7), 3, "", #[], some (48, true)⟩,
    ⟨some 52, .call { callee := .value (.func 15), args := #[.tmp 51], argTypes := #[3] }, 3, "", #[], some (48, true)⟩,
    ⟨some 53, .binOp .add 3 (.tmp 50) (.tmp 52) 3, 3, "", #[], some (48, true)⟩,
    ⟨some 54, .move (.tmp 7), 3, "", #[], some (48, true)⟩,
    ⟨some 55, .binOp .add 3 (.tmp 53) (.tmp 54) 3, 3, "", #[], some (48, true)⟩,
    ⟨some 56, .binOp .eql 3 (.tmp 49) (.tmp 55) 3, 4, "", #[], some (48, true)⟩,
    ⟨some 57, .pick (.tmp 48) (.tmp 56) (.const (.bool false)), 4, "", #[], none⟩,
    ⟨some 58, .move (.tmp 57), 4, "", #[], none⟩,
    ⟨some 59, .move (.tmp 7), 3, "", #[], some (58, true)⟩,
    ⟨some 60, .move (.tmp 8), 3, "", #[], some (58, true)⟩,
    ⟨some 61, .binOp .eql 3 (.tmp 59) (.tmp 60) 3, 4, "", #[], some (58, true)⟩,
    ⟨some 62, .move (.tmp 9), 3, "", #[], some (58, true)⟩,
    ⟨some 63, .move (.tmp 10), 3, "", #[], some (58, true)⟩,
    ⟨some 64, .binOp .eql 3 (.tmp 62) (.tmp 63) 3, 4, "", #[], some (58, true)⟩,
    ⟨some 65, .binOp .eql 4 (.tmp 61) (.tmp 64) 4, 4, "", #[], some (58, true)⟩,
    ⟨some 66, .pick (.tmp 58) (.tmp 65) (.const (.bool false)), 4, "", #[], none⟩,
    ⟨some 67, .move (.tmp 66), 4, "", #[], none⟩,
    ⟨some 68, .move (.tmp 9), 3, "", #[], some (67, true)⟩,
    ⟨some 69, .move (.tmp 10), 3, "", #[], some (67, true)⟩,
    ⟨some 70, .binOp .leq 3 (.tmp 68) (.tmp 69) 3, 4, "", #[], some (67, true)⟩,
    ⟨some 71, .pick (.tmp 67) (.tmp 70) (.const (.bool false)), 4, "", #[], none⟩,
    ⟨some 72, .move (.tmp 71), 4, "", #[], none⟩,
    ⟨some 73, .move (.tmp 2), 3, "", #[], some (72, true)⟩,
    ⟨some 74, .move (.tmp 7), 3, "", #[], some (72, true)⟩,
    ⟨some 75, .binOp .sub 3 (.const (.int .i64 (-1))) (.tmp 74) 3, 3, "", #[], some (72, true)⟩,
    ⟨some 76, .call { callee := .value (.func 20), args := #[.tmp 73, .tmp 75], argTypes := #[3, 3] }, 3, "", #[], some (72, true)⟩,
    ⟨some 77, .binOp .eql 3 (.tmp 76) (.const (.int .i64 0)) 3, 4, "", #[], some (72, true)⟩,
    ⟨some 78, .pick (.tmp 72) (.tmp 77) (.const (.bool false)), 4, "", #[], none⟩,
    ⟨some 79, .move (.tmp 78), 4, "", #[], none⟩,
    ⟨some 80, .call { callee := .value (.func 16), args := #[], argTypes := #[] }, 4, "", #[], some (79, true)⟩,
    ⟨some 81, .pick (.tmp 79) (.tmp 80) (.const (.bool false)), 4, "", #[], none⟩,
    ⟨some 6, .assign (.tmp 81), 4, "", #[], none⟩] false)
  .ret))))))
def fn6 : AFn := { ntmps := 82, results := [.tmp 6], body := c6, keep := fun | 0 => some [0, 1, 2] | 1 => some [2, 7, 8] | 2 => some [2, 7, 8, 19] | 3 => some [2, 7, 8] | 4 => some [2, 7, 8, 9, 10] | 5 => some [2, 7, 8, 9, 10, 33] | 6 => some [6] | 7 => some [6] | _ => none, head := fun  | _ => none, opn := fun _ => none, dyn := fun _ => [] }
/-- vidimus/vidimuslaw03.LengthsKnown -/
def c7 : Code :=
  (.seq (.region 0 #[⟨some 0, .assign (.const (.bool false)), 4, "", #[], none⟩] false)
  (.seq (.region 1 #[⟨some 5, .buildSlice 39 8 #[(0, .const (.int .i64 0)), (1, .const (.int .i64 127)), (2, .const (.int .i64 128)), (3, .const (.int .i64 255)), (4, .const (.int .i64 256)), (5, .const (.int .i64 65535)), (6, .const (.int .i64 65536)), (7, .const (.int .i64 16777215))], 39, "", #[], none⟩,
    ⟨some 1, .assign (.tmp 5), 39, "", #[], none⟩] false)
  (.seq (.region 2 #[⟨some 6, .buildSlice 39 8 #[(0, .const (.int .i64 1)), (1, .const (.int .i64 1)), (2, .const (.int .i64 2)), (3, .const (.int .i64 2)), (4, .const (.int .i64 3)), (5, .const (.int .i64 3)), (6, .const (.int .i64 4)), (7, .const (.int .i64 4))], 39, "", #[], none⟩,
    ⟨some 2, .assign (.tmp 6), 39, "", #[], none⟩] false)
  (.seq (.seq (.region 3 #[⟨some 3, .assign (.const (.int .i64 0)), 3, "", #[], none⟩] false)
  (.block 0 (.loop (.seq (.seq (.region 4 #[⟨some 7, .move (.tmp 3), 3, "", #[], none⟩,
    ⟨some 8, .move (.tmp 1), 39, "", #[], none⟩,
    ⟨some 9, .call { callee := .builtin .len, args := #[.tmp 8], argTypes := #[39] }, 3, "", #[], none⟩,
    ⟨some 10, .binOp .lss 3 (.tmp 7) (.tmp 9) 3, 4, "", #[], none⟩] false)
  (.cond (.tmp 10)
    .skip
    (.exit 0)))
  (.seq (.block 1 (.seq (.region 6 #[⟨some 13, .move (.tmp 1), 39, "", #[], none⟩,
    ⟨some 14, .move (.tmp 3), 3, "", #[], none⟩,
    ⟨some 15, .indexAddr 39 (.tmp 13) (.tmp 14), 0, "", #[], none⟩,
    ⟨some 16, .load 3 (.tmp 15), 3, "", #[], none⟩,
    ⟨some 17, .call { callee := .value (.func 15), args := #[.tmp 16], argTypes := #[3] }, 3, "", #[], none⟩,
    ⟨some 18, .move (.tmp 2), 39, "", #[], none⟩,
    ⟨some 19, .move (.tmp 3), 3, "", #[], none⟩,
    ⟨some 20, .indexAddr 39 (.tmp 18) (.tmp 19), 0, "", #[], none⟩,
    ⟨some 21, .load 3 (.tmp 20), 3, "", #[], none⟩,
    ⟨some 22, .binOp .neq 3 (.tmp 17) (.tmp 21) 3, 4, "", #[], none⟩,
    ⟨some 23, .move (.tmp 22), 4, "", #[], none⟩,
    ⟨some 24, .move (.tmp 1), 39, "", #[], some (23, false)⟩,
    ⟨some 25, .move (.tmp 3), 3, "", #[], some (23, false)⟩,
    ⟨some 26, .indexAddr 39 (.tmp 24) (.tmp 25), 0, "", #[], some (23, false)⟩,
    ⟨some 27, .load 3 (.tmp 26), 3, "", #[], some (23, false)⟩,
    ⟨some 28, .call { callee := .value (.func 20), args := #[.const (.int .i64 5), .tmp 27], argTypes := #[3, 3] }, 3, "", #[], some (23, false)⟩,
    ⟨some 29, .move (.tmp 2), 39, "", #[], some (23, false)⟩,
    ⟨some 30, .move (.tmp 3), 3, "", #[], some (23, false)⟩,
    ⟨some 31, .indexAddr 39 (.tmp 29) (.tmp 30), 0, "", #[], some (23, false)⟩,
    ⟨some 32, .load 3 (.tmp 31), 3, "", #[], some (23, false)⟩,
    ⟨some 33, .binOp .add 3 (.const (.int .i64 5)) (.tmp 32) 3, 3, "", #[], some (23, false)⟩,
    ⟨some 34, .move (.tmp 1), 39, "", #[], some (23, false)⟩,
    ⟨some 35, .move (.tmp 3), 3, "", #[], some (23, false)⟩,
    ⟨some 36, .indexAddr 39 (.tmp 34) (.tmp 35), 0, "", #[], some (23, false)⟩,
    ⟨some 37, .load 3 (.tmp 36), 3, "", #[], some (23, false)⟩,
    ⟨some 38, .binOp .add 3 (.tmp 33) (.tmp 37) 3, 3, "", #[], some (23, false)⟩,
    ⟨some 39, .binOp .neq 3 (.tmp 28) (.tmp 38) 3, 4, "", #[], some (23, false)⟩,
    ⟨some 40, .pick (.tmp 23) (.const (.bool true)) (.tmp 39), 4, "", #[], none⟩,
    ⟨some 41, .move (.tmp 40), 4, "", #[], none⟩,
    ⟨some 42, .move (.tmp 1), 39, "", #[], some (41, false)⟩,
    ⟨some 43, .move (.tmp 3), 3, "", #[], some (41, false)⟩,
    ⟨some 44, .indexAddr 39 (.tmp 42) (.tmp 43), 0, "", #[], some (41, false)⟩,
    ⟨some 45, .load 3 (.tmp 44), 3, "", #[], some (41, false)⟩,
    ⟨some 46, .call { callee := .value (.func 3), args := #[.tmp 45], argTypes := #[3] }, 4, "", #[], some (41, false)⟩,
    ⟨some 47, .unOp .not 4 (.tmp 46), 4, "", #[], some (41, false)⟩,
    ⟨some 48, .pick (.tmp 41) (.const (.bool true)) (.tmp 47), 4, "", #[], none⟩,
    ⟨some 49, .move (.tmp 48), 4, "", #[], none⟩,
    ⟨some 50, .move (.tmp 1), 39, "", #[], some (49, false)⟩,
    ⟨some 51, .move (.tmp 3), 3, "", #[], some (49, false)⟩,
    ⟨some 52, .indexAddr 39 (.tmp 50) (.tmp 51), 0, "", #[], some (49, false)⟩,
    ⟨some 53, .load 3 (.tmp 52), 3, "", #[], some (49, false)⟩,
    ⟨some 54, .convert 3 31 (.tmp 53), 31, "", #[], some (49, false)⟩,
    ⟨some 55, .call { callee := .value (.func 4), args := #[.tmp 54, .const (.slice none 0 0), .const (.int .u8 0)], argTypes := #[31, 22, 5] }, 4, "", #[], some (49, false)⟩,
    ⟨some 56, .unOp .not 4 (.tmp 55), 4, "", #[], some (49, false)⟩,
    ⟨some 57, .pick (.tmp 49) (.const (.bool true)) (.tmp 56), 4, "", #[], none⟩] true)
  (.cond (.tmp 57)
    (.seq (.region 7 #[⟨some 0, .assign (.const (.bool false)), 4, "", #[], none⟩] false)
    .ret)
    .skip)))
  (.region 5 #[⟨some 11, .move (.tmp 3), 3, "", #[], none⟩,
    ⟨some 12, .binOp .add 3 (.tmp 11) (.const (.int .i64 1)) 3, 3, "", #[], none⟩,
    ⟨some 3, .assign (.tmp 12), 3, "", #[], none⟩] false))))))
  (.seq (.seq (.region 8 #[⟨some 4, .assign (.const (.int .i64 0)), 3, "", #[], none⟩] false)
  (.block 2 (.loop (.seq (.seq (.region 9 #[⟨some 58, .move (.tmp 4), 3, "", #[], none⟩,
    ⟨some 59, .binOp .lss 3 (.tmp 58) (.const (.int .i64 256)) 3, 4, "", #[], none⟩] false)
  (.cond (.tmp 59)
    .skip
    (.exit 2)))
  (.seq (.block 3 (.seq (.region 11 #[⟨some 62, .move (.tmp 4), 3, "", #[], none⟩,
    ⟨some 63, .convert 3 5 (.tmp 62), 5, "", #[], none⟩,
    ⟨some 64, .buildSlice 22 1 #[(0, .tmp 63)], 22, "", fz, none⟩,
    ⟨some 65, .call { callee := .value (.func 5), args := #[.tmp 64], argTypes := #[22] }, 4, "", #[], none⟩,
    ⟨some 66, .unOp .not 4 (.tmp 65), 4, "", #[], none⟩,
    ⟨some 67, .move (.tmp 66), 4, "", #[], none⟩,
    ⟨some 68, .move (.tmp 4), 3, "", #[], some (67, false)⟩,
    ⟨some 69, .convert 3 5 (.tmp 68), 5, "", #[], some (67, false)⟩,
    ⟨some 70, .buildSlice 22 4 #[(0, .tmp 69), (1, .const (.int .u8 0)), (2, .const (.int .u8 1)), (3, .const (.int .u8 2))], 22, "", fz, some (67, false)⟩,
    ⟨some 71, .call { callee := .value (.func 5), args := #[.tmp 70], argTypes := #[22] }, 4, "", #[], some (67, false)⟩,
    ⟨some 72, .unOp .not 4 (.tmp 71), 4, "", #[], some (67, false)⟩,
    ⟨some 73, .pick (.tmp 67) (.const (.bool true)) (.tmp 72), 4, "", #[], none⟩,
    ⟨some 74, .move (.tmp 73), 4, "", #[], none⟩,
    ⟨some 75, .move (.tmp 4), 3, "", #[], some (74, false)⟩,
    ⟨some 76, .convert 3 5 (.tmp 75), 5, "", #[], some (74, false)⟩,
    ⟨some 77, .buildSlice 22 5 #[(0, .tmp 76), (1, .const (.int .u8 200)), (2, .const (.int .u8 1)), (3, .const (.int .u8 2)), (4, .const (.int .u8 3))], 22, "", fz, some (74, false)⟩,
    ⟨some 78, .call { callee := .value (.func 5), args := #[.tmp 77], argTypes := #[22] }, 4, "", #[], some (74, false)⟩,
    ⟨some 79, .unOp .not 4 (.tmp 78), 4, "", #[], some (74, false)⟩,
    ⟨some 80, .pick (.tmp 74) (.const (.bool true)) (.tmp 79), 4, "", #[], none⟩] false)
  (.cond (.tmp 80)
    (.seq (.region 12 #[⟨some 0, .assign (.const (.bool false)), 4, "", #[], none⟩] false)
    .ret)
    .skip)))
  (.region 10 #[⟨some 60, .move (.tmp 4), 3, "", #[], none⟩,
    ⟨some 61, .binOp .add 3 (.tmp 60) (.const (.int .i64 1)) 3, 3, "", #[], none⟩,
    ⟨some 4, .assign (.tmp 61), 3, "", #[], none⟩] false))))))
  (.seq (.region 13 #[⟨some 81, .call { callee := .value (.func 15), args := #[.const (.int .i64 (-1))], argTypes := #[3] }, 3, "", #[], none⟩,
    ⟨some 82, .binOp .eql 3 (.tmp 81) (.const (.int .i64 0)) 3, 4, "", #[], none⟩,
    ⟨some 83, .move (.tmp 82), 4, "", #[], none⟩,
    ⟨some 84, .call { callee := .value (.func 15), args := #[.const (.int .i64 16777216)], argTypes := #[3] }, 3, "", #[], some (83, true)⟩,
    ⟨some 85, .binOp .eql 3 (.tmp 84) (.const (.int .i64 0)) 3, 4, "", #[], some (83, true)⟩,
    ⟨some 86, .pick (.tmp 83) (.tmp 85) (.const (.bool false)), 4, "", #[], none⟩,
    ⟨some 87, .move (.tmp 86), 4, "", #[], none⟩,
    ⟨some 88, .call { callee := .value (.func 20), args := #[.const (.int .i64 1), .const (.int .i64 16777216)], argTypes := #[3, 3] }, 3, "", #[], some (87, true)⟩,
    ⟨some 89, .binOp .eql 3 (.tmp 88) (.const (.int .i64 0)) 3, 4, "", #[], some (87, true)⟩,
    ⟨some 90, .pick (.tmp 87) (.tmp 89) (.const (.bool false)), 4, "", #[], none⟩,
    ⟨some 91, .move (.tmp 90), 4, "", #[], none⟩,
    ⟨some 92, .call { callee := .value (.func 16), args := #[], argTypes := #[] }, 4, "", #[], some (91, true)⟩,
    ⟨some 93, .pick (.tmp 91) (.tmp 92) (.const (.bool false)), 4, "", #[], none⟩,
    ⟨some 0, .assign (.tmp 93), 4, "", #[], none⟩] false)
  .ret))))))
def fn7 : AFn := { ntmps := 94, results := [.tmp 0], body := c7, keep := fun | 0 => some [] | 1 => some [1] | 2 => some [1, 2] | 3 => some [1, 2, 3] | 4 => some [1, 2, 3, 10] | 5 => some [1, 2, 3] | 6 => some [1, 2, 3, 57] | 7 => some [0] | 8 => some [4] | 9 => some [4, 59] | 10 => some [4] | 11 => some [4, 80] | 12 => some [0] | 13 => some [0] | _ => none, head := fun | 4 => some [1, 2, 3] | 9 => some [4] | _ => none, opn := fun _ => none, dyn := fun _ => [] }
/-- vidimus/vidimuslaw08.BitstringsGet -/
def c8 : Code :=
  (.seq (.region 0 #[⟨some 2, .assign (.const (.bool false)), 4, "", #[], none⟩] false)
  (.seq (.seq (.region 1 #[⟨some 8, .move (.tmp 0), 22, "", #[], none⟩,
    ⟨some 9, .call { callee := .builtin .len, args := #[.tmp 8], argTypes := #[22] }, 3, "", #[], none⟩,
    ⟨some 10, .binOp .gtr 3 (.tmp 9) (.const (.int .i64 60)) 3, 4, "", #[], none⟩] false)
  (.cond (.tmp 10)
    (.seq (.region 2 #[⟨some 11, .call { callee := .value (.func 21), args := #[], argTypes := #[] }, 4, "", #[], none⟩,
      ⟨some 2, .assign (.tmp 11), 4, "", #[], none⟩] false)
    .ret)
    .skip))
  (.seq (.region 3 #[⟨some 13, .move (.tmp 0), 22, "", #[], none⟩,
    ⟨some 14, .call { callee := .value (.func 22), args := #[.tmp 13], argTypes := #[22] }, 40, "", #[], none⟩,
    ⟨some 12, .move (.tmp 14), 40, "", #[], none⟩,
    ⟨some 15, .extract (.tmp 12) 0, 39, "", #[], none⟩,
    ⟨some 16, .extract (.tmp 12) 1, 3, "", #[], none⟩,
    ⟨some 3, .assign (.tmp 15), 39, "", #[], none⟩,
    ⟨some 4, .assign (.tmp 16), 3, "", #[], none⟩] false)
  (.seq (.seq (.region 4 #[⟨some 17, .move (.tmp 0), 22, "", #[], none⟩,
    ⟨some 18, .move (.tmp 3), 39, "", #[], none⟩,
    ⟨some 19, .call { callee := .value (.func 24), args := #[.tmp 18], argTypes := #[39] }, 22, "", #[], none⟩,
    ⟨some 20, .move (.tmp 3), 39, "", #[], none⟩,
    ⟨some 21, .call { callee := .builtin .len, args := #[.tmp 20], argTypes := #[39] }, 3, "", #[], none⟩,
    ⟨some 22, .move (.tmp 4), 3, "", #[], none⟩,
    ⟨some 23, .call { callee := .value (.func 23), args := #[.tmp 17, .tmp 19, .tmp 21, .tmp 22], argTypes := #[22, 22, 3, 3] }, 4, "", #[], none⟩,
    ⟨some 24, .unOp .not 4 (.tmp 23), 4, "", #[], none⟩] false)
  (.cond (.tmp 24)
    (.seq (.region 5 #[⟨some 2, .assign (.const (.bool false)), 4, "", #[], none⟩] false)
    .ret)
    .skip))
  (.seq (.seq (.region 6 #[⟨some 25, .move (.tmp 4), 3, "", #[], none⟩,
    ⟨some 26, .binOp .eql 3 (.tmp 25) (.const (.int .i64 0)) 3, 4, "", #[], none⟩] false)
  (.cond (.tmp 26)
    (.seq (.region 7 #[⟨some 28, .move (.tmp 3), 39, "", #[], none⟩,
      ⟨some 29, .call { callee := .value (.func 24), args := #[.tmp 28], argTypes := #[39] }, 22, "", #[], none⟩,
      ⟨some 30, .move (.tmp 3), 39, "", #[], none⟩,
      ⟨some 31, .call { callee := .builtin .len, args := #[.tmp 30], argTypes := #[39] }, 3, "", #[], none⟩,
      ⟨some 32, .call { callee := .value (.func 25), args := #[.tmp 29, .tmp 31], argTypes := #[22, 3] }, 24, "", #[], none⟩,
      ⟨some 27, .move (.tmp 32), 24, "", #[], none⟩,
      ⟨some 33, .extract (.tmp 27) 0, 22, "", #[], none⟩,
      ⟨some 34, .extract (.tmp 27) 1, 23, "", #[], none⟩,
      ⟨some 5, .assign (.tmp 33), 22, "", #[], none⟩,
      ⟨some 6, .assign (.tmp 34), 23, "", #[], none⟩] false)
    (.seq (.region 8 #[⟨some 35, .move (.tmp 5), 22, "", #[], none⟩,
      ⟨some 36, .move (.tmp 6), 23, "", #[], none⟩,
      ⟨some 37, .move (.tmp 0), 22, "", #[], none⟩,
      ⟨some 38, .call { callee := .value (.func 26), args := #[.tmp 35, .tmp 36, .tmp 37, .const (.int .i64 0)], argTypes := #[22, 23, 22, 3] }, 4, "", #[], none⟩,
      ⟨some 39, .unOp .not 4 (.tmp 38), 4, "", #[], none⟩] false)
    (.cond (.tmp 39)
      (.seq (.region 9 #[⟨some 2, .assign (.const (.bool false)), 4, "", #[], none⟩] false)
      .ret)
      .skip)))
    .skip))
  (.seq (.region 10 #[⟨some 41, .move (.tmp 0), 22, "", #[], none⟩,
    ⟨some 42, .call { callee := .value (.func 27), args := #[.tmp 41], argTypes := #[22] }, 46, "", #[], none⟩,
    ⟨some 40, .move (.tmp 42), 46, "", #[], none⟩,
    ⟨some 43, .extract (.tmp 40) 0, 45, "", #[], none⟩,
    ⟨some 44, .extract (.tmp 40) 1, 3, "", #[], none⟩,
    ⟨some 7, .assign (.tmp 43), 45, "", #[], none⟩,
    ⟨some 4, .assign (.tmp 44), 3, "", #[], none⟩] false)
  (.seq (.region 11 #[⟨some 45, .move (.tmp 0), 22, "", #[], none⟩,
    ⟨some 46, .move (.tmp 7), 45, "", #[], none⟩,
    ⟨some 47, .move (.tmp 4), 3, "", #[], none⟩,
    ⟨some 48, .call { callee := .value (.func 28), args := #[.tmp 45, .tmp 46, .tmp 47], argTypes := #[22, 45, 3] }, 4, "", #[], none⟩,
    ⟨some 49, .move (.tmp 48), 4, "", #[], none⟩,
    ⟨some 50, .move (.tmp 4), 3, "", #[], some (49, true)⟩,
    ⟨some 51, .binOp .neq 3 (.tmp 50) (.const (.int .i64 0)) 3, 4, "", #[], some (49, true)⟩,
    ⟨some 52, .move (.tmp 51), 4, "", #[], some (49, true)⟩,
    ⟨some 53, .move (.tmp 7), 45, "", #[], some (52, false)⟩,
    ⟨some 54, .call { callee := .value (.func 29), args := #[.tmp 53], argTypes := #[45] }, 22, "", #[], some (52, false)⟩,
    ⟨some 55, .convert 22 9 (.tmp 54), 9, "", #[], some (52, false)⟩,
    ⟨some 56, .move (.tmp 0), 22, "", #[], some (52, false)⟩,
    ⟨some 57, .convert 22 9 (.tmp 56), 9, "", #[], some (52, false)⟩,
    ⟨some 58, .binOp .eql 9 (.tmp 55) (.tmp 57) 9, 4, "", #[], some (52, false)⟩,
    ⟨some 59, .pick (.tmp 52) (.const (.bool true)) (.tmp 58), 4, "", #[], some (49, true)⟩,
    ⟨some 60, .pick (.tmp 49) (.tmp 59) (.const (.bool false)), 4, "", #[], none⟩,
    ⟨some 61, .move (.tmp 60), 4, "", #[], none⟩,
    ⟨some 62, .call { callee := .value (.func 21), args := #[], argTypes := #[] }, 4, "", #[], some (61, true)⟩,
    ⟨some 63, .pick (.tmp 61) (.tmp 62) (.const (.bool false)), 4, "", #[], none⟩,
    ⟨some 2, .assign (.tmp 63), 4, "", #[], none⟩] true)
  .ret)))))))
def fn8 : AFn := { ntmps := 64, results := [.tmp 2], body := c8, keep := fun | 0 => some [0] | 1 => some [0, 10] | 2 => some [2] | 3 => some [0, 3, 4] | 4 => some [0, 3, 4, 24] | 5 => some [2] | 6 => some [0, 3, 26] | 7 => some [0, 5, 6] | 8 => some [0, 39] | 9 => some [2] | 10 => some [0, 4, 7] | 11 => some [2] | _ => none, head := fun  | _ => none, opn := fun _ => none, dyn := fun _ => [] }
/-- vidimus/vidimuslaw08.BitstringsNamed -/
def c9 : Code :=
  (.seq (.region 0 #[⟨some 4, .assign (.const (.bool false)), 4, "", #[], none⟩] false)
  (.seq (.region 1 #[⟨some 8, .move (.tmp 0), 45, "", #[], none⟩,
    ⟨some 9, .call { callee := .value (.func 29), args := #[.tmp 8], argTypes := #[45] }, 22, "", #[], none⟩,
    ⟨some 5, .assign (.tmp 9), 22, "", #[], none⟩] false)
  (.seq (.region 2 #[⟨some 10, .move (.tmp 0), 45, "", #[], none⟩,
    ⟨some 11, .move (.tmp 1), 5, "", #[], none⟩,
    ⟨some 12, .binOp .rem 5 (.tmp 11) (.const (.int .u8 64)) 5, 5, "", #[], none⟩,
    ⟨some 13, .binOp .shl 45 (.const (.int .u64 1)) (.tmp 12) 5, 45, "", #[], none⟩,
    ⟨some 14, .binOp .or 45 (.tmp 10) (.tmp 13) 45, 45, "", #[], none⟩,
    ⟨some 6, .assign (.tmp 14), 45, "", #[], none⟩] false)
  (.seq (.region 3 #[⟨some 15, .move (.tmp 6), 45, "", #[], none⟩,
    ⟨some 16, .call { callee := .value (.func 29), args := #[.tmp 15], argTypes := #[45] }, 22, "", #[], none⟩,
    ⟨some 7, .assign (.tmp 16), 22, "", #[], none⟩] false)
  (.seq (.region 4 #[⟨some 17, .move (.tmp 5), 22, "", #[], none⟩,
    ⟨some 18, .move (.tmp 0), 45, "", #[], none⟩,
    ⟨some 19, .call { callee := .value (.func 30), args := #[.tmp 18], argTypes := #[45] }, 22, "", #[], none⟩,
    ⟨some 20, .call { callee := .value (.func 26), args := #[.tmp 17, .const (.int .i64 0), .tmp 19, .const (.int .i64 0)], argTypes := #[22, 23, 22, 3] }, 4, "", #[], none⟩,
    ⟨some 21, .move (.tmp 20), 4, "", #[], none⟩,
    ⟨some 22, .move (.tmp 5), 22, "", #[], some (21, true)⟩,
    ⟨some 23, .move (.tmp 0), 45, "", #[], some (21, true)⟩,
    ⟨some 24, .call { callee := .value (.func 28), args := #[.tmp 22, .tmp 23, .const (.int .i64 0)], argTypes := #[22, 45, 3] }, 4, "", #[], some (21, true)⟩,
    ⟨some 25, .pick (.tmp 21) (.tmp 24) (.const (.bool false)), 4, "", #[], none⟩,
    ⟨some 26, .move (.tmp 25), 4, "", #[], none⟩,
    ⟨some 27, .move (.tmp 7), 22, "", #[], some (26, true)⟩,
    ⟨some 28, .move (.tmp 6), 45, "", #[], some (26, true)⟩,
    ⟨some 29, .call { callee := .value (.func 28), args := #[.tmp 27, .tmp 28, .const (.int .i64 0)], argTypes := #[22, 45, 3] }, 4, "", #[], some (26, true)⟩,
    ⟨some 30, .pick (.tmp 26) (.tmp 29) (.const (.bool false)), 4, "", #[], none⟩,
    ⟨some 31, .move (.tmp 30), 4, "", #[], none⟩,
    ⟨some 32, .move (.tmp 5), 22, "", #[], some (31, true)⟩,
    ⟨some 33, .call { callee := .builtin .len, args := #[.tmp 32], argTypes := #[22] }, 3, "", #[], some (31, true)⟩,
    ⟨some 34, .move (.tmp 7), 22, "", #[], some (31, true)⟩,
    ⟨some 35, .call { callee := .builtin .len, args := #[.tmp 34], argTypes := #[22] }, 3, "", #[], some (31, true)⟩,
    ⟨some 36, .binOp .leq 3 (.tmp 33) (.tmp 35) 3, 4, "", #[], some (31, true)⟩,
    ⟨some 37, .pick (.tmp 31) (.tmp 36) (.const (.bool false)), 4, "", #[], none⟩,
    ⟨some 38, .move (.tmp 37), 4, "", #[], none⟩,
    ⟨some 39, .move (.tmp 5), 22, "", #[], some (38, true)⟩,
    ⟨some 40, .call { callee := .builtin .len, args := #[.tmp 39], argTypes := #[22] }, 3, "", #[], some (38, true)⟩,
    ⟨some 41, .move (.tmp 7), 22, "", #[], some (38, true)⟩,
    ⟨some 42, .call { callee := .builtin .len, args := #[.tmp 41], argTypes := #[22] }, 3, "", #[], some (38, true)⟩,
    ⟨some 43, .binOp .lss 3 (.tmp 40) (.tmp 42) 3, 4, "", #[], some (38, true)⟩,
    ⟨some 44, .move (.tmp 43), 4, "", #[], some (38, true)⟩,
    ⟨some 45, .move (.tmp 5), 22, "", #[], some (44, false)⟩,
    ⟨some 46, .indexAddr 22 (.tmp 45) (.const (.int .i64 0)), 0, "", #[], some (44, false)⟩,
    ⟨some 47, .load 5 (.tmp 46), 5, "", #[], some (44, false)⟩,
    ⟨some 48, .move (.tmp 7), 22, "", #[], some (44, false)⟩,
    ⟨some 49, .indexAddr 22 (.tmp 48) (.const (.int .i64 0)), 0, "", #[], some (44, false)⟩,
    ⟨some 50, .load 5 (.tmp 49), 5, "", #[], some (44, false)⟩,
    ⟨some 51, .binOp .geq 5 (.tmp 47) (.tmp 50) 5, 4, "", #[], some (44, false)⟩,
    ⟨some 52, .pick (.tmp 44) (.const (.bool true)) (.tmp 51), 4, "", #[], some (38, true)⟩,
    ⟨some 53, .pick (.tmp 38) (.tmp 52) (.const (.bool false)), 4, "", #[], none⟩,
    ⟨some 54, .move (.tmp 53), 4, "", #[], none⟩,
    ⟨some 55, .call { callee := .value (.func 21), args := #[], argTypes := #[] }, 4, "", #[], some (54, true)⟩,
    ⟨some 56, .pick (.tmp 54) (.tmp 55) (.const (.bool false)), 4, "", #[], none⟩,
    ⟨some 4, .assign (.tmp 56), 4, "", #[], none⟩] true)
  .ret)))))
def fn9 : AFn := { ntmps := 57, results := [.tmp 4], body := c9, keep := fun | 0 => some [0, 1] | 1 => some [0, 1, 5] | 2 => some [0, 5, 6] | 3 => some [0, 5, 6, 7] | 4 => some [4] | _ => none, head := fun  | _ => none, opn := fun _ => none, dyn := fun _ => [] }
/-- vidimus/vidimuslaw08.BitstringsKnown -/
def c10 : Code :=
  (.seq (.region 0 #[⟨some 0, .assign (.const (.bool false)), 4, "", #[], none⟩] false)
  (.seq (.seq (.region 1 #[⟨some 1, .assign (.const (.int .i64 0)), 3, "", #[], none⟩] false)
  (.block 0 (.loop (.seq (.seq (.region 2 #[⟨some 20, .move (.tmp 1), 3, "", #[], none⟩,
    ⟨some 21, .binOp .lss 3 (.tmp 20) (.const (.int .i64 256)) 3, 4, "", #[], none⟩] false)
  (.cond (.tmp 21)
    .skip
    (.exit 0)))
  (.seq (.block 1 (.seq (.region 4 #[⟨some 24, .move (.tmp 1), 3, "", #[], none⟩,
    ⟨some 25, .convert 3 5 (.tmp 24), 5, "", #[], none⟩,
    ⟨some 26, .buildSlice 22 1 #[(0, .tmp 25)], 22, "", fz, none⟩,
    ⟨some 27, .call { callee := .value (.func 8), args := #[.tmp 26], argTypes := #[22] }, 4, "", #[], none⟩,
    ⟨some 28, .unOp .not 4 (.tmp 27), 4, "", #[], none⟩,
    ⟨some 29, .move (.tmp 28), 4, "", #[], none⟩,
    ⟨some 30, .move (.tmp 1), 3, "", #[], some (29, false)⟩,
    ⟨some 31, .convert 3 5 (.tmp 30), 5, "", #[], some (29, false)⟩,
    ⟨some 32, .buildSlice 22 2 #[(0, .tmp 31), (1, .const (.int .u8 128))], 22, "", fz, some (29, false)⟩,
    ⟨some 33, .call { callee := .value (.func 8), args := #[.tmp 32], argTypes := #[22] }, 4, "", #[], some (29, false)⟩,
    ⟨some 34, .unOp .not 4 (.tmp 33), 4, "", #[], some (29, false)⟩,
    ⟨some 35, .pick (.tmp 29) (.const (.bool true)) (.tmp 34), 4, "", #[], none⟩,
    ⟨some 36, .move (.tmp 35), 4, "", #[], none⟩,
    ⟨some 37, .move (.tmp 1), 3, "", #[], some (36, false)⟩,
    ⟨some 38, .binOp .rem 3 (.tmp 37) (.const (.int .i64 8)) 3, 3, "", #[], some (36, false)⟩,
    ⟨some 39, .convert 3 5 (.tmp 38), 5, "", #[], some (36, false)⟩,
    ⟨some 40, .move (.tmp 1), 3, "", #[], some (36, false)⟩,
    ⟨some 41, .convert 3 5 (.tmp 40), 5, "", #[], some (36, false)⟩,
    ⟨some 42, .buildSlice 22 3 #[(0, .tmp 39), (1, .const (.int .u8 255)), (2, .tmp 41)], 22, "", fz, some (36, false)⟩,
    ⟨some 43, .call { callee := .value (.func 8), args := #[.tmp 42], argTypes := #[22] }, 4, "", #[], some (36, false)⟩,
    ⟨some 44, .unOp .not 4 (.tmp 43), 4, "", #[], some (36, false)⟩,
    ⟨some 45, .pick (.tmp 36) (.const (.bool true)) (.tmp 44), 4, "", #[], none⟩,
    ⟨some 46, .move (.tmp 45), 4, "", #[], none⟩,
    ⟨some 47, .move (.tmp 1), 3, "", #[], some (46, false)⟩,
    ⟨some 48, .convert 3 45 (.tmp 47), 45, "", #[], some (46, false)⟩,
    ⟨some 49, .binOp .shl 45 (.tmp 48) (.const (.int .u64 56)) 51, 45, "", #[], some (46, false)⟩,
    ⟨some 50, .move (.tmp 1), 3, "", #[], some (46, false)⟩,
    ⟨some 51, .convert 3 5 (.tmp 50), 5, "", #[], some (46, false)⟩,
    ⟨some 52, .call { callee := .value (.func 9), args := #[.tmp 49, .tmp 51], argTypes := #[45, 5] }, 4, "", #[], some (46, false)⟩,
    ⟨some 53, .unOp .not 4 (.tmp 52), 4, "", #[], some (46, false)⟩,
    ⟨some 54, .pick (.tmp 46) (.const (.bool true)) (.tmp 53), 4, "", #[], none⟩] false)
  (.cond (.tmp 54)
    (.seq (.region 5 #[⟨some 0, .assign (.const (.bool false)), 4, "", #[], none⟩] false)
    .ret)
    .skip)))
  (.region 3 #[⟨some 22, .move (.tmp 1), 3, "", #[], none⟩,
    ⟨some 23, .binOp .add 3 (.tmp 22) (.const (.int .i64 1)) 3, 3, "", #[], none⟩,
    ⟨some 1, .assign (.tmp 23), 3, "", #[], none⟩] false))))))
  (.seq (.region 6 #[⟨some 55, .makeSlice 22 (.const (.int .i64 65537)) (.const (.int .i64 65537)), 22, "", #[], none⟩,
    ⟨some 2, .assign (.tmp 55), 22, "", #[], none⟩] false)
  (.seq (.region 7 #[⟨some 57, .move (.tmp 2), 22, "", #[], none⟩,
    ⟨some 58, .slice 22 (.tmp 57) none (some (.const (.int .i64 65536))) none, 22, "", #[], none⟩,
    ⟨some 59, .call { callee := .value (.func 25), args := #[.tmp 58, .const (.int .i64 524288)], argTypes := #[22, 3] }, 24, "", #[], none⟩,
    ⟨some 56, .move (.tmp 59), 24, "", #[], none⟩,
    ⟨some 60, .extract (.tmp 56) 0, 22, "", #[], none⟩,
    ⟨some 61, .extract (.tmp 56) 1, 23, "", #[], none⟩,
    ⟨some 3, .assign (.tmp 60), 22, "", #[], none⟩,
    ⟨some 4, .assign (.tmp 61), 23, "", #[], none⟩] false)
  (.seq (.region 8 #[⟨some 63, .move (.tmp 2), 22, "", #[], none⟩,
    ⟨some 64, .call { callee := .value (.func 25), args := #[.tmp 63, .const (.int .i64 524289)], argTypes := #[22, 3] }, 24, "", #[], none⟩,
    ⟨some 62, .move (.tmp 64), 24, "", #[], none⟩,
    ⟨some 65, .extract (.tmp 62) 0, 22, "", #[], none⟩,
    ⟨some 66, .extract (.tmp 62) 1, 23, "", #[], none⟩,
    ⟨some 5, .assign (.tmp 65), 22, "", #[], none⟩,
    ⟨some 6, .assign (.tmp 66), 23, "", #[], none⟩] false)
  (.seq (.region 9 #[⟨some 68, .move (.tmp 3), 22, "", #[], none⟩,
    ⟨some 69, .call { callee := .value (.func 31), args := #[.tmp 68], argTypes := #[22] }, 52, "", #[], none⟩,
    ⟨some 67, .move (.tmp 69), 52, "", #[], none⟩,
    ⟨some 70, .extract (.tmp 67) 0, 22, "", #[], none⟩,
    ⟨some 71, .extract (.tmp 67) 1, 3, "", #[], none⟩,
    ⟨some 72, .extract (.tmp 67) 2, 23, "", #[], none⟩,
    ⟨some 7, .assign (.tmp 70), 22, "", #[], none⟩,
    ⟨some 8, .assign (.tmp 71), 3, "", #[], none⟩,
    ⟨some 9, .assign (.tmp 72), 23, "", #[], none⟩] false)
  (.seq (.region 10 #[⟨some 74, .move (.tmp 2), 22, "", #[], none⟩,
    ⟨some 75, .call { callee := .value (.func 31), args := #[.tmp 74], argTypes := #[22] }, 52, "", #[], none⟩,
    ⟨some 73, .move (.tmp 75), 52, "", #[], none⟩,
    ⟨some 76, .extract (.tmp 73) 0, 22, "", #[], none⟩,
    ⟨some 77, .extract (.tmp 73) 1, 3, "", #[], none⟩,
    ⟨some 78, .extract (.tmp 73) 2, 23, "", #[], none⟩,
    ⟨some 10, .assign (.tmp 76), 22, "", #[], none⟩,
    ⟨some 11, .assign (.tmp 77), 3, "", #[], none⟩,
    ⟨some 12, .assign (.tmp 78), 23, "", #[], none⟩] false)
  (.seq (.region 11 #[⟨some 80, .buildSlice 22 1 #[(0, .const (.int .u8 0))], 22, "", #[], none⟩,
    ⟨some 81, .move (.tmp 2), 22, "", #[], none⟩,
    ⟨some 82, .call { callee := .builtin .append, args := #[.tmp 80, .tmp 81], argTypes := #[22, 22] }, 22, "", #[], none⟩,
    ⟨some 83, .call { callee := .value (.func 31), args := #[.tmp 82], argTypes := #[22] }, 52, "", #[], none⟩,
    ⟨some 79, .move (.tmp 83), 52, "", #[], none⟩,
    ⟨some 84, .extract (.tmp 79) 0, 22, "", #[], none⟩,
    ⟨some 85, .extract (.tmp 79) 1, 3, "", #[], none⟩,
    ⟨some 86, .extract (.tmp 79) 2, 23, "", #[], none⟩,
    ⟨some 13, .assign (.tmp 84), 22, "", #[], none⟩,
    ⟨some 14, .assign (.tmp 85), 3, "", #[], none⟩,
    ⟨some 15, .assign (.tmp 86), 23, "", #[], none⟩] false)
  (.seq (.seq (.region 12 #[⟨some 87, .move (.tmp 4), 23, "", #[], none⟩,
    ⟨some 88, .binOp .neq 23 (.tmp 87) (.const (.int .i64 0)) 23, 4, "", #[], none⟩,
    ⟨some 89, .move (.tmp 88), 4, "", #[], none⟩,
    ⟨some 90, .move (.tmp 3), 22, "", #[], some (89, false)⟩,
    ⟨some 91, .call { callee := .builtin .len, args := #[.tmp 90], argTypes := #[22] }, 3, "", #[], some (89, false)⟩,
    ⟨some 92, .binOp .neq 3 (.tmp 91) (.const (.int .i64 65537)) 3, 4, "", #[], some (89, false)⟩,
    ⟨some 93, .pick (.tmp 89) (.const (.bool true)) (.tmp 92), 4, "", #[], none⟩,
    ⟨some 94, .move (.tmp 93), 4, "", #[], none⟩,
    ⟨some 95, .move (.tmp 6), 23, "", #[], some (94, false)⟩,
    ⟨some 96, .binOp .neq 23 (.tmp 95) (.const (.int .i64 3)) 23, 4, "", #[], some (94, false)⟩,
    ⟨some 97, .pick (.tmp 94) (.const (.bool true)) (.tmp 96), 4, "", #[], none⟩,
    ⟨some 98, .move (.tmp 97), 4, "", #[], none⟩,
    ⟨some 99, .move (.tmp 9), 23, "", #[], some (98, false)⟩,
    ⟨some 100, .binOp .neq 23 (.tmp 99) (.const (.int .i64 0)) 23, 4, "", #[], some (98, false)⟩,
    ⟨some 101, .pick (.tmp 98) (.const (.bool true)) (.tmp 100), 4, "", #[], none⟩,
    ⟨some 102, .move (.tmp 101), 4, "", #[], none⟩,
    ⟨some 103, .move (.tmp 8), 3, "", #[], some (102, false)⟩,
    ⟨some 104, .binOp .neq 3 (.tmp 103) (.const (.int .i64 524288)) 3, 4, "", #[], some (102, false)⟩,
    ⟨some 105, .pick (.tmp 102) (.const (.bool true)) (.tmp 104), 4, "", #[], none⟩,
    ⟨some 106, .move (.tmp 105), 4, "", #[], none⟩,
    ⟨some 107, .move (.tmp 7), 22, "", #[], some (106, false)⟩,
    ⟨some 108, .call { callee := .builtin .len, args := #[.tmp 107], argTypes := #[22] }, 3, "", #[], some (106, false)⟩,
    ⟨some 109, .binOp .neq 3 (.tmp 108) (.const (.int .i64 65536)) 3, 4, "", #[], some (106, false)⟩,
    ⟨some 110, .pick (.tmp 106) (.const (.bool true)) (.tmp 109), 4, "", #[], none⟩,
    ⟨some 111, .move (.tmp 110), 4, "", #[], none⟩,
    ⟨some 112, .move (.tmp 12), 23, "", #[], some (111, false)⟩,
    ⟨some 113, .binOp .neq 23 (.tmp 112) (.const (.int .i64 0)) 23, 4, "", #[], some (111, false)⟩,
    ⟨some 114, .pick (.tmp 111) (.const (.bool true)) (.tmp 113), 4, "", #[], none⟩,
    ⟨some 115, .move (.tmp 114), 4, "", #[], none⟩,
    ⟨some 116, .move (.tmp 11), 3, "", #[], some (115, false)⟩,
    ⟨some 117, .binOp .neq 3 (.tmp 116) (.const (.int .i64 524288)) 3, 4, "", #[], some (115, false)⟩,
    ⟨some 118, .pick (.tmp 115) (.const (.bool true)) (.tmp 117), 4, "", #[], none⟩,
    ⟨some 119, .move (.tmp 118), 4, "", #[], none⟩,
    ⟨some 120, .move (.tmp 15), 23, "", #[], some (119, false)⟩,
    ⟨some 121, .binOp .neq 23 (.tmp 120) (.const (.int .i64 3)) 23, 4, "", #[], some (119, false)⟩,
    ⟨some 122, .pick (.tmp 119) (.const (.bool true)) (.tmp 121), 4, "", #[], none⟩] false)
  (.cond (.tmp 122)
    (.seq (.region 13 #[⟨some 0, .assign (.const (.bool false)), 4, "", #[], none⟩] false)
    .ret)
    .skip))
  (.seq (.region 14 #[⟨some 124, .move (.tmp 2), 22, "", #[], none⟩,
    ⟨some 125, .slice 22 (.tmp 124) none (some (.const (.int .i64 65536))) none, 22, "", #[], none⟩,
    ⟨some 126, .call { callee := .value (.func 32), args := #[.tmp 125], argTypes := #[22] }, 60, "", #[], none⟩,
    ⟨some 123, .move (.tmp 126), 60, "", #[], none⟩,
    ⟨some 127, .extract (.tmp 123) 0, 59, "", #[], none⟩,
    ⟨some 128, .extract (.tmp 123) 1, 23, "", #[], none⟩,
    ⟨some 16, .alloc 59, 0, "", #[], none⟩,
    ⟨none, .store 59 (.tmp 16) (.tmp 127), 0, "", #[], none⟩,
    ⟨some 4, .assign (.tmp 128), 23, "", #[], none⟩] false)
  (.seq (.region 15 #[⟨some 130, .move (.tmp 2), 22, "", #[], none⟩,
    ⟨some 131, .call { callee := .value (.func 32), args := #[.tmp 130], argTypes := #[22] }, 60, "", #[], none⟩,
    ⟨some 129, .move (.tmp 131), 60, "", #[], none⟩,
    ⟨some 132, .extract (.tmp 129) 0, 59, "", #[], none⟩,
    ⟨some 133, .extract (.tmp 129) 1, 23, "", #[], none⟩,
    ⟨some 6, .assign (.tmp 133), 23, "", #[], none⟩] false)
  (.seq (.region 16 #[⟨some 135, .load 59 (.tmp 16), 59, "", #[], none⟩,
    ⟨some 136, .call { callee := .value (.func 33), args := #[.tmp 135], argTypes := #[59] }, 24, "", #[], none⟩,
    ⟨some 134, .move (.tmp 136), 24, "", #[], none⟩,
    ⟨some 137, .extract (.tmp 134) 0, 22, "", #[], none⟩,
    ⟨some 138, .extract (.tmp 134) 1, 23, "", #[], none⟩,
    ⟨some 17, .assign (.tmp 137), 22, "", #[], none⟩,
    ⟨some 9, .assign (.tmp 138), 23, "", #[], none⟩] false)
  (.seq (.region 17 #[⟨some 140, .build 56 #[(2, .const (.int .u32 4))], 56, "", #[], none⟩,
    ⟨some 141, .move (.tmp 2), 22, "", #[], none⟩,
    ⟨some 142, .build 59 #[(0, .tmp 140), (1, .tmp 141)], 59, "", #[], none⟩,
    ⟨some 143, .call { callee := .value (.func 33), args := #[.tmp 142], argTypes := #[59] }, 24, "", #[], none⟩,
    ⟨some 139, .move (.tmp 143), 24, "", #[], none⟩,
    ⟨some 144, .extract (.tmp 139) 0, 22, "", #[], none⟩,
    ⟨some 145, .extract (.tmp 139) 1, 23, "", #[], none⟩,
    ⟨some 12, .assign (.tmp 145), 23, "", #[], none⟩] false)
  (.seq (.seq (.region 18 #[⟨some 146, .move (.tmp 4), 23, "", #[], none⟩,
    ⟨some 147, .binOp .neq 23 (.tmp 146) (.const (.int .i64 0)) 23, 4, "", #[], none⟩,
    ⟨some 148, .move (.tmp 147), 4, "", #[], none⟩,
    ⟨some 149, .move (.tmp 6), 23, "", #[], some (148, false)⟩,
    ⟨some 150, .binOp .neq 23 (.tmp 149) (.const (.int .i64 3)) 23, 4, "", #[], some (148, false)⟩,
    ⟨some 151, .pick (.tmp 148) (.const (.bool true)) (.tmp 150), 4, "", #[], none⟩,
    ⟨some 152, .move (.tmp 151), 4, "", #[], none⟩,
    ⟨some 153, .move (.tmp 9), 23, "", #[], some (152, false)⟩,
    ⟨some 154, .binOp .neq 23 (.tmp 153) (.const (.int .i64 0)) 23, 4, "", #[], some (152, false)⟩,
    ⟨some 155, .pick (.tmp 152) (.const (.bool true)) (.tmp 154), 4, "", #[], none⟩,
    ⟨some 156, .move (.tmp 155), 4, "", #[], none⟩,
    ⟨some 157, .move (.tmp 17), 22, "", #[], some (156, false)⟩,
    ⟨some 158, .call { callee := .builtin .len, args := #[.tmp 157], argTypes := #[22] }, 3, "", #[], some (156, false)⟩,
    ⟨some 159, .binOp .neq 3 (.tmp 158) (.const (.int .i64 65536)) 3, 4, "", #[], some (156, false)⟩,
    ⟨some 160, .pick (.tmp 156) (.const (.bool true)) (.tmp 159), 4, "", #[], none⟩,
    ⟨some 161, .move (.tmp 160), 4, "", #[], none⟩,
    ⟨some 162, .move (.tmp 12), 23, "", #[], some (161, false)⟩,
    ⟨some 163, .binOp .neq 23 (.tmp 162) (.const (.int .i64 3)) 23, 4, "", #[], some (161, false)⟩,
    ⟨some 164, .pick (.tmp 161) (.const (.bool true)) (.tmp 163), 4, "", #[], none⟩] false)
  (.cond (.tmp 164)
    (.seq (.region 19 #[⟨some 0, .assign (.const (.bool false)), 4, "", #[], none⟩] false)
    .ret)
    .skip))
  (.seq (.region 20 #[⟨some 165, .call { callee := .value (.func 29), args := #[.const (.int .u64 18446744073709551615)], argTypes := #[45] }, 22, "", #[], none⟩,
    ⟨some 18, .assign (.tmp 165), 22, "", #[], none⟩] false)
  (.seq (.region 21 #[⟨some 166, .buildSlice 22 1 #[(0, .const (.int .u8 7))], 22, "", #[], none⟩,
    ⟨some 167, .move (.tmp 18), 22, "", #[], none⟩,
    ⟨some 168, .slice 22 (.tmp 167) (some (.const (.int .i64 1))) none none, 22, "", #[], none⟩,
    ⟨some 169, .call { callee := .builtin .append, args := #[.tmp 166, .tmp 168], argTypes := #[22, 22] }, 22, "", #[], none⟩,
    ⟨some 170, .buildSlice 22 1 #[(0, .const (.int .u8 128))], 22, "", #[], none⟩,
    ⟨some 171, .call { callee := .builtin .append, args := #[.tmp 169, .tmp 170], argTypes := #[22, 22] }, 22, "", #[], none⟩,
    ⟨some 19, .assign (.tmp 171), 22, "", #[], none⟩] false)
  (.seq (.region 22 #[⟨some 172, .move (.tmp 18), 22, "", #[], none⟩,
    ⟨some 173, .call { callee := .builtin .len, args := #[.tmp 172], argTypes := #[22] }, 3, "", #[], none⟩,
    ⟨some 174, .binOp .eql 3 (.tmp 173) (.const (.int .i64 9)) 3, 4, "", #[], none⟩,
    ⟨some 175, .move (.tmp 174), 4, "", #[], none⟩,
    ⟨some 176, .move (.tmp 18), 22, "", #[], some (175, true)⟩,
    ⟨some 177, .indexAddr 22 (.tmp 176) (.const (.int .i64 0)), 0, "", #[], some (175, true)⟩,
    ⟨some 178, .load 5 (.tmp 177), 5, "", #[], some (175, true)⟩,
    ⟨some 179, .binOp .eql 5 (.tmp 178) (.const (.int .u8 0)) 5, 4, "", #[], some (175, true)⟩,
    ⟨some 180, .pick (.tmp 175) (.tmp 179) (.const (.bool false)), 4, "", #[], none⟩,
    ⟨some 181, .move (.tmp 180), 4, "", #[], none⟩,
    ⟨some 182, .move (.tmp 18), 22, "", #[], some (181, true)⟩,
    ⟨some 183, .call { callee := .value (.func 28), args := #[.tmp 182, .const (.int .u64 18446744073709551615), .const (.int .i64 0)], argTypes := #[22, 45, 3] }, 4, "", #[], some (181, true)⟩,
    ⟨some 184, .pick (.tmp 181) (.tmp 183) (.const (.bool false)), 4, "", #[], none⟩,
    ⟨some 185, .move (.tmp 184), 4, "", #[], none⟩,
    ⟨some 186, .move (.tmp 19), 22, "", #[], some (185, true)⟩,
    ⟨some 187, .call { callee := .value (.func 28), args := #[.tmp 186, .const (.int .u64 0), .const (.int .i64 3)], argTypes := #[22, 45, 3] }, 4, "", #[], some (185, true)⟩,
    ⟨some 188, .pick (.tmp 185) (.tmp 187) (.const (.bool false)), 4, "", #[], none⟩,
    ⟨some 189, .move (.tmp 188), 4, "", #[], none⟩,
    ⟨some 190, .buildSlice 22 1 #[(0, .const (.int .u8 6))], 22, "", #[], some (189, true)⟩,
    ⟨some 191, .move (.tmp 19), 22, "", #[], some (189, true)⟩,
    ⟨some 192, .slice 22 (.tmp 191) (some (.const (.int .i64 1))) none none, 22, "", #[], some (189, true)⟩,
    ⟨some 193, .call { callee := .builtin .append, args := #[.tmp 190, .tmp 192], argTypes := #[22, 22] }, 22, "", #[], some (189, true)⟩,
    ⟨some 194, .call { callee := .value (.func 28), args := #[.tmp 193, .const (.int .u64 0), .const (.int .i64 11)], argTypes := #[22, 45, 3] }, 4, "", #[], some (189, true)⟩,
    ⟨some 195, .pick (.tmp 189) (.tmp 194) (.const (.bool false)), 4, "", #[], none⟩,
    ⟨some 196, .move (.tmp 195), 4, "", #[], none⟩,
    ⟨some 197, .buildSlice 22 1 #[(0, .const (.int .u8 0))], 22, "", #[], some (196, true)⟩,
    ⟨some 198, .move (.tmp 2), 22, "", #[], some (196, true)⟩,
    ⟨some 199, .call { callee := .builtin .append, args := #[.tmp 197, .tmp 198], argTypes := #[22, 22] }, 22, "", #[], some (196, true)⟩,
    ⟨some 200, .call { callee := .value (.func 28), args := #[.tmp 199, .const (.int .u64 0), .const (.int .i64 11)], argTypes := #[22, 45, 3] }, 4, "", #[], some (196, true)⟩,
    ⟨some 201, .pick (.tmp 196) (.tmp 200) (.const (.bool false)), 4, "", #[], none⟩,
    ⟨some 202, .move (.tmp 201), 4, "", #[], none⟩,
    ⟨some 203, .call { callee := .value (.func 21), args := #[], argTypes := #[] }, 4, "", #[], some (202, true)⟩,
    ⟨some 204, .pick (.tmp 202) (.tmp 203) (.const (.bool false)), 4, "", #[], none⟩,
    ⟨some 0, .assign (.tmp 204), 4, "", #[], none⟩] false)
  .ret)))))))))))))))))
def fn10 : AFn := { ntmps := 205, results := [.tmp 0], body := c10, keep := fun | 0 => some [] | 1 => some [1] | 2 => some [1, 21] | 3 => some [1] | 4 => some [1, 54] | 5 => some [0] | 6 => some [2] | 7 => some [2, 3, 4] | 8 => some [2, 3, 4, 6] | 9 => some [2, 3, 4, 6, 7, 8, 9] | 10 => some [2, 3, 4, 6, 7, 8, 9, 11, 12] | 11 => some [2, 3, 4, 6, 7, 8, 9, 11, 12, 15] | 12 => some [2, 122] | 13 => some [0] | 14 => some [2, 4, 16] | 15 => some [2, 4, 6, 16] | 16 => some [2, 4, 6, 9, 17] | 17 => some [2, 4, 6, 9, 12, 17] | 18 => some [2, 164] | 19 => some [0] | 20 => some [2, 18] | 21 => some [2, 18, 19] | 22 => some [0] | _ => none, head := fun | 2 => some [1] | _ => none, opn := fun _ => none, dyn := fun _ => [] }
/-- vidimus/vidimuslaw08.BitstringsBack -/
def c11 : Code :=
  (.seq (.region 0 #[⟨some 2, .box 64 (.tmp 0), 0, "", #[], none⟩,
    ⟨some 4, .assign (.const (.bool false)), 4, "", #[], none⟩] false)
  (.seq (.region 1 #[⟨some 17, .load 64 (.tmp 2), 64, "", #[], none⟩,
    ⟨some 18, .call { callee := .value (.func 34), args := #[.tmp 17], argTypes := #[64] }, 39, "", #[], none⟩,
    ⟨some 5, .assign (.tmp 18), 39, "", #[], none⟩] false)
  (.seq (.region 2 #[⟨some 19, .move (.tmp 5), 39, "", #[], none⟩,
    ⟨some 20, .call { callee := .value (.func 24), args := #[.tmp 19], argTypes := #[39] }, 22, "", #[], none⟩,
    ⟨some 21, .move (.tmp 5), 39, "", #[], none⟩,
    ⟨some 22, .call { callee := .builtin .len, args := #[.tmp 21], argTypes := #[39] }, 3, "", #[], none⟩,
    ⟨some 6, .assign (.tmp 20), 22, "", #[], none⟩,
    ⟨some 7, .assign (.tmp 22), 3, "", #[], none⟩] false)
  (.seq (.region 3 #[⟨some 23, .move (.tmp 5), 39, "", #[], none⟩,
    ⟨some 24, .call { callee := .value (.func 35), args := #[.tmp 23], argTypes := #[39] }, 22, "", #[], none⟩,
    ⟨some 8, .assign (.tmp 24), 22, "", #[], none⟩] false)
  (.seq (.region 4 #[⟨some 26, .move (.tmp 6), 22, "", #[], none⟩,
    ⟨some 27, .move (.tmp 7), 3, "", #[], none⟩,
    ⟨some 28, .call { callee := .value (.func 25), args := #[.tmp 26, .tmp 27], argTypes := #[22, 3] }, 24, "", #[], none⟩,
    ⟨some 25, .move (.tmp 28), 24, "", #[], none⟩,
    ⟨some 29, .extract (.tmp 25) 0, 22, "", #[], none⟩,
    ⟨some 30, .extract (.tmp 25) 1, 23, "", #[], none⟩,
    ⟨some 9, .assign (.tmp 29), 22, "", #[], none⟩,
    ⟨some 10, .assign (.tmp 30), 23, "", #[], none⟩] false)
  (.seq (.seq (.region 5 #[⟨some 31, .move (.tmp 6), 22, "", #[], none⟩,
    ⟨some 32, .move (.tmp 7), 3, "", #[], none⟩,
    ⟨some 33, .call { callee := .value (.func 36), args := #[.tmp 31, .tmp 32], argTypes := #[22, 3] }, 23, "", #[], none⟩,
    ⟨some 34, .binOp .neq 23 (.tmp 33) (.const (.int .i64 0)) 23, 4, "", #[], none⟩,
    ⟨some 35, .move (.tmp 34), 4, "", #[], none⟩,
    ⟨some 36, .move (.tmp 9), 22, "", #[], some (35, false)⟩,
    ⟨some 37, .move (.tmp 10), 23, "", #[], some (35, false)⟩,
    ⟨some 38, .move (.tmp 8), 22, "", #[], some (35, false)⟩,
    ⟨some 39, .call { callee := .value (.func 26), args := #[.tmp 36, .tmp 37, .tmp 38, .const (.int .i64 0)], argTypes := #[22, 23, 22, 3] }, 4, "", #[], some (35, false)⟩,
    ⟨some 40, .unOp .not 4 (.tmp 39), 4, "", #[], some (35, false)⟩,
    ⟨some 41, .pick (.tmp 35) (.const (.bool true)) (.tmp 40), 4, "", #[], none⟩,
    ⟨some 42, .move (.tmp 41), 4, "", #[], none⟩,
    ⟨some 43, .move (.tmp 8), 22, "", #[], some (42, false)⟩,
    ⟨some 44, .move (.tmp 6), 22, "", #[], some (42, false)⟩,
    ⟨some 45, .move (.tmp 7), 3, "", #[], some (42, false)⟩,
    ⟨some 46, .call { callee := .value (.func 23), args := #[.tmp 43, .tmp 44, .tmp 45, .const (.int .i64 0)], argTypes := #[22, 22, 3, 3] }, 4, "", #[], some (42, false)⟩,
    ⟨some 47, .unOp .not 4 (.tmp 46), 4, "", #[], some (42, false)⟩,
    ⟨some 48, .pick (.tmp 42) (.const (.bool true)) (.tmp 47), 4, "", #[], none⟩] false)
  (.cond (.tmp 48)
    (.seq (.region 6 #[⟨some 4, .assign (.const (.bool false)), 4, "", #[], none⟩] false)
    .ret)
    .skip))
  (.seq (.region 7 #[⟨some 50, .move (.tmp 6), 22, "", #[], none⟩,
    ⟨some 51, .move (.tmp 7), 3, "", #[], none⟩,
    ⟨some 52, .call { callee := .value (.func 37), args := #[.tmp 50, .tmp 51], argTypes := #[22, 3] }, 60, "", #[], none⟩,
    ⟨some 49, .move (.tmp 52), 60, "", #[], none⟩,
    ⟨some 53, .extract (.tmp 49) 0, 59, "", #[], none⟩,
    ⟨some 54, .extract (.tmp 49) 1, 23, "", #[], none⟩,
    ⟨some 11, .alloc 59, 0, "", #[], none⟩,
    ⟨none, .store 59 (.tmp 11) (.tmp 53), 0, "", #[], none⟩,
    ⟨some 12, .assign (.tmp 54), 23, "", #[], none⟩] false)
  (.seq (.region 8 #[⟨some 56, .load 59 (.tmp 11), 59, "", #[], none⟩,
    ⟨some 57, .call { callee := .value (.func 38), args := #[.tmp 56], argTypes := #[59] }, 52, "", #[], none⟩,
    ⟨some 55, .move (.tmp 57), 52, "", #[], none⟩,
    ⟨some 58, .extract (.tmp 55) 0, 22, "", #[], none⟩,
    ⟨some 59, .extract (.tmp 55) 1, 3, "", #[], none⟩,
    ⟨some 60, .extract (.tmp 55) 2, 23, "", #[], none⟩,
    ⟨some 13, .assign (.tmp 58), 22, "", #[], none⟩,
    ⟨some 14, .assign (.tmp 59), 3, "", #[], none⟩,
    ⟨some 15, .assign (.tmp 60), 23, "", #[], none⟩] false)
  (.seq (.seq (.region 9 #[⟨some 61, .load 59 (.tmp 11), 59, "", #[], none⟩,
    ⟨some 62, .move (.tmp 12), 23, "", #[], none⟩,
    ⟨some 63, .move (.tmp 8), 22, "", #[], none⟩,
    ⟨some 64, .call { callee := .value (.func 39), args := #[.tmp 61, .tmp 62, .const (.int .u32 3), .tmp 63], argTypes := #[59, 23, 31, 22] }, 4, "", #[], none⟩,
    ⟨some 65, .unOp .not 4 (.tmp 64), 4, "", #[], none⟩,
    ⟨some 66, .move (.tmp 65), 4, "", #[], none⟩,
    ⟨some 67, .move (.tmp 13), 22, "", #[], some (66, false)⟩,
    ⟨some 68, .move (.tmp 15), 23, "", #[], some (66, false)⟩,
    ⟨some 69, .move (.tmp 6), 22, "", #[], some (66, false)⟩,
    ⟨some 70, .call { callee := .value (.func 26), args := #[.tmp 67, .tmp 68, .tmp 69, .const (.int .i64 0)], argTypes := #[22, 23, 22, 3] }, 4, "", #[], some (66, false)⟩,
    ⟨some 71, .unOp .not 4 (.tmp 70), 4, "", #[], some (66, false)⟩,
    ⟨some 72, .pick (.tmp 66) (.const (.bool true)) (.tmp 71), 4, "", #[], none⟩,
    ⟨some 73, .move (.tmp 72), 4, "", #[], none⟩,
    ⟨some 74, .move (.tmp 14), 3, "", #[], some (73, false)⟩,
    ⟨some 75, .move (.tmp 7), 3, "", #[], some (73, false)⟩,
    ⟨some 76, .binOp .neq 3 (.tmp 74) (.tmp 75) 3, 4, "", #[], some (73, false)⟩,
    ⟨some 77, .pick (.tmp 73) (.const (.bool true)) (.tmp 76), 4, "", #[], none⟩] false)
  (.cond (.tmp 77)
    (.seq (.region 10 #[⟨some 4, .assign (.const (.bool false)), 4, "", #[], none⟩] false)
    .ret)
    .skip))
  (.seq (.seq (.region 11 #[⟨some 16, .assign (.const (.int .i64 0)), 3, "", #[], none⟩] false)
  (.block 0 (.loop (.seq (.seq (.region 12 #[⟨some 78, .move (.tmp 16), 3, "", #[], none⟩,
    ⟨some 79, .move (.tmp 7), 3, "", #[], none⟩,
    ⟨some 80, .binOp .lss 3 (.tmp 78) (.tmp 79) 3, 4, "", #[], none⟩] false)
  (.cond (.tmp 80)
    .skip
    (.exit 0)))
  (.seq (.block 1 (.seq (.region 14 #[⟨some 83, .move (.tmp 6), 22, "", #[], none⟩,
    ⟨some 84, .move (.tmp 7), 3, "", #[], none⟩,
    ⟨some 85, .move (.tmp 16), 3, "", #[], none⟩,
    ⟨some 86, .call { callee := .value (.func 40), args := #[.tmp 83, .tmp 84, .tmp 85], argTypes := #[22, 3, 3] }, 4, "", #[], none⟩,
    ⟨some 87, .move (.tmp 5), 39, "", #[], none⟩,
    ⟨some 88, .move (.tmp 16), 3, "", #[], none⟩,
    ⟨some 89, .indexAddr 39 (.tmp 87) (.tmp 88), 0, "", #[], none⟩,
    ⟨some 90, .load 3 (.tmp 89), 3, "", #[], none⟩,
    ⟨some 91, .binOp .eql 3 (.tmp 90) (.const (.int .i64 1)) 3, 4, "", #[], none⟩,
    ⟨some 92, .binOp .neq 4 (.tmp 86) (.tmp 91) 4, 4, "", #[], none⟩] true)
  (.cond (.tmp 92)
    (.seq (.region 15 #[⟨some 4, .assign (.const (.bool false)), 4, "", #[], none⟩] false)
    .ret)
    .skip)))
  (.region 13 #[⟨some 81, .move (.tmp 16), 3, "", #[], none⟩,
    ⟨some 82, .binOp .add 3 (.tmp 81) (.const (.int .i64 1)) 3, 3, "", #[], none⟩,
    ⟨some 16, .assign (.tmp 82), 3, "", #[], none⟩] false))))))
  (.seq (.region 16 #[⟨some 93, .move (.tmp 1), 3, "", #[], none⟩,
    ⟨some 94, .binOp .geq 3 (.tmp 93) (.const (.int .i64 0)) 3, 4, "", #[], none⟩,
    ⟨some 95, .move (.tmp 94), 4, "", #[], none⟩,
    ⟨some 96, .move (.tmp 1), 3, "", #[], some (95, true)⟩,
    ⟨some 97, .move (.tmp 7), 3, "", #[], some (95, true)⟩,
    ⟨some 98, .binOp .lss 3 (.tmp 96) (.tmp 97) 3, 4, "", #[], some (95, true)⟩,
    ⟨some 99, .pick (.tmp 95) (.tmp 98) (.const (.bool false)), 4, "", #[], none⟩,
    ⟨some 100, .move (.tmp 99), 4, "", #[], none⟩,
    ⟨some 101, .move (.tmp 6), 22, "", #[], some (100, false)⟩,
    ⟨some 102, .move (.tmp 7), 3, "", #[], some (100, false)⟩,
    ⟨some 103, .move (.tmp 1), 3, "", #[], some (100, false)⟩,
    ⟨some 104, .call { callee := .value (.func 40), args := #[.tmp 101, .tmp 102, .tmp 103], argTypes := #[22, 3, 3] }, 4, "", #[], some (100, false)⟩,
    ⟨some 105, .unOp .not 4 (.tmp 104), 4, "", #[], some (100, false)⟩,
    ⟨some 106, .pick (.tmp 100) (.const (.bool true)) (.tmp 105), 4, "", #[], none⟩,
    ⟨some 107, .move (.tmp 106), 4, "", #[], none⟩,
    ⟨some 108, .call { callee := .value (.func 21), args := #[], argTypes := #[] }, 4, "", #[], some (107, true)⟩,
    ⟨some 109, .pick (.tmp 107) (.tmp 108) (.const (.bool false)), 4, "", #[], none⟩,
    ⟨some 4, .assign (.tmp 109), 4, "", #[], none⟩] false)
  .ret)))))))))))
def fn11 : AFn := { ntmps := 110, results := [.tmp 4], body := c11, keep := fun | 0 => some [1, 2] | 1 => some [1, 5] | 2 => some [1, 5, 6, 7] | 3 => some [1, 5, 6, 7, 8] | 4 => some [1, 5, 6, 7, 8, 9, 10] | 5 => some [1, 5, 6, 7, 8, 48] | 6 => some [4] | 7 => some [1, 5, 6, 7, 8, 11, 12] | 8 => some [1, 5, 6, 7, 8, 11, 12, 13, 14, 15] | 9 => some [1, 5, 6, 7, 77] | 10 => some [4] | 11 => some [1, 5, 6, 7, 16] | 12 => some [1, 5, 6, 7, 16, 80] | 13 => some [1, 5, 6, 7, 16] | 14 => some [1, 5, 6, 7, 16, 92] | 15 => some [4] | 16 => some [4] | _ => none, head := fun | 12 => some [1, 5, 6, 7, 16] | _ => none, opn := fun _ => none, dyn := fun _ => [] }
/-- vidimus/vidimuslaw08.BitstringsErrors -/
def c12 : Code :=
  (.seq (.region 0 #[⟨some 5, .box 59 (.tmp 2), 0, "", #[], none⟩,
    ⟨some 6, .assign (.const (.bool false)), 4, "", #[], none⟩] false)
  (.seq (.seq (.region 1 #[⟨some 23, .move (.tmp 0), 22, "", #[], none⟩,
    ⟨some 24, .call { callee := .builtin .len, args := #[.tmp 23], argTypes := #[22] }, 3, "", #[], none⟩,
    ⟨some 25, .binOp .gtr 3 (.tmp 24) (.const (.int .i64 60)) 3, 4, "", #[], none⟩,
    ⟨some 26, .move (.tmp 25), 4, "", #[], none⟩,
    ⟨some 27, .fieldAddr 59 (.tmp 5) 1, 0, "", #[], some (26, false)⟩,
    ⟨some 28, .load 22 (.tmp 27), 22, "", #[], some (26, false)⟩,
    ⟨some 29, .call { callee := .builtin .len, args := #[.tmp 28], argTypes := #[22] }, 3, "", #[], some (26, false)⟩,
    ⟨some 30, .binOp .gtr 3 (.tmp 29) (.const (.int .i64 60)) 3, 4, "", #[], some (26, false)⟩,
    ⟨some 31, .pick (.tmp 26) (.const (.bool true)) (.tmp 30), 4, "", #[], none⟩] false)
  (.cond (.tmp 31)
    (.seq (.region 2 #[⟨some 32, .call { callee := .value (.func 21), args := #[], argTypes := #[] }, 4, "", #[], none⟩,
      ⟨some 6, .assign (.tmp 32), 4, "", #[], none⟩] false)
    .ret)
    .skip))
  (.seq (.region 3 #[⟨some 33, .move (.tmp 0), 22, "", #[], none⟩,
    ⟨some 34, .move (.tmp 1), 3, "", #[], none⟩,
    ⟨some 35, .call { callee := .value (.func 41), args := #[.tmp 33, .tmp 34], argTypes := #[22, 3] }, 3, "", #[], none⟩,
    ⟨some 7, .assign (.tmp 35), 3, "", #[], none⟩] false)
  (.seq (.seq (.region 4 #[⟨some 36, .move (.tmp 0), 22, "", #[], none⟩,
    ⟨some 37, .move (.tmp 1), 3, "", #[], none⟩,
    ⟨some 38, .call { callee := .value (.func 36), args := #[.tmp 36, .tmp 37], argTypes := #[22, 3] }, 23, "", #[], none⟩,
    ⟨some 39, .move (.tmp 7), 3, "", #[], none⟩,
    ⟨some 40, .binOp .neq 3 (.tmp 38) (.tmp 39) 3, 4, "", #[], none⟩] false)
  (.cond (.tmp 40)
    (.seq (.region 5 #[⟨some 6, .assign (.const (.bool false)), 4, "", #[], none⟩] false)
    .ret)
    .skip))
  (.seq (.seq (.region 6 #[⟨some 41, .move (.tmp 7), 3, "", #[], none⟩,
    ⟨some 42, .binOp .neq 3 (.tmp 41) (.const (.int .i64 0)) 3, 4, "", #[], none⟩] false)
  (.cond (.tmp 42)
    (.seq (.region 7 #[⟨some 44, .move (.tmp 0), 22, "", #[], none⟩,
      ⟨some 45, .move (.tmp 1), 3, "", #[], none⟩,
      ⟨some 46, .call { callee := .value (.func 25), args := #[.tmp 44, .tmp 45], argTypes := #[22, 3] }, 24, "", #[], none⟩,
      ⟨some 43, .move (.tmp 46), 24, "", #[], none⟩,
      ⟨some 47, .extract (.tmp 43) 0, 22, "", #[], none⟩,
      ⟨some 48, .extract (.tmp 43) 1, 23, "", #[], none⟩,
      ⟨some 8, .assign (.tmp 47), 22, "", #[], none⟩,
      ⟨some 9, .assign (.tmp 48), 23, "", #[], none⟩] false)
    (.seq (.region 8 #[⟨some 50, .move (.tmp 0), 22, "", #[], none⟩,
      ⟨some 51, .move (.tmp 1), 3, "", #[], none⟩,
      ⟨some 52, .call { callee := .value (.func 37), args := #[.tmp 50, .tmp 51], argTypes := #[22, 3] }, 60, "", #[], none⟩,
      ⟨some 49, .move (.tmp 52), 60, "", #[], none⟩,
      ⟨some 53, .extract (.tmp 49) 0, 59, "", #[], none⟩,
      ⟨some 54, .extract (.tmp 49) 1, 23, "", #[], none⟩,
      ⟨some 10, .alloc 59, 0, "", #[], none⟩,
      ⟨none, .store 59 (.tmp 10) (.tmp 53), 0, "", #[], none⟩,
      ⟨some 11, .assign (.tmp 54), 23, "", #[], none⟩] false)
    (.seq (.region 9 #[⟨some 55, .move (.tmp 8), 22, "", #[], none⟩,
      ⟨some 56, .move (.tmp 9), 23, "", #[], none⟩,
      ⟨some 57, .move (.tmp 7), 3, "", #[], none⟩,
      ⟨some 58, .call { callee := .value (.func 26), args := #[.tmp 55, .tmp 56, .const (.slice none 0 0), .tmp 57], argTypes := #[22, 23, 22, 3] }, 4, "", #[], none⟩,
      ⟨some 59, .unOp .not 4 (.tmp 58), 4, "", #[], none⟩,
      ⟨some 60, .move (.tmp 59), 4, "", #[], none⟩,
      ⟨some 61, .move (.tmp 11), 23, "", #[], some (60, false)⟩,
      ⟨some 62, .move (.tmp 7), 3, "", #[], some (60, false)⟩,
      ⟨some 63, .binOp .neq 3 (.tmp 61) (.tmp 62) 3, 4, "", #[], some (60, false)⟩,
      ⟨some 64, .pick (.tmp 60) (.const (.bool true)) (.tmp 63), 4, "", #[], none⟩,
      ⟨some 65, .move (.tmp 64), 4, "", #[], none⟩,
      ⟨some 66, .fieldAddr 59 (.tmp 10) 1, 0, "", #[], some (65, false)⟩,
      ⟨some 67, .load 22 (.tmp 66), 22, "", #[], some (65, false)⟩,
      ⟨some 68, .call { callee := .builtin .len, args := #[.tmp 67], argTypes := #[22] }, 3, "", #[], some (65, false)⟩,
      ⟨some 69, .binOp .gtr 3 (.tmp 68) (.const (.int .i64 0)) 3, 4, "", #[], some (65, false)⟩,
      ⟨some 70, .pick (.tmp 65) (.const (.bool true)) (.tmp 69), 4, "", #[], none⟩,
      ⟨some 71, .move (.tmp 70), 4, "", #[], none⟩,
      ⟨some 72, .move (.tmp 0), 22, "", #[], some (71, false)⟩,
      ⟨some 73, .move (.tmp 1), 3, "", #[], some (71, false)⟩,
      ⟨some 74, .call { callee := .value (.func 40), args := #[.tmp 72, .tmp 73, .const (.int .i64 0)], argTypes := #[22, 3, 3] }, 4, "", #[], some (71, false)⟩,
      ⟨some 75, .pick (.tmp 71) (.const (.bool true)) (.tmp 74), 4, "", #[], none⟩] false)
    (.cond (.tmp 75)
      (.seq (.region 10 #[⟨some 6, .assign (.const (.bool false)), 4, "", #[], none⟩] false)
      .ret)
      .skip))))
    .skip))
  (.seq (.region 11 #[⟨some 77, .fieldAddr 59 (.tmp 5) 1, 0, "", #[], none⟩,
    ⟨some 78, .load 22 (.tmp 77), 22, "", #[], none⟩,
    ⟨some 79, .call { callee := .value (.func 22), args := #[.tmp 78], argTypes := #[22] }, 40, "", #[], none⟩,
    ⟨some 76, .move (.tmp 79), 40, "", #[], none⟩,
    ⟨some 80, .extract (.tmp 76) 0, 39, "", #[], none⟩,
    ⟨some 81, .extract (.tmp 76) 1, 3, "", #[], none⟩,
    ⟨some 12, .assign (.tmp 80), 39, "", #[], none⟩,
    ⟨some 13, .assign (.tmp 81), 3, "", #[], none⟩] false)
  (.seq (.seq (.region 12 #[⟨some 82, .fieldAddr 59 (.tmp 5) 2, 0, "", #[], none⟩,
    ⟨some 83, .load 57 (.tmp 82), 57, "", #[], none⟩,
    ⟨some 84, .call { callee := .builtin .len, args := #[.tmp 83], argTypes := #[57] }, 3, "", #[], none⟩,
    ⟨some 85, .binOp .gtr 3 (.tmp 84) (.const (.int .i64 0)) 3, 4, "", #[], none⟩] false)
  (.cond (.tmp 85)
    (.region 13 #[⟨some 12, .assign (.const (.slice none 0 0)), 39, "", #[], none⟩,
      ⟨some 13, .assign (.const (.int .i64 1)), 3, "", #[], none⟩] false)
    .skip))
  (.seq (.region 14 #[⟨some 86, .build 56 #[(2, .const (.int .u32 3))], 56, "", #[], none⟩,
    ⟨some 87, .build 56 #[(2, .const (.int .u32 4))], 56, "", #[], none⟩,
    ⟨some 14, .alloc 56, 0, "", #[], none⟩,
    ⟨some 15, .alloc 56, 0, "", #[], none⟩,
    ⟨none, .store 56 (.tmp 14) (.tmp 86), 0, "", #[], none⟩,
    ⟨none, .store 56 (.tmp 15) (.tmp 87), 0, "", #[], none⟩] false)
  (.seq (.seq (.region 15 #[⟨some 88, .fieldAddr 59 (.tmp 5) 0, 0, "", #[], none⟩,
    ⟨some 89, .load 56 (.tmp 88), 56, "", #[], none⟩,
    ⟨some 90, .load 56 (.tmp 14), 56, "", #[], none⟩,
    ⟨some 91, .binOp .neq 56 (.tmp 89) (.tmp 90) 56, 4, "", #[], none⟩] false)
  (.cond (.tmp 91)
    (.region 16 #[⟨some 12, .assign (.const (.slice none 0 0)), 39, "", #[], none⟩,
      ⟨some 13, .assign (.const (.int .i64 9)), 3, "", #[], none⟩] false)
    .skip))
  (.seq (.region 17 #[⟨some 93, .load 59 (.tmp 5), 59, "", #[], none⟩,
    ⟨some 94, .call { callee := .value (.func 38), args := #[.tmp 93], argTypes := #[59] }, 52, "", #[], none⟩,
    ⟨some 92, .move (.tmp 94), 52, "", #[], none⟩,
    ⟨some 95, .extract (.tmp 92) 0, 22, "", #[], none⟩,
    ⟨some 96, .extract (.tmp 92) 1, 3, "", #[], none⟩,
    ⟨some 97, .extract (.tmp 92) 2, 23, "", #[], none⟩,
    ⟨some 16, .assign (.tmp 95), 22, "", #[], none⟩,
    ⟨some 17, .assign (.tmp 96), 3, "", #[], none⟩,
    ⟨some 18, .assign (.tmp 97), 23, "", #[], none⟩] false)
  (.seq (.seq (.region 18 #[⟨some 98, .move (.tmp 16), 22, "", #[], none⟩,
    ⟨some 99, .move (.tmp 18), 23, "", #[], none⟩,
    ⟨some 100, .move (.tmp 12), 39, "", #[], none⟩,
    ⟨some 101, .call { callee := .value (.func 24), args := #[.tmp 100], argTypes := #[39] }, 22, "", #[], none⟩,
    ⟨some 102, .move (.tmp 13), 3, "", #[], none⟩,
    ⟨some 103, .call { callee := .value (.func 26), args := #[.tmp 98, .tmp 99, .tmp 101, .tmp 102], argTypes := #[22, 23, 22, 3] }, 4, "", #[], none⟩,
    ⟨some 104, .unOp .not 4 (.tmp 103), 4, "", #[], none⟩,
    ⟨some 105, .move (.tmp 104), 4, "", #[], none⟩,
    ⟨some 106, .move (.tmp 17), 3, "", #[], some (105, false)⟩,
    ⟨some 107, .move (.tmp 12), 39, "", #[], some (105, false)⟩,
    ⟨some 108, .call { callee := .builtin .len, args := #[.tmp 107], argTypes := #[39] }, 3, "", #[], some (105, false)⟩,
    ⟨some 109, .binOp .neq 3 (.tmp 106) (.tmp 108) 3, 4, "", #[], some (105, false)⟩,
    ⟨some 110, .pick (.tmp 105) (.const (.bool true)) (.tmp 109), 4, "", #[], none⟩] false)
  (.cond (.tmp 110)
    (.seq (.region 19 #[⟨some 6, .assign (.const (.bool false)), 4, "", #[], none⟩] false)
    .ret)
    .skip))
  (.seq (.region 20 #[⟨some 112, .load 59 (.tmp 5), 59, "", #[], none⟩,
    ⟨some 113, .call { callee := .value (.func 33), args := #[.tmp 112], argTypes := #[59] }, 24, "", #[], none⟩,
    ⟨some 111, .move (.tmp 113), 24, "", #[], none⟩,
    ⟨some 114, .extract (.tmp 111) 0, 22, "", #[], none⟩,
    ⟨some 115, .extract (.tmp 111) 1, 23, "", #[], none⟩,
    ⟨some 19, .assign (.tmp 114), 22, "", #[], none⟩,
    ⟨some 20, .assign (.tmp 115), 23, "", #[], none⟩] false)
  (.seq (.seq (.region 21 #[⟨some 116, .fieldAddr 59 (.tmp 5) 0, 0, "", #[], none⟩,
    ⟨some 117, .load 56 (.tmp 116), 56, "", #[], none⟩,
    ⟨some 118, .load 56 (.tmp 15), 56, "", #[], none⟩,
    ⟨some 119, .binOp .neq 56 (.tmp 117) (.tmp 118) 56, 4, "", #[], none⟩] false)
  (.cond (.tmp 119)
    (.seq (.region 22 #[⟨some 120, .move (.tmp 19), 22, "", #[], none⟩,
      ⟨some 121, .move (.tmp 20), 23, "", #[], none⟩,
      ⟨some 122, .call { callee := .value (.func 26), args := #[.tmp 120, .tmp 121, .const (.slice none 0 0), .const (.int .i64 9)], argTypes := #[22, 23, 22, 3] }, 4, "", #[], none⟩,
      ⟨some 123, .move (.tmp 122), 4, "", #[], none⟩,
      ⟨some 124, .call { callee := .value (.func 21), args := #[], argTypes := #[] }, 4, "", #[], some (123, true)⟩,
      ⟨some 125, .pick (.tmp 123) (.tmp 124) (.const (.bool false)), 4, "", #[], none⟩,
      ⟨some 6, .assign (.tmp 125), 4, "", #[], none⟩] false)
    .ret)
    .skip))
  (.seq (.seq (.region 23 #[⟨some 126, .fieldAddr 59 (.tmp 5) 2, 0, "", #[], none⟩,
    ⟨some 127, .load 57 (.tmp 126), 57, "", #[], none⟩,
    ⟨some 128, .call { callee := .builtin .len, args := #[.tmp 127], argTypes := #[57] }, 3, "", #[], none⟩,
    ⟨some 129, .binOp .gtr 3 (.tmp 128) (.const (.int .i64 0)) 3, 4, "", #[], none⟩] false)
  (.cond (.tmp 129)
    (.seq (.region 24 #[⟨some 130, .move (.tmp 19), 22, "", #[], none⟩,
      ⟨some 131, .move (.tmp 20), 23, "", #[], none⟩,
      ⟨some 132, .call { callee := .value (.func 26), args := #[.tmp 130, .tmp 131, .const (.slice none 0 0), .const (.int .i64 1)], argTypes := #[22, 23, 22, 3] }, 4, "", #[], none⟩,
      ⟨some 133, .move (.tmp 132), 4, "", #[], none⟩,
      ⟨some 134, .call { callee := .value (.func 21), args := #[], argTypes := #[] }, 4, "", #[], some (133, true)⟩,
      ⟨some 135, .pick (.tmp 133) (.tmp 134) (.const (.bool false)), 4, "", #[], none⟩,
      ⟨some 6, .assign (.tmp 135), 4, "", #[], none⟩] false)
    .ret)
    .skip))
  (.seq (.region 25 #[⟨some 137, .move (.tmp 19), 22, "", #[], none⟩,
    ⟨some 138, .call { callee := .value (.func 32), args := #[.tmp 137], argTypes := #[22] }, 60, "", #[], none⟩,
    ⟨some 136, .move (.tmp 138), 60, "", #[], none⟩,
    ⟨some 139, .extract (.tmp 136) 0, 59, "", #[], none⟩,
    ⟨some 140, .extract (.tmp 136) 1, 23, "", #[], none⟩,
    ⟨some 21, .alloc 59, 0, "", #[], none⟩,
    ⟨none, .store 59 (.tmp 21) (.tmp 139), 0, "", #[], none⟩,
    ⟨some 22, .assign (.tmp 140), 23, "", #[], none⟩] false)
  (.seq (.region 26 #[⟨some 141, .move (.tmp 19), 22, "", #[], none⟩,
    ⟨some 142, .move (.tmp 20), 23, "", #[], none⟩,
    ⟨some 143, .fieldAddr 59 (.tmp 5) 1, 0, "", #[], none⟩,
    ⟨some 144, .load 22 (.tmp 143), 22, "", #[], none⟩,
    ⟨some 145, .call { callee := .value (.func 26), args := #[.tmp 141, .tmp 142, .tmp 144, .const (.int .i64 0)], argTypes := #[22, 23, 22, 3] }, 4, "", #[], none⟩,
    ⟨some 146, .move (.tmp 145), 4, "", #[], none⟩,
    ⟨some 147, .load 59 (.tmp 21), 59, "", #[], some (146, true)⟩,
    ⟨some 148, .move (.tmp 22), 23, "", #[], some (146, true)⟩,
    ⟨some 149, .fieldAddr 59 (.tmp 5) 1, 0, "", #[], some (146, true)⟩,
    ⟨some 150, .load 22 (.tmp 149), 22, "", #[], some (146, true)⟩,
    ⟨some 151, .call { callee := .value (.func 39), args := #[.tmp 147, .tmp 148, .const (.int .u32 4), .tmp 150], argTypes := #[59, 23, 31, 22] }, 4, "", #[], some (146, true)⟩,
    ⟨some 152, .pick (.tmp 146) (.tmp 151) (.const (.bool false)), 4, "", #[], none⟩,
    ⟨some 153, .move (.tmp 152), 4, "", #[], none⟩,
    ⟨some 154, .call { callee := .value (.func 21), args := #[], argTypes := #[] }, 4, "", #[], some (153, true)⟩,
    ⟨some 155, .pick (.tmp 153) (.tmp 154) (.const (.bool false)), 4, "", #[], none⟩,
    ⟨some 6, .assign (.tmp 155), 4, "", #[], none⟩] false)
  .ret))))))))))))))))
def fn12 : AFn := { ntmps := 156, results := [.tmp 6], body := c12, keep := fun | 0 => some [0, 1, 5] | 1 => some [0, 1, 5, 31] | 2 => some [6] | 3 => some [0, 1, 5, 7] | 4 => some [0, 1, 5, 7, 40] | 5 => some [6] | 6 => some [0, 1, 5, 7, 42] | 7 => some [0, 1, 5, 7, 8, 9] | 8 => some [0, 1, 5, 7, 8, 9, 10, 11] | 9 => some [5, 75] | 10 => some [6] | 11 => some [5, 12, 13] | 12 => some [5, 12, 13, 85] | 13 => some [5, 12, 13] | 14 => some [5, 12, 13, 14, 15] | 15 => some [5, 12, 13, 15, 91] | 16 => some [5, 12, 13, 15] | 17 => some [5, 12, 13, 15, 16, 17, 18] | 18 => some [5, 15, 110] | 19 => some [6] | 20 => some [5, 15, 19, 20] | 21 => some [5, 19, 20, 119] | 22 => some [6] | 23 => some [5, 19, 20, 129] | 24 => some [6] | 25 => some [5, 19, 20, 21, 22] | 26 => some [6] | _ => none, head := fun  | _ => none, opn := fun _ => none, dyn := fun _ => [] }
/-- vidimus/lengths.Put -/
def c13 : Code :=
  (.seq (.region 0 #[⟨some 2, .assign (.const (.slice none 0 0)), 22, "", #[], none⟩,
    ⟨some 3, .assign (.const (.int .i64 0)), 23, "", #[], none⟩] false)
  (.seq (.block 0 (.seq (.region 1 #[⟨some 6, .move (.tmp 0), 3, "", #[], none⟩,
    ⟨some 7, .binOp .lss 3 (.tmp 6) (.const (.int .i64 0)) 3, 4, "", #[], none⟩,
    ⟨some 5, .assign (.tmp 7), 4, "", #[], none⟩] false)
  (.cond (.tmp 5)
    (.seq (.region 2 #[⟨some 2, .assign (.const (.slice none 0 0)), 22, "", #[], none⟩,
      ⟨some 3, .assign (.const (.int .i64 1)), 23, "", #[], none⟩] false)
    .ret)
    (.seq (.region 3 #[⟨some 9, .move (.tmp 0), 3, "", #[], none⟩,
      ⟨some 10, .binOp .gtr 3 (.tmp 9) (.const (.int .i64 16777215)) 3, 4, "", #[], none⟩,
      ⟨some 8, .assign (.tmp 10), 4, "", #[], none⟩] false)
    (.cond (.tmp 8)
      (.seq (.region 4 #[⟨some 2, .assign (.const (.slice none 0 0)), 22, "", #[], none⟩,
        ⟨some 3, .assign (.const (.int .i64 3)), 23, "", #[], none⟩] false)
      .ret)
      (.seq (.region 5 #[⟨some 12, .move (.tmp 0), 3, "", #[], none⟩,
        ⟨some 13, .binOp .leq 3 (.tmp 12) (.const (.int .i64 127)) 3, 4, "", #[], none⟩,
        ⟨some 11, .assign (.tmp 13), 4, "", #[], none⟩] false)
      (.cond (.tmp 11)
        (.seq (.region 6 #[⟨some 14, .move (.tmp 0), 3, "", #[], none⟩,
          ⟨some 15, .convert 3 5 (.tmp 14), 5, "", #[], none⟩,
          ⟨some 16, .buildSlice 22 1 #[(0, .tmp 15)], 22, "", #[], none⟩,
          ⟨some 2, .assign (.tmp 16), 22, "", #[], none⟩,
          ⟨some 3, .assign (.const (.int .i64 0)), 23, "", #[], none⟩] false)
        .ret)
        .skip)))))))
  (.seq (.region 7 #[⟨some 17, .buildSlice 22 1 #[(0, .const (.int .u8 0))], 22, "", #[], none⟩,
    ⟨some 4, .assign (.tmp 17), 22, "", #[], none⟩] false)
  (.seq (.block 1 (.seq (.block 4 (.seq (.block 3 (.seq (.block 2 (.seq (.seq (.seq (.region 8 #[⟨some 19, .move (.tmp 0), 3, "", #[], none⟩,
    ⟨some 20, .binOp .gtr 3 (.tmp 19) (.const (.int .i64 65535)) 3, 4, "", #[], none⟩,
    ⟨some 18, .assign (.tmp 20), 4, "", #[], none⟩] false)
  (.cond (.tmp 18)
    (.exit 2)
    .skip))
  (.seq (.region 9 #[⟨some 22, .move (.tmp 0), 3, "", #[], none⟩,
    ⟨some 23, .binOp .gtr 3 (.tmp 22) (.const (.int .i64 255)) 3, 4, "", #[], none⟩,
    ⟨some 21, .assign (.tmp 23), 4, "", #[], none⟩] false)
  (.cond (.tmp 21)
    (.exit 3)
    .skip)))
  (.exit 4)))
  (.region 10 #[⟨some 24, .move (.tmp 4), 22, "", #[], none⟩,
    ⟨some 25, .move (.tmp 0), 3, "", #[], none⟩,
    ⟨some 26, .binOp .shr 3 (.tmp 25) (.const (.int .u64 16)) 51, 3, "", #[], none⟩,
    ⟨some 27, .convert 3 5 (.tmp 26), 5, "", #[], none⟩,
    ⟨some 28, .buildSlice 22 1 #[(0, .tmp 27)], 22, "", #[], none⟩,
    ⟨some 29, .call { callee := .builtin .append, args := #[.tmp 24, .tmp 28], argTypes := #[22, 22] }, 22, "", #[], none⟩,
    ⟨some 4, .assign (.tmp 29), 22, "", #[], none⟩] false)))
  (.region 11 #[⟨some 30, .move (.tmp 4), 22, "", #[], none⟩,
    ⟨some 31, .move (.tmp 0), 3, "", #[], none⟩,
    ⟨some 32, .binOp .shr 3 (.tmp 31) (.const (.int .u64 8)) 51, 3, "", #[], none⟩,
    ⟨some 33, .convert 3 5 (.tmp 32), 5, "", #[], none⟩,
    ⟨some 34, .buildSlice 22 1 #[(0, .tmp 33)], 22, "", #[], none⟩,
    ⟨some 35, .call { callee := .builtin .append, args := #[.tmp 30, .tmp 34], argTypes := #[22, 22] }, 22, "", #[], none⟩,
    ⟨some 4, .assign (.tmp 35), 22, "", #[], none⟩] false)))
  (.seq (.region 12 #[⟨some 36, .move (.tmp 4), 22, "", #[], none⟩,
    ⟨some 37, .move (.tmp 0), 3, "", #[], none⟩,
    ⟨some 38, .convert 3 5 (.tmp 37), 5, "", #[], none⟩,
    ⟨some 39, .buildSlice 22 1 #[(0, .tmp 38)], 22, "", #[], none⟩,
    ⟨some 40, .call { callee := .builtin .append, args := #[.tmp 36, .tmp 39], argTypes := #[22, 22] }, 22, "", #[], none⟩,
    ⟨some 4, .assign (.tmp 40), 22, "", #[], none⟩] false)
  (.exit 1))))
  (.seq (.region 13 #[⟨some 41, .move (.tmp 4), 22, "", #[], none⟩,
    ⟨some 42, .move (.tmp 4), 22, "", #[], none⟩,
    ⟨some 43, .call { callee := .builtin .len, args := #[.tmp 42], argTypes := #[22] }, 3, "", #[], none⟩,
    ⟨some 44, .binOp .sub 3 (.tmp 43) (.const (.int .i64 1)) 3, 3, "", #[], none⟩,
    ⟨some 45, .convert 3 5 (.tmp 44), 5, "", #[], none⟩,
    ⟨some 46, .binOp .add 5 (.const (.int .u8 128)) (.tmp 45) 5, 5, "", #[], none⟩,
    ⟨some 47, .indexAddr 22 (.tmp 41) (.const (.int .i64 0)), 0, "", #[], none⟩,
    ⟨none, .store 5 (.tmp 47) (.tmp 46), 0, "", #[], none⟩] false)
  (.seq (.region 14 #[⟨some 48, .move (.tmp 4), 22, "", #[], none⟩,
    ⟨some 49, .call { callee := .value (.func 42), args := #[.tmp 48], argTypes := #[22] }, 22, "", #[], none⟩,
    ⟨some 2, .assign (.tmp 49), 22, "", #[], none⟩,
    ⟨some 3, .assign (.const (.int .i64 0)), 23, "", #[], none⟩] false)
  .ret))))))
def fn13 : AFn := { ntmps := 50, results := [.tmp 2, .tmp 3], body := c13, keep := fun | 0 => some [0] | 1 => some [0, 5] | 2 => some [2, 3] | 3 => some [0, 8] | 4 => some [2, 3] | 5 => some [0, 11] | 6 => some [2, 3] | 7 => some [0, 4] | 8 => some [0, 4, 18] | 9 => some [0, 4, 21] | 10 => some [0, 4] | 11 => some [0, 4] | 12 => some [4] | 13 => some [4] | 14 => some [2, 3] | _ => none, head := fun  | _ => none, opn := fun _ => none, dyn := fun _ => [] }
/-- vidimus/vidimuslaw03.same -/
def c14 : Code :=
  (.seq (.region 0 #[⟨some 8, .assign (.const (.bool false)), 4, "", #[], none⟩] false)
  (.seq (.region 1 #[⟨some 9, .move (.tmp 1), 23, "", #[], none⟩,
    ⟨some 10, .move (.tmp 3), 3, "", #[], none⟩,
    ⟨some 11, .binOp .eql 3 (.tmp 9) (.tmp 10) 3, 4, "", #[], none⟩,
    ⟨some 12, .move (.tmp 11), 4, "", #[], none⟩,
    ⟨some 13, .move (.tmp 0), 22, "", #[], some (12, true)⟩,
    ⟨some 14, .convert 22 9 (.tmp 13), 9, "", #[], some (12, true)⟩,
    ⟨some 15, .move (.tmp 2), 22, "", #[], some (12, true)⟩,
    ⟨some 16, .convert 22 9 (.tmp 15), 9, "", #[], some (12, true)⟩,
    ⟨some 17, .binOp .eql 9 (.tmp 14) (.tmp 16) 9, 4, "", #[], some (12, true)⟩,
    ⟨some 18, .pick (.tmp 12) (.tmp 17) (.const (.bool false)), 4, "", #[], none⟩,
    ⟨some 19, .move (.tmp 18), 4, "", #[], none⟩,
    ⟨some 20, .move (.tmp 0), 22, "", #[], some (19, true)⟩,
    ⟨some 21, .call { callee := .builtin .cap, args := #[.tmp 20], argTypes := #[22] }, 3, "", #[], some (19, true)⟩,
    ⟨some 22, .move (.tmp 0), 22, "", #[], some (19, true)⟩,
    ⟨some 23, .call { callee := .builtin .len, args := #[.tmp 22], argTypes := #[22] }, 3, "", #[], some (19, true)⟩,
    ⟨some 24, .binOp .eql 3 (.tmp 21) (.tmp 23) 3, 4, "", #[], some (19, true)⟩,
    ⟨some 25, .pick (.tmp 19) (.tmp 24) (.const (.bool false)), 4, "", #[], none⟩,
    ⟨some 8, .assign (.tmp 25), 4, "", #[], none⟩] false)
  .ret))
def fn14 : AFn := { ntmps := 26, results := [.tmp 8], body := c14, keep := fun | 0 => some [0, 1, 2, 3] | 1 => some [8] | _ => none, head := fun  | _ => none, opn := fun _ => none, dyn := fun _ => [] }
/-- vidimus/lengths.Size -/
def c15 : Code :=
  (.seq (.region 0 #[⟨some 2, .assign (.const (.int .i64 0)), 3, "", #[], none⟩] false)
  (.seq (.region 1 #[⟨some 6, .move (.tmp 0), 3, "", #[], none⟩,
    ⟨some 7, .call { callee := .value (.func 13), args := #[.tmp 6], argTypes := #[3] }, 24, "", #[], none⟩,
    ⟨some 5, .move (.tmp 7), 24, "", #[], none⟩,
    ⟨some 8, .extract (.tmp 5) 0, 22, "", #[], none⟩,
    ⟨some 9, .extract (.tmp 5) 1, 23, "", #[], none⟩,
    ⟨some 3, .assign (.tmp 8), 22, "", #[], none⟩,
    ⟨some 4, .assign (.tmp 9), 23, "", #[], none⟩] false)
  (.seq (.region 2 #[⟨some 10, .move (.tmp 3), 22, "", #[], none⟩,
    ⟨some 11, .call { callee := .builtin .len, args := #[.tmp 10], argTypes := #[22] }, 3, "", #[], none⟩,
    ⟨some 2, .assign (.tmp 11), 3, "", #[], none⟩] false)
  .ret)))
def fn15 : AFn := { ntmps := 12, results := [.tmp 2], body := c15, keep := fun | 0 => some [0] | 1 => some [3] | 2 => some [2] | _ => none, head := fun  | _ => none, opn := fun _ => none, dyn := fun _ => [] }
/-- vidimus/vidimuslaw03.lives -/
def c16 : Code :=
  (.seq (.region 0 #[⟨some 0, .assign (.const (.bool false)), 4, "", #[], none⟩] false)
  (.seq (.region 1 #[⟨some 6, .call { callee := .value (.func 13), args := #[.const (.int .i64 (-1))], argTypes := #[3] }, 24, "", #[], none⟩,
    ⟨some 5, .move (.tmp 6), 24, "", #[], none⟩,
    ⟨some 7, .extract (.tmp 5) 0, 22, "", #[], none⟩,
    ⟨some 8, .extract (.tmp 5) 1, 23, "", #[], none⟩,
    ⟨some 1, .assign (.tmp 7), 22, "", #[], none⟩,
    ⟨some 2, .assign (.tmp 8), 23, "", #[], none⟩] false)
  (.seq (.region 2 #[⟨some 10, .call { callee := .value (.func 13), args := #[.const (.int .i64 16777216)], argTypes := #[3] }, 24, "", #[], none⟩,
    ⟨some 9, .move (.tmp 10), 24, "", #[], none⟩,
    ⟨some 11, .extract (.tmp 9) 0, 22, "", #[], none⟩,
    ⟨some 12, .extract (.tmp 9) 1, 23, "", #[], none⟩,
    ⟨some 3, .assign (.tmp 11), 22, "", #[], none⟩,
    ⟨some 4, .assign (.tmp 12), 23, "", #[], none⟩] false)
  (.seq (.seq (.region 3 #[⟨some 13, .call { callee := .value (.func 43), args := #[.const (.int .i64 0), .const (.string { data := #[0] })], argTypes := #[3, 9] }, 4, "", #[], none⟩,
    ⟨some 14, .unOp .not 4 (.tmp 13), 4, "", #[], none⟩,
    ⟨some 15, .move (.tmp 14), 4, "", #[], none⟩,
    ⟨some 16, .call { callee := .value (.func 43), args := #[.const (.int .i64 127), .const (.string { data := #[127] })], argTypes := #[3, 9] }, 4, "", #[], some (15, false)⟩,
    ⟨some 17, .unOp .not 4 (.tmp 16), 4, "", #[], some (15, false)⟩,
    ⟨some 18, .pick (.tmp 15) (.const (.bool true)) (.tmp 17), 4, "", #[], none⟩,
    ⟨some 19, .move (.tmp 18), 4, "", #[], none⟩,
    ⟨some 20, .call { callee := .value (.func 43), args := #[.const (.int .i64 128), .const (.string { data := #[129, 128] })], argTypes := #[3, 9] }, 4, "", #[], some (19, false)⟩,
    ⟨some 21, .unOp .not 4 (.tmp 20), 4, "", #[], some (19, false)⟩,
    ⟨some 22, .pick (.tmp 19) (.const (.bool true)) (.tmp 21), 4, "", #[], none⟩,
    ⟨some 23, .move (.tmp 22), 4, "", #[], none⟩,
    ⟨some 24, .call { callee := .value (.func 43), args := #[.const (.int .i64 300), .const (.string { data := #[130, 1, 44] })], argTypes := #[3, 9] }, 4, "", #[], some (23, false)⟩,
    ⟨some 25, .unOp .not 4 (.tmp 24), 4, "", #[], some (23, false)⟩,
    ⟨some 26, .pick (.tmp 23) (.const (.bool true)) (.tmp 25), 4, "", #[], none⟩,
    ⟨some 27, .move (.tmp 26), 4, "", #[], none⟩,
    ⟨some 28, .call { callee := .value (.func 43), args := #[.const (.int .i64 65536), .const (.string { data := #[131, 1, 0, 0] })], argTypes := #[3, 9] }, 4, "", #[], some (27, false)⟩,
    ⟨some 29, .unOp .not 4 (.tmp 28), 4, "", #[], some (27, false)⟩,
    ⟨some 30, .pick (.tmp 27) (.const (.bool true)) (.tmp 29), 4, "", #[], none⟩,
    ⟨some 31, .move (.tmp 30), 4, "", #[], none⟩,
    ⟨some 32, .move (.tmp 2), 23, "", #[], some (31, false)⟩,
    ⟨some 33, .binOp .neq 23 (.tmp 32) (.const (.int .i64 1)) 23, 4, "", #[], some (31, false)⟩,
    ⟨some 34, .pick (.tmp 31) (.const (.bool true)) (.tmp 33), 4, "", #[], none⟩,
    ⟨some 35, .move (.tmp 34), 4, "", #[], none⟩,
    ⟨some 36, .move (.tmp 4), 23, "", #[], some (35, false)⟩,
    ⟨some 37, .binOp .neq 23 (.tmp 36) (.const (.int .i64 3)) 23, 4, "", #[], some (35, false)⟩,
    ⟨some 38, .pick (.tmp 35) (.const (.bool true)) (.tmp 37), 4, "", #[], none⟩,
    ⟨some 39, .move (.tmp 38), 4, "", #[], none⟩,
    ⟨some 40, .call { callee := .value (.func 15), args := #[.const (.int .i64 255)], argTypes := #[3] }, 3, "", #[], some (39, false)⟩,
    ⟨some 41, .binOp .neq 3 (.tmp 40) (.const (.int .i64 2)) 3, 4, "", #[], some (39, false)⟩,
    ⟨some 42, .pick (.tmp 39) (.const (.bool true)) (.tmp 41), 4, "", #[], none⟩,
    ⟨some 43, .move (.tmp 42), 4, "", #[], none⟩,
    ⟨some 44, .call { callee := .value (.func 20), args := #[.const (.int .i64 1), .const (.int .i64 255)], argTypes := #[3, 3] }, 3, "", #[], some (43, false)⟩,
    ⟨some 45, .binOp .neq 3 (.tmp 44) (.const (.int .i64 258)) 3, 4, "", #[], some (43, false)⟩,
    ⟨some 46, .pick (.tmp 43) (.const (.bool true)) (.tmp 45), 4, "", #[], none⟩] false)
  (.cond (.tmp 46)
    (.seq (.region 4 #[⟨some 0, .assign (.const (.bool false)), 4, "", #[], none⟩] false)
    .ret)
    .skip))
  (.seq (.seq (.region 5 #[⟨some 47, .buildSlice 22 2 #[(0, .const (.int .u8 5)), (1, .const (.int .u8 255))], 22, "", fz, none⟩,
    ⟨some 48, .call { callee := .value (.func 18), args := #[.tmp 47, .const (.int .i64 5), .const (.int .i64 1), .const (.int .i64 0)], argTypes := #[22, 3, 3, 3] }, 4, "", #[], none⟩,
    ⟨some 49, .unOp .not 4 (.tmp 48), 4, "", #[], none⟩,
    ⟨some 50, .move (.tmp 49), 4, "", #[], none⟩,
    ⟨some 51, .buildSlice 22 2 #[(0, .const (.int .u8 129)), (1, .const (.int .u8 128))], 22, "", fz, some (50, false)⟩,
    ⟨some 52, .call { callee := .value (.func 18), args := #[.tmp 51, .const (.int .i64 128), .const (.int .i64 2), .const (.int .i64 0)], argTypes := #[22, 3, 3, 3] }, 4, "", #[], some (50, false)⟩,
    ⟨some 53, .unOp .not 4 (.tmp 52), 4, "", #[], some (50, false)⟩,
    ⟨some 54, .pick (.tmp 50) (.const (.bool true)) (.tmp 53), 4, "", #[], none⟩,
    ⟨some 55, .move (.tmp 54), 4, "", #[], none⟩,
    ⟨some 56, .buildSlice 22 4 #[(0, .const (.int .u8 130)), (1, .const (.int .u8 1)), (2, .const (.int .u8 44)), (3, .const (.int .u8 0))], 22, "", fz, some (55, false)⟩,
    ⟨some 57, .call { callee := .value (.func 18), args := #[.tmp 56, .const (.int .i64 300), .const (.int .i64 3), .const (.int .i64 0)], argTypes := #[22, 3, 3, 3] }, 4, "", #[], some (55, false)⟩,
    ⟨some 58, .unOp .not 4 (.tmp 57), 4, "", #[], some (55, false)⟩,
    ⟨some 59, .pick (.tmp 55) (.const (.bool true)) (.tmp 58), 4, "", #[], none⟩] false)
  (.cond (.tmp 59)
    (.seq (.region 6 #[⟨some 0, .assign (.const (.bool false)), 4, "", #[], none⟩] false)
    .ret)
    .skip))
  (.seq (.region 7 #[⟨some 60, .call { callee := .value (.func 18), args := #[.const (.slice none 0 0), .const (.int .i64 0), .const (.int .i64 0), .const (.int .i64 7)], argTypes := #[22, 3, 3, 3] }, 4, "", #[], none⟩,
    ⟨some 61, .move (.tmp 60), 4, "", #[], none⟩,
    ⟨some 62, .buildSlice 22 1 #[(0, .const (.int .u8 128))], 22, "", fz, some (61, true)⟩,
    ⟨some 63, .call { callee := .value (.func 18), args := #[.tmp 62, .const (.int .i64 0), .const (.int .i64 0), .const (.int .i64 10)], argTypes := #[22, 3, 3, 3] }, 4, "", #[], some (61, true)⟩,
    ⟨some 64, .pick (.tmp 61) (.tmp 63) (.const (.bool false)), 4, "", #[], none⟩,
    ⟨some 65, .move (.tmp 64), 4, "", #[], none⟩,
    ⟨some 66, .buildSlice 22 5 #[(0, .const (.int .u8 132)), (1, .const (.int .u8 0)), (2, .const (.int .u8 0)), (3, .const (.int .u8 0)), (4, .const (.int .u8 1))], 22, "", fz, some (65, true)⟩,
    ⟨some 67, .call { callee := .value (.func 18), args := #[.tmp 66, .const (.int .i64 0), .const (.int .i64 0), .const (.int .i64 10)], argTypes := #[22, 3, 3, 3] }, 4, "", #[], some (65, true)⟩,
    ⟨some 68, .pick (.tmp 65) (.tmp 67) (.const (.bool false)), 4, "", #[], none⟩,
    ⟨some 69, .move (.tmp 68), 4, "", #[], none⟩,
    ⟨some 70, .buildSlice 22 2 #[(0, .const (.int .u8 130)), (1, .const (.int .u8 1))], 22, "", fz, some (69, true)⟩,
    ⟨some 71, .call { callee := .value (.func 18), args := #[.tmp 70, .const (.int .i64 0), .const (.int .i64 0), .const (.int .i64 7)], argTypes := #[22, 3, 3, 3] }, 4, "", #[], some (69, true)⟩,
    ⟨some 72, .pick (.tmp 69) (.tmp 71) (.const (.bool false)), 4, "", #[], none⟩,
    ⟨some 73, .move (.tmp 72), 4, "", #[], none⟩,
    ⟨some 74, .buildSlice 22 2 #[(0, .const (.int .u8 129)), (1, .const (.int .u8 127))], 22, "", fz, some (73, true)⟩,
    ⟨some 75, .call { callee := .value (.func 18), args := #[.tmp 74, .const (.int .i64 0), .const (.int .i64 0), .const (.int .i64 10)], argTypes := #[22, 3, 3, 3] }, 4, "", #[], some (73, true)⟩,
    ⟨some 76, .pick (.tmp 73) (.tmp 75) (.const (.bool false)), 4, "", #[], none⟩,
    ⟨some 77, .move (.tmp 76), 4, "", #[], none⟩,
    ⟨some 78, .buildSlice 22 3 #[(0, .const (.int .u8 130)), (1, .const (.int .u8 0)), (2, .const (.int .u8 255))], 22, "", fz, some (77, true)⟩,
    ⟨some 79, .call { callee := .value (.func 18), args := #[.tmp 78, .const (.int .i64 0), .const (.int .i64 0), .const (.int .i64 10)], argTypes := #[22, 3, 3, 3] }, 4, "", #[], some (77, true)⟩,
    ⟨some 80, .pick (.tmp 77) (.tmp 79) (.const (.bool false)), 4, "", #[], none⟩,
    ⟨some 0, .assign (.tmp 80), 4, "", #[], none⟩] false)
  .ret))))))
def fn16 : AFn := { ntmps := 81, results := [.tmp 0], body := c16, keep := fun | 0 => some [] | 1 => some [2] | 2 => some [2, 4] | 3 => some [46] | 4 => some [0] | 5 => some [59] | 6 => some [0] | 7 => some [0] | _ => none, head := fun  | _ => none, opn := fun _ => none, dyn := fun _ => [] }
/-- vidimus/vidimusref03.Put -/
def c17 : Code :=
  (.seq (.region 0 #[⟨some 2, .assign (.const (.slice none 0 0)), 22, "", #[], none⟩] false)
  (.seq (.seq (.region 1 #[⟨some 4, .move (.tmp 0), 3, "", #[], none⟩,
    ⟨some 5, .binOp .lss 3 (.tmp 4) (.const (.int .i64 128)) 3, 4, "", #[], none⟩] false)
  (.cond (.tmp 5)
    (.seq (.region 2 #[⟨some 6, .move (.tmp 0), 3, "", #[], none⟩,
      ⟨some 7, .convert 3 5 (.tmp 6), 5, "", #[], none⟩,
      ⟨some 8, .buildSlice 22 1 #[(0, .tmp 7)], 22, "", #[], none⟩,
      ⟨some 2, .assign (.tmp 8), 22, "", #[], none⟩] false)
    .ret)
    .skip))
  (.seq (.region 3 #[⟨some 3, .assign (.const (.slice none 0 0)), 22, "", #[], none⟩] false)
  (.seq (.block 0 (.loop (.seq (.seq (.region 4 #[⟨some 9, .move (.tmp 0), 3, "", #[], none⟩,
    ⟨some 10, .binOp .gtr 3 (.tmp 9) (.const (.int .i64 0)) 3, 4, "", #[], none⟩] false)
  (.cond (.tmp 10)
    .skip
    (.exit 0)))
  (.block 1 (.seq (.region 5 #[⟨some 11, .move (.tmp 0), 3, "", #[], none⟩,
    ⟨some 12, .binOp .rem 3 (.tmp 11) (.const (.int .i64 256)) 3, 3, "", #[], none⟩,
    ⟨some 13, .convert 3 5 (.tmp 12), 5, "", #[], none⟩,
    ⟨some 14, .buildSlice 22 1 #[(0, .tmp 13)], 22, "", #[], none⟩,
    ⟨some 15, .move (.tmp 3), 22, "", #[], none⟩,
    ⟨some 16, .call { callee := .builtin .append, args := #[.tmp 14, .tmp 15], argTypes := #[22, 22] }, 22, "", #[], none⟩,
    ⟨some 3, .assign (.tmp 16), 22, "", #[], none⟩] false)
  (.region 6 #[⟨some 17, .move (.tmp 0), 3, "", #[], none⟩,
    ⟨some 18, .binOp .quo 3 (.tmp 17) (.const (.int .i64 256)) 3, 3, "", #[], none⟩,
    ⟨some 0, .assign (.tmp 18), 3, "", #[], none⟩] false))))))
  (.seq (.region 7 #[⟨some 19, .move (.tmp 3), 22, "", #[], none⟩,
    ⟨some 20, .call { callee := .builtin .len, args := #[.tmp 19], argTypes := #[22] }, 3, "", #[], none⟩,
    ⟨some 21, .binOp .add 3 (.const (.int .i64 128)) (.tmp 20) 3, 3, "", #[], none⟩,
    ⟨some 22, .convert 3 5 (.tmp 21), 5, "", #[], none⟩,
    ⟨some 23, .buildSlice 22 1 #[(0, .tmp 22)], 22, "", #[], none⟩,
    ⟨some 24, .move (.tmp 3), 22, "", #[], none⟩,
    ⟨some 25, .call { callee := .builtin .append, args := #[.tmp 23, .tmp 24], argTypes := #[22, 22] }, 22, "", #[], none⟩,
    ⟨some 2, .assign (.tmp 25), 22, "", #[], none⟩] false)
  .ret)))))
def fn17 : AFn := { ntmps := 26, results := [.tmp 2], body := c17, keep := fun | 0 => some [0] | 1 => some [0, 5] | 2 => some [2] | 3 => some [0, 3] | 4 => some [0, 3, 10] | 5 => some [0, 3] | 6 => some [0, 3] | 7 => some [2] | _ => none, head := fun | 4 => some [0, 3] | _ => none, opn := fun _ => none, dyn := fun _ => [] }
/-- vidimus/vidimuslaw03.read -/
def c18 : Code :=
  (.seq (.region 0 #[⟨some 8, .assign (.const (.bool false)), 4, "", #[], none⟩] false)
  (.seq (.region 1 #[⟨some 13, .move (.tmp 0), 22, "", #[], none⟩,
    ⟨some 14, .call { callee := .value (.func 44), args := #[.tmp 13], argTypes := #[22] }, 76, "", #[], none⟩,
    ⟨some 12, .move (.tmp 14), 76, "", #[], none⟩,
    ⟨some 15, .extract (.tmp 12) 0, 3, "", #[], none⟩,
    ⟨some 16, .extract (.tmp 12) 1, 3, "", #[], none⟩,
    ⟨some 17, .extract (.tmp 12) 2, 23, "", #[], none⟩,
    ⟨some 9, .assign (.tmp 15), 3, "", #[], none⟩,
    ⟨some 10, .assign (.tmp 16), 3, "", #[], none⟩,
    ⟨some 11, .assign (.tmp 17), 23, "", #[], none⟩] false)
  (.seq (.region 2 #[⟨some 18, .move (.tmp 9), 3, "", #[], none⟩,
    ⟨some 19, .move (.tmp 1), 3, "", #[], none⟩,
    ⟨some 20, .binOp .eql 3 (.tmp 18) (.tmp 19) 3, 4, "", #[], none⟩,
    ⟨some 21, .move (.tmp 20), 4, "", #[], none⟩,
    ⟨some 22, .move (.tmp 10), 3, "", #[], some (21, true)⟩,
    ⟨some 23, .move (.tmp 2), 3, "", #[], some (21, true)⟩,
    ⟨some 24, .binOp .eql 3 (.tmp 22) (.tmp 23) 3, 4, "", #[], some (21, true)⟩,
    ⟨some 25, .pick (.tmp 21) (.tmp 24) (.const (.bool false)), 4, "", #[], none⟩,
    ⟨some 26, .move (.tmp 25), 4, "", #[], none⟩,
    ⟨some 27, .move (.tmp 11), 23, "", #[], some (26, true)⟩,
    ⟨some 28, .move (.tmp 3), 3, "", #[], some (26, true)⟩,
    ⟨some 29, .binOp .eql 3 (.tmp 27) (.tmp 28) 3, 4, "", #[], some (26, true)⟩,
    ⟨some 30, .pick (.tmp 26) (.tmp 29) (.const (.bool false)), 4, "", #[], none⟩,
    ⟨some 8, .assign (.tmp 30), 4, "", #[], none⟩] false)
  .ret)))
def fn18 : AFn := { ntmps := 31, results := [.tmp 8], body := c18, keep := fun | 0 => some [0, 1, 2, 3] | 1 => some [1, 2, 3, 9, 10, 11] | 2 => some [8] | _ => none, head := fun  | _ => none, opn := fun _ => none, dyn := fun _ => [] }
/-- vidimus/vidimusref03.Get -/
def c19 : Code :=
  (.seq (.region 0 #[⟨some 2, .assign (.const (.int .i64 0)), 3, "", #[], none⟩,
    ⟨some 3, .assign (.const (.int .i64 0)), 3, "", #[], none⟩,
    ⟨some 4, .assign (.const (.int .i64 0)), 3, "", #[], none⟩] false)
  (.seq (.seq (.region 1 #[⟨some 8, .move (.tmp 0), 22, "", #[], none⟩,
    ⟨some 9, .call { callee := .builtin .len, args := #[.tmp 8], argTypes := #[22] }, 3, "", #[], none⟩,
    ⟨some 10, .binOp .eql 3 (.tmp 9) (.const (.int .i64 0)) 3, 4, "", #[], none⟩] false)
  (.cond (.tmp 10)
    (.seq (.region 2 #[⟨some 2, .assign (.const (.int .i64 0)), 3, "", #[], none⟩,
      ⟨some 3, .assign (.const (.int .i64 0)), 3, "", #[], none⟩,
      ⟨some 4, .assign (.const (.int .i64 7)), 3, "", #[], none⟩] false)
    .ret)
    .skip))
  (.seq (.seq (.region 3 #[⟨some 11, .move (.tmp 0), 22, "", #[], none⟩,
    ⟨some 12, .indexAddr 22 (.tmp 11) (.const (.int .i64 0)), 0, "", #[], none⟩,
    ⟨some 13, .load 5 (.tmp 12), 5, "", #[], none⟩,
    ⟨some 14, .binOp .lss 5 (.tmp 13) (.const (.int .u8 128)) 5, 4, "", #[], none⟩] false)
  (.cond (.tmp 14)
    (.seq (.region 4 #[⟨some 15, .move (.tmp 0), 22, "", #[], none⟩,
      ⟨some 16, .indexAddr 22 (.tmp 15) (.const (.int .i64 0)), 0, "", #[], none⟩,
      ⟨some 17, .load 5 (.tmp 16), 5, "", #[], none⟩,
      ⟨some 18, .convert 5 3 (.tmp 17), 3, "", #[], none⟩,
      ⟨some 2, .assign (.tmp 18), 3, "", #[], none⟩,
      ⟨some 3, .assign (.const (.int .i64 1)), 3, "", #[], none⟩,
      ⟨some 4, .assign (.const (.int .i64 0)), 3, "", #[], none⟩] false)
    .ret)
    .skip))
  (.seq (.region 5 #[⟨some 19, .move (.tmp 0), 22, "", #[], none⟩,
    ⟨some 20, .indexAddr 22 (.tmp 19) (.const (.int .i64 0)), 0, "", #[], none⟩,
    ⟨some 21, .load 5 (.tmp 20), 5, "", #[], none⟩,
    ⟨some 22, .convert 5 3 (.tmp 21), 3, "", #[], none⟩,
    ⟨some 23, .binOp .sub 3 (.tmp 22) (.const (.int .i64 128)) 3, 3, "", #[], none⟩,
    ⟨some 5, .assign (.tmp 23), 3, "", #[], none⟩] false)
  (.seq (.seq (.region 6 #[⟨some 24, .move (.tmp 5), 3, "", #[], none⟩,
    ⟨some 25, .binOp .lss 3 (.tmp 24) (.const (.int .i64 1)) 3, 4, "", #[], none⟩,
    ⟨some 26, .move (.tmp 25), 4, "", #[], none⟩,
    ⟨some 27, .move (.tmp 5), 3, "", #[], some (26, false)⟩,
    ⟨some 28, .binOp .gtr 3 (.tmp 27) (.const (.int .i64 3)) 3, 4, "", #[], some (26, false)⟩,
    ⟨some 29, .pick (.tmp 26) (.const (.bool true)) (.tmp 28), 4, "", #[], none⟩] false)
  (.cond (.tmp 29)
    (.seq (.region 7 #[⟨some 2, .assign (.const (.int .i64 0)), 3, "", #[], none⟩,
      ⟨some 3, .assign (.const (.int .i64 0)), 3, "", #[], none⟩,
      ⟨some 4, .assign (.const (.int .i64 10)), 3, "", #[], none⟩] false)
    .ret)
    .skip))
  (.seq (.seq (.region 8 #[⟨some 30, .move (.tmp 0), 22, "", #[], none⟩,
    ⟨some 31, .call { callee := .builtin .len, args := #[.tmp 30], argTypes := #[22] }, 3, "", #[], none⟩,
    ⟨some 32, .move (.tmp 5), 3, "", #[], none⟩,
    ⟨some 33, .binOp .add 3 (.tmp 32) (.const (.int .i64 1)) 3, 3, "", #[], none⟩,
    ⟨some 34, .binOp .lss 3 (.tmp 31) (.tmp 33) 3, 4, "", #[], none⟩] false)
  (.cond (.tmp 34)
    (.seq (.region 9 #[⟨some 2, .assign (.const (.int .i64 0)), 3, "", #[], none⟩,
      ⟨some 3, .assign (.const (.int .i64 0)), 3, "", #[], none⟩,
      ⟨some 4, .assign (.const (.int .i64 7)), 3, "", #[], none⟩] false)
    .ret)
    .skip))
  (.seq (.region 10 #[⟨some 6, .assign (.const (.int .i64 0)), 3, "", #[], none⟩] false)
  (.seq (.seq (.region 11 #[⟨some 7, .assign (.const (.int .i64 1)), 3, "", #[], none⟩] false)
  (.block 0 (.loop (.seq (.seq (.region 12 #[⟨some 35, .move (.tmp 7), 3, "", #[], none⟩,
    ⟨some 36, .move (.tmp 5), 3, "", #[], none⟩,
    ⟨some 37, .binOp .leq 3 (.tmp 35) (.tmp 36) 3, 4, "", #[], none⟩] false)
  (.cond (.tmp 37)
    .skip
    (.exit 0)))
  (.seq (.block 1 (.region 14 #[⟨some 40, .move (.tmp 6), 3, "", #[], none⟩,
    ⟨some 41, .binOp .mul 3 (.const (.int .i64 256)) (.tmp 40) 3, 3, "", #[], none⟩,
    ⟨some 42, .move (.tmp 0), 22, "", #[], none⟩,
    ⟨some 43, .move (.tmp 7), 3, "", #[], none⟩,
    ⟨some 44, .indexAddr 22 (.tmp 42) (.tmp 43), 0, "", #[], none⟩,
    ⟨some 45, .load 5 (.tmp 44), 5, "", #[], none⟩,
    ⟨some 46, .convert 5 3 (.tmp 45), 3, "", #[], none⟩,
    ⟨some 47, .binOp .add 3 (.tmp 41) (.tmp 46) 3, 3, "", #[], none⟩,
    ⟨some 6, .assign (.tmp 47), 3, "", #[], none⟩] false))
  (.region 13 #[⟨some 38, .move (.tmp 7), 3, "", #[], none⟩,
    ⟨some 39, .binOp .add 3 (.tmp 38) (.const (.int .i64 1)) 3, 3, "", #[], none⟩,
    ⟨some 7, .assign (.tmp 39), 3, "", #[], none⟩] false))))))
  (.seq (.seq (.region 15 #[⟨some 48, .move (.tmp 0), 22, "", #[], none⟩,
    ⟨some 49, .indexAddr 22 (.tmp 48) (.const (.int .i64 1)), 0, "", #[], none⟩,
    ⟨some 50, .load 5 (.tmp 49), 5, "", #[], none⟩,
    ⟨some 51, .binOp .eql 5 (.tmp 50) (.const (.int .u8 0)) 5, 4, "", #[], none⟩,
    ⟨some 52, .move (.tmp 51), 4, "", #[], none⟩,
    ⟨some 53, .move (.tmp 6), 3, "", #[], some (52, false)⟩,
    ⟨some 54, .binOp .lss 3 (.tmp 53) (.const (.int .i64 128)) 3, 4, "", #[], some (52, false)⟩,
    ⟨some 55, .pick (.tmp 52) (.const (.bool true)) (.tmp 54), 4, "", #[], none⟩] false)
  (.cond (.tmp 55)
    (.seq (.region 16 #[⟨some 2, .assign (.const (.int .i64 0)), 3, "", #[], none⟩,
      ⟨some 3, .assign (.const (.int .i64 0)), 3, "", #[], none⟩,
      ⟨some 4, .assign (.const (.int .i64 10)), 3, "", #[], none⟩] false)
    .ret)
    .skip))
  (.seq (.region 17 #[⟨some 56, .move (.tmp 6), 3, "", #[], none⟩,
    ⟨some 57, .move (.tmp 5), 3, "", #[], none⟩,
    ⟨some 58, .binOp .add 3 (.tmp 57) (.const (.int .i64 1)) 3, 3, "", #[], none⟩,
    ⟨some 2, .assign (.tmp 56), 3, "", #[], none⟩,
    ⟨some 3, .assign (.tmp 58), 3, "", #[], none⟩,
    ⟨some 4, .assign (.const (.int .i64 0)), 3, "", #[], none⟩] false)
  .ret))))))))))
def fn19 : AFn := { ntmps := 59, results := [.tmp 2, .tmp 3, .tmp 4], body := c19, keep := fun | 0 => some [0] | 1 => some [0, 10] | 2 => some [2, 3, 4] | 3 => some [0, 14] | 4 => some [2, 3, 4] | 5 => some [0, 5] | 6 => some [0, 5, 29] | 7 => some [2, 3, 4] | 8 => some [0, 5, 34] | 9 => some [2, 3, 4] | 10 => some [0, 5, 6] | 11 => some [0, 5, 6, 7] | 12 => some [0, 5, 6, 7, 37] | 13 => some [0, 5, 6, 7] | 14 => some [0, 5, 6, 7] | 15 => some [5, 6, 55] | 16 => some [2, 3, 4] | 17 => some [2, 3, 4] | _ => none, head := fun | 12 => some [0, 5, 6, 7] | _ => none, opn := fun _ => none, dyn := fun _ => [] }
/-- vidimus/lengths.Total -/
def c20 : Code :=
  (.seq (.region 0 #[⟨some 4, .assign (.const (.int .i64 0)), 3, "", #[], none⟩] false)
  (.seq (.seq (.region 1 #[⟨some 5, .move (.tmp 0), 3, "", #[], none⟩,
    ⟨some 6, .binOp .lss 3 (.tmp 5) (.const (.int .i64 1)) 3, 4, "", #[], none⟩,
    ⟨some 7, .move (.tmp 6), 4, "", #[], none⟩,
    ⟨some 8, .move (.tmp 0), 3, "", #[], some (7, false)⟩,
    ⟨some 9, .binOp .gtr 3 (.tmp 8) (.const (.int .i64 5)) 3, 4, "", #[], some (7, false)⟩,
    ⟨some 10, .pick (.tmp 7) (.const (.bool true)) (.tmp 9), 4, "", #[], none⟩,
    ⟨some 11, .move (.tmp 10), 4, "", #[], none⟩,
    ⟨some 12, .move (.tmp 1), 3, "", #[], some (11, false)⟩,
    ⟨some 13, .call { callee := .value (.func 15), args := #[.tmp 12], argTypes := #[3] }, 3, "", #[], some (11, false)⟩,
    ⟨some 14, .binOp .eql 3 (.tmp 13) (.const (.int .i64 0)) 3, 4, "", #[], some (11, false)⟩,
    ⟨some 15, .pick (.tmp 11) (.const (.bool true)) (.tmp 14), 4, "", #[], none⟩] false)
  (.cond (.tmp 15)
    (.seq (.region 2 #[⟨some 4, .assign (.const (.int .i64 0)), 3, "", #[], none⟩] false)
    .ret)
    .skip))
  (.seq (.region 3 #[⟨some 16, .move (.tmp 0), 3, "", #[], none⟩,
    ⟨some 17, .move (.tmp 1), 3, "", #[], none⟩,
    ⟨some 18, .call { callee := .value (.func 15), args := #[.tmp 17], argTypes := #[3] }, 3, "", #[], none⟩,
    ⟨some 19, .binOp .add 3 (.tmp 16) (.tmp 18) 3, 3, "", #[], none⟩,
    ⟨some 20, .move (.tmp 1), 3, "", #[], none⟩,
    ⟨some 21, .binOp .add 3 (.tmp 19) (.tmp 20) 3, 3, "", #[], none⟩,
    ⟨some 4, .assign (.tmp 21), 3, "", #[], none⟩] false)
  .ret)))
def fn20 : AFn := { ntmps := 22, results := [.tmp 4], body := c20, keep := fun | 0 => some [0, 1] | 1 => some [0, 1, 15] | 2 => some [4] | 3 => some [4] | _ => none, head := fun  | _ => none, opn := fun _ => none, dyn := fun _ => [] }
/-- vidimus/vidimuslaw08.lives -/
def c21 : Code :=
  (.seq (.region 0 #[⟨some 0, .assign (.const (.bool false)), 4, "", #[], none⟩] false)
  (.seq (.region 1 #[⟨some 18, .call { callee := .value (.func 25), args := #[.const (.slice none 0 0), .const (.int .i64 0)], argTypes := #[22, 3] }, 24, "", #[], none⟩,
    ⟨some 17, .move (.tmp 18), 24, "", #[], none⟩,
    ⟨some 19, .extract (.tmp 17) 0, 22, "", #[], none⟩,
    ⟨some 20, .extract (.tmp 17) 1, 23, "", #[], none⟩,
    ⟨some 1, .assign (.tmp 19), 22, "", #[], none⟩,
    ⟨some 2, .assign (.tmp 20), 23, "", #[], none⟩] false)
  (.seq (.region 2 #[⟨some 22, .buildSlice 22 1 #[(0, .const (.int .u8 160))], 22, "", fz, none⟩,
    ⟨some 23, .call { callee := .value (.func 25), args := #[.tmp 22, .const (.int .i64 3)], argTypes := #[22, 3] }, 24, "", #[], none⟩,
    ⟨some 21, .move (.tmp 23), 24, "", #[], none⟩,
    ⟨some 24, .extract (.tmp 21) 0, 22, "", #[], none⟩,
    ⟨some 25, .extract (.tmp 21) 1, 23, "", #[], none⟩,
    ⟨some 3, .assign (.tmp 24), 22, "", #[], none⟩,
    ⟨some 4, .assign (.tmp 25), 23, "", #[], none⟩] false)
  (.seq (.region 3 #[⟨some 27, .buildSlice 22 1 #[(0, .const (.int .u8 161))], 22, "", fz, none⟩,
    ⟨some 28, .call { callee := .value (.func 25), args := #[.tmp 27, .const (.int .i64 3)], argTypes := #[22, 3] }, 24, "", #[], none⟩,
    ⟨some 26, .move (.tmp 28), 24, "", #[], none⟩,
    ⟨some 29, .extract (.tmp 26) 0, 22, "", #[], none⟩,
    ⟨some 30, .extract (.tmp 26) 1, 23, "", #[], none⟩,
    ⟨some 5, .assign (.tmp 29), 22, "", #[], none⟩,
    ⟨some 6, .assign (.tmp 30), 23, "", #[], none⟩] false)
  (.seq (.region 4 #[⟨some 32, .buildSlice 22 1 #[(0, .const (.int .u8 160))], 22, "", fz, none⟩,
    ⟨some 33, .call { callee := .value (.func 25), args := #[.tmp 32, .const (.int .i64 9)], argTypes := #[22, 3] }, 24, "", #[], none⟩,
    ⟨some 31, .move (.tmp 33), 24, "", #[], none⟩,
    ⟨some 34, .extract (.tmp 31) 0, 22, "", #[], none⟩,
    ⟨some 35, .extract (.tmp 31) 1, 23, "", #[], none⟩,
    ⟨some 7, .assign (.tmp 34), 22, "", #[], none⟩,
    ⟨some 8, .assign (.tmp 35), 23, "", #[], none⟩] false)
  (.seq (.seq (.region 5 #[⟨some 36, .move (.tmp 1), 22, "", #[], none⟩,
    ⟨some 37, .move (.tmp 2), 23, "", #[], none⟩,
    ⟨some 38, .buildSlice 22 1 #[(0, .const (.int .u8 0))], 22, "", fz, none⟩,
    ⟨some 39, .call { callee := .value (.func 26), args := #[.tmp 36, .tmp 37, .tmp 38, .const (.int .i64 0)], argTypes := #[22, 23, 22, 3] }, 4, "", #[], none⟩,
    ⟨some 40, .unOp .not 4 (.tmp 39), 4, "", #[], none⟩,
    ⟨some 41, .move (.tmp 40), 4, "", #[], none⟩,
    ⟨some 42, .move (.tmp 3), 22, "", #[], some (41, false)⟩,
    ⟨some 43, .move (.tmp 4), 23, "", #[], some (41, false)⟩,
    ⟨some 44, .buildSlice 22 2 #[(0, .const (.int .u8 5)), (1, .const (.int .u8 160))], 22, "", fz, some (41, false)⟩,
    ⟨some 45, .call { callee := .value (.func 26), args := #[.tmp 42, .tmp 43, .tmp 44, .const (.int .i64 0)], argTypes := #[22, 23, 22, 3] }, 4, "", #[], some (41, false)⟩,
    ⟨some 46, .unOp .not 4 (.tmp 45), 4, "", #[], some (41, false)⟩,
    ⟨some 47, .pick (.tmp 41) (.const (.bool true)) (.tmp 46), 4, "", #[], none⟩,
    ⟨some 48, .move (.tmp 47), 4, "", #[], none⟩,
    ⟨some 49, .move (.tmp 5), 22, "", #[], some (48, false)⟩,
    ⟨some 50, .move (.tmp 6), 23, "", #[], some (48, false)⟩,
    ⟨some 51, .call { callee := .value (.func 26), args := #[.tmp 49, .tmp 50, .const (.slice none 0 0), .const (.int .i64 1)], argTypes := #[22, 23, 22, 3] }, 4, "", #[], some (48, false)⟩,
    ⟨some 52, .unOp .not 4 (.tmp 51), 4, "", #[], some (48, false)⟩,
    ⟨some 53, .pick (.tmp 48) (.const (.bool true)) (.tmp 52), 4, "", #[], none⟩,
    ⟨some 54, .move (.tmp 53), 4, "", #[], none⟩,
    ⟨some 55, .move (.tmp 7), 22, "", #[], some (54, false)⟩,
    ⟨some 56, .move (.tmp 8), 23, "", #[], some (54, false)⟩,
    ⟨some 57, .call { callee := .value (.func 26), args := #[.tmp 55, .tmp 56, .const (.slice none 0 0), .const (.int .i64 1)], argTypes := #[22, 23, 22, 3] }, 4, "", #[], some (54, false)⟩,
    ⟨some 58, .unOp .not 4 (.tmp 57), 4, "", #[], some (54, false)⟩,
    ⟨some 59, .pick (.tmp 54) (.const (.bool true)) (.tmp 58), 4, "", #[], none⟩] false)
  (.cond (.tmp 59)
    (.seq (.region 6 #[⟨some 0, .assign (.const (.bool false)), 4, "", #[], none⟩] false)
    .ret)
    .skip))
  (.seq (.seq (.region 7 #[⟨some 60, .buildSlice 22 2 #[(0, .const (.int .u8 5)), (1, .const (.int .u8 160))], 22, "", fz, none⟩,
    ⟨some 61, .buildSlice 22 1 #[(0, .const (.int .u8 160))], 22, "", fz, none⟩,
    ⟨some 62, .call { callee := .value (.func 23), args := #[.tmp 60, .tmp 61, .const (.int .i64 3), .const (.int .i64 0)], argTypes := #[22, 22, 3, 3] }, 4, "", #[], none⟩,
    ⟨some 63, .unOp .not 4 (.tmp 62), 4, "", #[], none⟩,
    ⟨some 64, .move (.tmp 63), 4, "", #[], none⟩,
    ⟨some 65, .buildSlice 22 1 #[(0, .const (.int .u8 0))], 22, "", fz, some (64, false)⟩,
    ⟨some 66, .call { callee := .value (.func 23), args := #[.tmp 65, .const (.slice none 0 0), .const (.int .i64 0), .const (.int .i64 0)], argTypes := #[22, 22, 3, 3] }, 4, "", #[], some (64, false)⟩,
    ⟨some 67, .unOp .not 4 (.tmp 66), 4, "", #[], some (64, false)⟩,
    ⟨some 68, .pick (.tmp 64) (.const (.bool true)) (.tmp 67), 4, "", #[], none⟩,
    ⟨some 69, .move (.tmp 68), 4, "", #[], none⟩,
    ⟨some 70, .buildSlice 22 1 #[(0, .const (.int .u8 5))], 22, "", fz, some (69, false)⟩,
    ⟨some 71, .call { callee := .value (.func 23), args := #[.tmp 70, .const (.slice none 0 0), .const (.int .i64 0), .const (.int .i64 11)], argTypes := #[22, 22, 3, 3] }, 4, "", #[], some (69, false)⟩,
    ⟨some 72, .unOp .not 4 (.tmp 71), 4, "", #[], some (69, false)⟩,
    ⟨some 73, .pick (.tmp 69) (.const (.bool true)) (.tmp 72), 4, "", #[], none⟩,
    ⟨some 74, .move (.tmp 73), 4, "", #[], none⟩,
    ⟨some 75, .buildSlice 22 2 #[(0, .const (.int .u8 8)), (1, .const (.int .u8 0))], 22, "", fz, some (74, false)⟩,
    ⟨some 76, .call { callee := .value (.func 23), args := #[.tmp 75, .const (.slice none 0 0), .const (.int .i64 0), .const (.int .i64 11)], argTypes := #[22, 22, 3, 3] }, 4, "", #[], some (74, false)⟩,
    ⟨some 77, .unOp .not 4 (.tmp 76), 4, "", #[], some (74, false)⟩,
    ⟨some 78, .pick (.tmp 74) (.const (.bool true)) (.tmp 77), 4, "", #[], none⟩,
    ⟨some 79, .move (.tmp 78), 4, "", #[], none⟩,
    ⟨some 80, .buildSlice 22 2 #[(0, .const (.int .u8 1)), (1, .const (.int .u8 1))], 22, "", fz, some (79, false)⟩,
    ⟨some 81, .call { callee := .value (.func 23), args := #[.tmp 80, .const (.slice none 0 0), .const (.int .i64 0), .const (.int .i64 11)], argTypes := #[22, 22, 3, 3] }, 4, "", #[], some (79, false)⟩,
    ⟨some 82, .unOp .not 4 (.tmp 81), 4, "", #[], some (79, false)⟩,
    ⟨some 83, .pick (.tmp 79) (.const (.bool true)) (.tmp 82), 4, "", #[], none⟩,
    ⟨some 84, .move (.tmp 83), 4, "", #[], none⟩,
    ⟨some 85, .call { callee := .value (.func 23), args := #[.const (.slice none 0 0), .const (.slice none 0 0), .const (.int .i64 0), .const (.int .i64 11)], argTypes := #[22, 22, 3, 3] }, 4, "", #[], some (84, false)⟩,
    ⟨some 86, .unOp .not 4 (.tmp 85), 4, "", #[], some (84, false)⟩,
    ⟨some 87, .pick (.tmp 84) (.const (.bool true)) (.tmp 86), 4, "", #[], none⟩] false)
  (.cond (.tmp 87)
    (.seq (.region 8 #[⟨some 0, .assign (.const (.bool false)), 4, "", #[], none⟩] false)
    .ret)
    .skip))
  (.seq (.seq (.region 9 #[⟨some 88, .buildSlice 22 1 #[(0, .const (.int .u8 160))], 22, "", fz, none⟩,
    ⟨some 89, .call { callee := .value (.func 40), args := #[.tmp 88, .const (.int .i64 3), .const (.int .i64 0)], argTypes := #[22, 3, 3] }, 4, "", #[], none⟩,
    ⟨some 90, .unOp .not 4 (.tmp 89), 4, "", #[], none⟩,
    ⟨some 91, .move (.tmp 90), 4, "", #[], none⟩,
    ⟨some 92, .buildSlice 22 1 #[(0, .const (.int .u8 160))], 22, "", fz, some (91, false)⟩,
    ⟨some 93, .call { callee := .value (.func 40), args := #[.tmp 92, .const (.int .i64 3), .const (.int .i64 1)], argTypes := #[22, 3, 3] }, 4, "", #[], some (91, false)⟩,
    ⟨some 94, .pick (.tmp 91) (.const (.bool true)) (.tmp 93), 4, "", #[], none⟩,
    ⟨some 95, .move (.tmp 94), 4, "", #[], none⟩,
    ⟨some 96, .buildSlice 22 1 #[(0, .const (.int .u8 160))], 22, "", fz, some (95, false)⟩,
    ⟨some 97, .call { callee := .value (.func 40), args := #[.tmp 96, .const (.int .i64 3), .const (.int .i64 3)], argTypes := #[22, 3, 3] }, 4, "", #[], some (95, false)⟩,
    ⟨some 98, .pick (.tmp 95) (.const (.bool true)) (.tmp 97), 4, "", #[], none⟩,
    ⟨some 99, .move (.tmp 98), 4, "", #[], none⟩,
    ⟨some 100, .call { callee := .value (.func 29), args := #[.const (.int .u64 0)], argTypes := #[45] }, 22, "", #[], some (99, false)⟩,
    ⟨some 101, .convert 22 9 (.tmp 100), 9, "", #[], some (99, false)⟩,
    ⟨some 102, .binOp .neq 9 (.tmp 101) (.const (.string { data := #[0] })) 9, 4, "", #[], some (99, false)⟩,
    ⟨some 103, .pick (.tmp 99) (.const (.bool true)) (.tmp 102), 4, "", #[], none⟩,
    ⟨some 104, .move (.tmp 103), 4, "", #[], none⟩,
    ⟨some 105, .call { callee := .value (.func 29), args := #[.const (.int .u64 33)], argTypes := #[45] }, 22, "", #[], some (104, false)⟩,
    ⟨some 106, .convert 22 9 (.tmp 105), 9, "", #[], some (104, false)⟩,
    ⟨some 107, .binOp .neq 9 (.tmp 106) (.const (.string { data := #[2, 132] })) 9, 4, "", #[], some (104, false)⟩,
    ⟨some 108, .pick (.tmp 104) (.const (.bool true)) (.tmp 107), 4, "", #[], none⟩,
    ⟨some 109, .move (.tmp 108), 4, "", #[], none⟩,
    ⟨some 110, .buildSlice 22 2 #[(0, .const (.int .u8 2)), (1, .const (.int .u8 132))], 22, "", fz, some (109, false)⟩,
    ⟨some 111, .call { callee := .value (.func 28), args := #[.tmp 110, .const (.int .u64 33), .const (.int .i64 0)], argTypes := #[22, 45, 3] }, 4, "", #[], some (109, false)⟩,
    ⟨some 112, .unOp .not 4 (.tmp 111), 4, "", #[], some (109, false)⟩,
    ⟨some 113, .pick (.tmp 109) (.const (.bool true)) (.tmp 112), 4, "", #[], none⟩,
    ⟨some 114, .move (.tmp 113), 4, "", #[], none⟩,
    ⟨some 115, .buildSlice 22 2 #[(0, .const (.int .u8 1)), (1, .const (.int .u8 132))], 22, "", fz, some (114, false)⟩,
    ⟨some 116, .call { callee := .value (.func 28), args := #[.tmp 115, .const (.int .u64 0), .const (.int .i64 11)], argTypes := #[22, 45, 3] }, 4, "", #[], some (114, false)⟩,
    ⟨some 117, .unOp .not 4 (.tmp 116), 4, "", #[], some (114, false)⟩,
    ⟨some 118, .pick (.tmp 114) (.const (.bool true)) (.tmp 117), 4, "", #[], none⟩,
    ⟨some 119, .move (.tmp 118), 4, "", #[], none⟩,
    ⟨some 120, .buildSlice 22 2 #[(0, .const (.int .u8 0)), (1, .const (.int .u8 0))], 22, "", fz, some (119, false)⟩,
    ⟨some 121, .call { callee := .value (.func 28), args := #[.tmp 120, .const (.int .u64 0), .const (.int .i64 11)], argTypes := #[22, 45, 3] }, 4, "", #[], some (119, false)⟩,
    ⟨some 122, .unOp .not 4 (.tmp 121), 4, "", #[], some (119, false)⟩,
    ⟨some 123, .pick (.tmp 119) (.const (.bool true)) (.tmp 122), 4, "", #[], none⟩] false)
  (.cond (.tmp 123)
    (.seq (.region 10 #[⟨some 0, .assign (.const (.bool false)), 4, "", #[], none⟩] false)
    .ret)
    .skip))
  (.seq (.region 11 #[⟨some 125, .buildSlice 22 2 #[(0, .const (.int .u8 5)), (1, .const (.int .u8 6))], 22, "", fz, none⟩,
    ⟨some 126, .call { callee := .value (.func 32), args := #[.tmp 125], argTypes := #[22] }, 60, "", #[], none⟩,
    ⟨some 124, .move (.tmp 126), 60, "", #[], none⟩,
    ⟨some 127, .extract (.tmp 124) 0, 59, "", #[], none⟩,
    ⟨some 128, .extract (.tmp 124) 1, 23, "", #[], none⟩,
    ⟨some 9, .alloc 59, 0, "", #[], none⟩,
    ⟨none, .store 59 (.tmp 9) (.tmp 127), 0, "", #[], none⟩,
    ⟨some 10, .assign (.tmp 128), 23, "", #[], none⟩] false)
  (.seq (.region 12 #[⟨some 130, .load 59 (.tmp 9), 59, "", #[], none⟩,
    ⟨some 131, .call { callee := .value (.func 33), args := #[.tmp 130], argTypes := #[59] }, 24, "", #[], none⟩,
    ⟨some 129, .move (.tmp 131), 24, "", #[], none⟩,
    ⟨some 132, .extract (.tmp 129) 0, 22, "", #[], none⟩,
    ⟨some 133, .extract (.tmp 129) 1, 23, "", #[], none⟩,
    ⟨some 11, .assign (.tmp 132), 22, "", #[], none⟩,
    ⟨some 12, .assign (.tmp 133), 23, "", #[], none⟩] false)
  (.seq (.region 13 #[⟨some 135, .buildSlice 22 1 #[(0, .const (.int .u8 160))], 22, "", fz, none⟩,
    ⟨some 136, .call { callee := .value (.func 37), args := #[.tmp 135, .const (.int .i64 3)], argTypes := #[22, 3] }, 60, "", #[], none⟩,
    ⟨some 134, .move (.tmp 136), 60, "", #[], none⟩,
    ⟨some 137, .extract (.tmp 134) 0, 59, "", #[], none⟩,
    ⟨some 138, .extract (.tmp 134) 1, 23, "", #[], none⟩,
    ⟨some 13, .alloc 59, 0, "", #[], none⟩,
    ⟨none, .store 59 (.tmp 13) (.tmp 137), 0, "", #[], none⟩,
    ⟨some 14, .assign (.tmp 138), 23, "", #[], none⟩] false)
  (.seq (.region 14 #[⟨some 140, .load 59 (.tmp 13), 59, "", #[], none⟩,
    ⟨some 141, .call { callee := .value (.func 33), args := #[.tmp 140], argTypes := #[59] }, 24, "", #[], none⟩,
    ⟨some 139, .move (.tmp 141), 24, "", #[], none⟩,
    ⟨some 142, .extract (.tmp 139) 0, 22, "", #[], none⟩,
    ⟨some 143, .extract (.tmp 139) 1, 23, "", #[], none⟩,
    ⟨some 15, .assign (.tmp 142), 22, "", #[], none⟩,
    ⟨some 16, .assign (.tmp 143), 23, "", #[], none⟩] false)
  (.seq (.region 15 #[⟨some 144, .load 59 (.tmp 9), 59, "", #[], none⟩,
    ⟨some 145, .move (.tmp 10), 23, "", #[], none⟩,
    ⟨some 146, .buildSlice 22 2 #[(0, .const (.int .u8 5)), (1, .const (.int .u8 6))], 22, "", fz, none⟩,
    ⟨some 147, .call { callee := .value (.func 39), args := #[.tmp 144, .tmp 145, .const (.int .u32 4), .tmp 146], argTypes := #[59, 23, 31, 22] }, 4, "", #[], none⟩,
    ⟨some 148, .move (.tmp 147), 4, "", #[], none⟩,
    ⟨some 149, .move (.tmp 11), 22, "", #[], some (148, true)⟩,
    ⟨some 150, .move (.tmp 12), 23, "", #[], some (148, true)⟩,
    ⟨some 151, .buildSlice 22 2 #[(0, .const (.int .u8 5)), (1, .const (.int .u8 6))], 22, "", fz, some (148, true)⟩,
    ⟨some 152, .call { callee := .value (.func 26), args := #[.tmp 149, .tmp 150, .tmp 151, .const (.int .i64 0)], argTypes := #[22, 23, 22, 3] }, 4, "", #[], some (148, true)⟩,
    ⟨some 153, .pick (.tmp 148) (.tmp 152) (.const (.bool false)), 4, "", #[], none⟩,
    ⟨some 154, .move (.tmp 153), 4, "", #[], none⟩,
    ⟨some 155, .move (.tmp 14), 23, "", #[], some (154, true)⟩,
    ⟨some 156, .binOp .eql 23 (.tmp 155) (.const (.int .i64 0)) 23, 4, "", #[], some (154, true)⟩,
    ⟨some 157, .pick (.tmp 154) (.tmp 156) (.const (.bool false)), 4, "", #[], none⟩,
    ⟨some 158, .move (.tmp 157), 4, "", #[], none⟩,
    ⟨some 159, .move (.tmp 16), 23, "", #[], some (158, true)⟩,
    ⟨some 160, .binOp .eql 23 (.tmp 159) (.const (.int .i64 9)) 23, 4, "", #[], some (158, true)⟩,
    ⟨some 161, .pick (.tmp 158) (.tmp 160) (.const (.bool false)), 4, "", #[], none⟩,
    ⟨some 0, .assign (.tmp 161), 4, "", #[], none⟩] false)
  .ret)))))))))))))
def fn21 : AFn := { ntmps := 162, results := [.tmp 0], body := c21, keep := fun | 0 => some [] | 1 => some [1, 2] | 2 => some [1, 2, 3, 4] | 3 => some [1, 2, 3, 4, 5, 6] | 4 => some [1, 2, 3, 4, 5, 6, 7, 8] | 5 => some [59] | 6 => some [0] | 7 => some [87] | 8 => some [0] | 9 => some [123] | 10 => some [0] | 11 => some [9, 10] | 12 => some [9, 10, 11, 12] | 13 => some [9, 10, 11, 12, 13, 14] | 14 => some [9, 10, 11, 12, 14, 16] | 15 => some [0] | _ => none, head := fun  | _ => none, opn := fun _ => none, dyn := fun _ => [] }
/-- vidimus/vidimusref08.Get -/
def c22 : Code :=
  (.seq (.region 0 #[⟨some 2, .assign (.const (.slice none 0 0)), 39, "", #[], none⟩,
    ⟨some 3, .assign (.const (.int .i64 0)), 3, "", #[], none⟩] false)
  (.seq (.seq (.region 1 #[⟨some 7, .move (.tmp 0), 22, "", #[], none⟩,
    ⟨some 8, .call { callee := .builtin .len, args := #[.tmp 7], argTypes := #[22] }, 3, "", #[], none⟩,
    ⟨some 9, .binOp .eql 3 (.tmp 8) (.const (.int .i64 0)) 3, 4, "", #[], none⟩,
    ⟨some 10, .move (.tmp 9), 4, "", #[], none⟩,
    ⟨some 11, .move (.tmp 0), 22, "", #[], some (10, false)⟩,
    ⟨some 12, .indexAddr 22 (.tmp 11) (.const (.int .i64 0)), 0, "", #[], some (10, false)⟩,
    ⟨some 13, .load 5 (.tmp 12), 5, "", #[], some (10, false)⟩,
    ⟨some 14, .binOp .gtr 5 (.tmp 13) (.const (.int .u8 7)) 5, 4, "", #[], some (10, false)⟩,
    ⟨some 15, .pick (.tmp 10) (.const (.bool true)) (.tmp 14), 4, "", #[], none⟩,
    ⟨some 16, .move (.tmp 15), 4, "", #[], none⟩,
    ⟨some 17, .move (.tmp 0), 22, "", #[], some (16, false)⟩,
    ⟨some 18, .call { callee := .builtin .len, args := #[.tmp 17], argTypes := #[22] }, 3, "", #[], some (16, false)⟩,
    ⟨some 19, .binOp .sub 3 (.tmp 18) (.const (.int .i64 1)) 3, 3, "", #[], some (16, false)⟩,
    ⟨some 20, .binOp .mul 3 (.const (.int .i64 8)) (.tmp 19) 3, 3, "", #[], some (16, false)⟩,
    ⟨some 21, .move (.tmp 0), 22, "", #[], some (16, false)⟩,
    ⟨some 22, .indexAddr 22 (.tmp 21) (.const (.int .i64 0)), 0, "", #[], some (16, false)⟩,
    ⟨some 23, .load 5 (.tmp 22), 5, "", #[], some (16, false)⟩,
    ⟨some 24, .convert 5 3 (.tmp 23), 3, "", #[], some (16, false)⟩,
    ⟨some 25, .binOp .lss 3 (.tmp 20) (.tmp 24) 3, 4, "", #[], some (16, false)⟩,
    ⟨some 26, .pick (.tmp 16) (.const (.bool true)) (.tmp 25), 4, "", #[], none⟩] false)
  (.cond (.tmp 26)
    (.seq (.region 2 #[⟨some 2, .assign (.const (.slice none 0 0)), 39, "", #[], none⟩,
      ⟨some 3, .assign (.const (.int .i64 11)), 3, "", #[], none⟩] false)
    .ret)
    .skip))
  (.seq (.region 3 #[⟨some 27, .move (.tmp 0), 22, "", #[], none⟩,
    ⟨some 28, .slice 22 (.tmp 27) (some (.const (.int .i64 1))) none none, 22, "", #[], none⟩,
    ⟨some 29, .call { callee := .value (.func 45), args := #[.tmp 28], argTypes := #[22] }, 39, "", #[], none⟩,
    ⟨some 4, .assign (.tmp 29), 39, "", #[], none⟩] false)
  (.seq (.region 4 #[⟨some 30, .move (.tmp 4), 39, "", #[], none⟩,
    ⟨some 31, .call { callee := .builtin .len, args := #[.tmp 30], argTypes := #[39] }, 3, "", #[], none⟩,
    ⟨some 32, .move (.tmp 0), 22, "", #[], none⟩,
    ⟨some 33, .indexAddr 22 (.tmp 32) (.const (.int .i64 0)), 0, "", #[], none⟩,
    ⟨some 34, .load 5 (.tmp 33), 5, "", #[], none⟩,
    ⟨some 35, .convert 5 3 (.tmp 34), 3, "", #[], none⟩,
    ⟨some 36, .binOp .sub 3 (.tmp 31) (.tmp 35) 3, 3, "", #[], none⟩,
    ⟨some 5, .assign (.tmp 36), 3, "", #[], none⟩] false)
  (.seq (.seq (.region 5 #[⟨some 37, .move (.tmp 5), 3, "", #[], none⟩,
    ⟨some 6, .assign (.tmp 37), 3, "", #[], none⟩] false)
  (.block 0 (.loop (.seq (.seq (.region 6 #[⟨some 38, .move (.tmp 6), 3, "", #[], none⟩,
    ⟨some 39, .move (.tmp 4), 39, "", #[], none⟩,
    ⟨some 40, .call { callee := .builtin .len, args := #[.tmp 39], argTypes := #[39] }, 3, "", #[], none⟩,
    ⟨some 41, .binOp .lss 3 (.tmp 38) (.tmp 40) 3, 4, "", #[], none⟩] false)
  (.cond (.tmp 41)
    .skip
    (.exit 0)))
  (.seq (.block 1 (.seq (.region 8 #[⟨some 44, .move (.tmp 4), 39, "", #[], none⟩,
    ⟨some 45, .move (.tmp 6), 3, "", #[], none⟩,
    ⟨some 46, .indexAddr 39 (.tmp 44) (.tmp 45), 0, "", #[], none⟩,
    ⟨some 47, .load 3 (.tmp 46), 3, "", #[], none⟩,
    ⟨some 48, .binOp .neq 3 (.tmp 47) (.const (.int .i64 0)) 3, 4, "", #[], none⟩] false)
  (.cond (.tmp 48)
    (.seq (.region 9 #[⟨some 2, .assign (.const (.slice none 0 0)), 39, "", #[], none⟩,
      ⟨some 3, .assign (.const (.int .i64 11)), 3, "", #[], none⟩] false)
    .ret)
    .skip)))
  (.region 7 #[⟨some 42, .move (.tmp 6), 3, "", #[], none⟩,
    ⟨some 43, .binOp .add 3 (.tmp 42) (.const (.int .i64 1)) 3, 3, "", #[], none⟩,
    ⟨some 6, .assign (.tmp 43), 3, "", #[], none⟩] false))))))
  (.seq (.seq (.region 10 #[⟨some 49, .move (.tmp 5), 3, "", #[], none⟩,
    ⟨some 50, .binOp .gtr 3 (.tmp 49) (.const (.int .i64 524288)) 3, 4, "", #[], none⟩] false)
  (.cond (.tmp 50)
    (.seq (.region 11 #[⟨some 2, .assign (.const (.slice none 0 0)), 39, "", #[], none⟩,
      ⟨some 3, .assign (.const (.int .i64 3)), 3, "", #[], none⟩] false)
    .ret)
    .skip))
  (.seq (.region 12 #[⟨some 51, .move (.tmp 4), 39, "", #[], none⟩,
    ⟨some 52, .move (.tmp 5), 3, "", #[], none⟩,
    ⟨some 53, .slice 39 (.tmp 51) none (some (.tmp 52)) none, 39, "", #[], none⟩,
    ⟨some 2, .assign (.tmp 53), 39, "", #[], none⟩,
    ⟨some 3, .assign (.const (.int .i64 0)), 3, "", #[], none⟩] false)
  .ret)))))))
def fn22 : AFn := { ntmps := 54, results := [.tmp 2, .tmp 3], body := c22, keep := fun | 0 => some [0] | 1 => some [0, 26] | 2 => some [2, 3] | 3 => some [0, 4] | 4 => some [4, 5] | 5 => some [4, 5, 6] | 6 => some [4, 5, 6, 41] | 7 => some [4, 5, 6] | 8 => some [4, 5, 6, 48] | 9 => some [2, 3] | 10 => some [4, 5, 50] | 11 => some [2, 3] | 12 => some [2, 3] | _ => none, head := fun | 6 => some [4, 5, 6] | _ => none, opn := fun _ => none, dyn := fun _ => [] }
/-- vidimus/vidimuslaw08.read -/
def c23 : Code :=
  (.seq (.region 0 #[⟨some 8, .assign (.const (.bool false)), 4, "", #[], none⟩] false)
  (.seq (.region 1 #[⟨some 13, .move (.tmp 0), 22, "", #[], none⟩,
    ⟨some 14, .call { callee := .value (.func 31), args := #[.tmp 13], argTypes := #[22] }, 52, "", #[], none⟩,
    ⟨some 12, .move (.tmp 14), 52, "", #[], none⟩,
    ⟨some 15, .extract (.tmp 12) 0, 22, "", #[], none⟩,
    ⟨some 16, .extract (.tmp 12) 1, 3, "", #[], none⟩,
    ⟨some 17, .extract (.tmp 12) 2, 23, "", #[], none⟩,
    ⟨some 9, .assign (.tmp 15), 22, "", #[], none⟩,
    ⟨some 10, .assign (.tmp 16), 3, "", #[], none⟩,
    ⟨some 11, .assign (.tmp 17), 23, "", #[], none⟩] false)
  (.seq (.region 2 #[⟨some 18, .move (.tmp 9), 22, "", #[], none⟩,
    ⟨some 19, .move (.tmp 11), 23, "", #[], none⟩,
    ⟨some 20, .move (.tmp 1), 22, "", #[], none⟩,
    ⟨some 21, .move (.tmp 3), 3, "", #[], none⟩,
    ⟨some 22, .call { callee := .value (.func 26), args := #[.tmp 18, .tmp 19, .tmp 20, .tmp 21], argTypes := #[22, 23, 22, 3] }, 4, "", #[], none⟩,
    ⟨some 23, .move (.tmp 22), 4, "", #[], none⟩,
    ⟨some 24, .move (.tmp 10), 3, "", #[], some (23, true)⟩,
    ⟨some 25, .move (.tmp 2), 3, "", #[], some (23, true)⟩,
    ⟨some 26, .binOp .eql 3 (.tmp 24) (.tmp 25) 3, 4, "", #[], some (23, true)⟩,
    ⟨some 27, .pick (.tmp 23) (.tmp 26) (.const (.bool false)), 4, "", #[], none⟩,
    ⟨some 8, .assign (.tmp 27), 4, "", #[], none⟩] false)
  .ret)))
def fn23 : AFn := { ntmps := 28, results := [.tmp 8], body := c23, keep := fun | 0 => some [0, 1, 2, 3] | 1 => some [1, 2, 3, 9, 10, 11] | 2 => some [8] | _ => none, head := fun  | _ => none, opn := fun _ => none, dyn := fun _ => [] }
/-- vidimus/vidimusref08.Bytes -/
def c24 : Code :=
  (.seq (.region 0 #[⟨some 2, .assign (.const (.slice none 0 0)), 22, "", #[], none⟩] false)
  (.seq (.region 1 #[⟨some 3, .assign (.const (.slice none 0 0)), 22, "", #[], none⟩] false)
  (.seq (.seq (.region 2 #[⟨some 4, .assign (.const (.int .i64 0)), 3, "", #[], none⟩] false)
  (.block 0 (.loop (.seq (.seq (.region 3 #[⟨some 7, .move (.tmp 4), 3, "", #[], none⟩,
    ⟨some 8, .move (.tmp 0), 39, "", #[], none⟩,
    ⟨some 9, .call { callee := .builtin .len, args := #[.tmp 8], argTypes := #[39] }, 3, "", #[], none⟩,
    ⟨some 10, .binOp .lss 3 (.tmp 7) (.tmp 9) 3, 4, "", #[], none⟩] false)
  (.cond (.tmp 10)
    .skip
    (.exit 0)))
  (.seq (.block 1 (.seq (.region 5 #[⟨some 5, .assign (.const (.int .i64 0)), 3, "", #[], none⟩] false)
  (.seq (.seq (.region 6 #[⟨some 6, .assign (.const (.int .i64 0)), 3, "", #[], none⟩] false)
  (.block 2 (.loop (.seq (.seq (.region 7 #[⟨some 13, .move (.tmp 6), 3, "", #[], none⟩,
    ⟨some 14, .binOp .lss 3 (.tmp 13) (.const (.int .i64 8)) 3, 4, "", #[], none⟩] false)
  (.cond (.tmp 14)
    .skip
    (.exit 2)))
  (.seq (.block 3 (.seq (.region 9 #[⟨some 17, .move (.tmp 5), 3, "", #[], none⟩,
    ⟨some 18, .binOp .mul 3 (.const (.int .i64 2)) (.tmp 17) 3, 3, "", #[], none⟩,
    ⟨some 5, .assign (.tmp 18), 3, "", #[], none⟩] false)
  (.seq (.region 10 #[⟨some 19, .move (.tmp 4), 3, "", #[], none⟩,
    ⟨some 20, .move (.tmp 6), 3, "", #[], none⟩,
    ⟨some 21, .binOp .add 3 (.tmp 19) (.tmp 20) 3, 3, "", #[], none⟩,
    ⟨some 22, .move (.tmp 0), 39, "", #[], none⟩,
    ⟨some 23, .call { callee := .builtin .len, args := #[.tmp 22], argTypes := #[39] }, 3, "", #[], none⟩,
    ⟨some 24, .binOp .lss 3 (.tmp 21) (.tmp 23) 3, 4, "", #[], none⟩] false)
  (.cond (.tmp 24)
    (.region 11 #[⟨some 25, .move (.tmp 5), 3, "", #[], none⟩,
      ⟨some 26, .move (.tmp 0), 39, "", #[], none⟩,
      ⟨some 27, .move (.tmp 4), 3, "", #[], none⟩,
      ⟨some 28, .move (.tmp 6), 3, "", #[], none⟩,
      ⟨some 29, .binOp .add 3 (.tmp 27) (.tmp 28) 3, 3, "", #[], none⟩,
      ⟨some 30, .indexAddr 39 (.tmp 26) (.tmp 29), 0, "", #[], none⟩,
      ⟨some 31, .load 3 (.tmp 30), 3, "", #[], none⟩,
      ⟨some 32, .binOp .add 3 (.tmp 25) (.tmp 31) 3, 3, "", #[], none⟩,
      ⟨some 5, .assign (.tmp 32), 3, "", #[], none⟩] false)
    .skip))))
  (.region 8 #[⟨some 15, .move (.tmp 6), 3, "", #[], none⟩,
    ⟨some 16, .binOp .add 3 (.tmp 15) (.const (.int .i64 1)) 3, 3, "", #[], none⟩,
    ⟨some 6, .assign (.tmp 16), 3, "", #[], none⟩] false))))))
  (.region 12 #[⟨some 33, .move (.tmp 3), 22, "", #[], none⟩,
    ⟨some 34, .move (.tmp 5), 3, "", #[], none⟩,
    ⟨some 35, .convert 3 5 (.tmp 34), 5, "", #[], none⟩,
    ⟨some 36, .buildSlice 22 1 #[(0, .tmp 35)], 22, "", #[], none⟩,
    ⟨some 37, .call { callee := .builtin .append, args := #[.tmp 33, .tmp 36], argTypes := #[22, 22] }, 22, "", #[], none⟩,
    ⟨some 3, .assign (.tmp 37), 22, "", #[], none⟩] false))))
  (.region 4 #[⟨some 11, .move (.tmp 4), 3, "", #[], none⟩,
    ⟨some 12, .binOp .add 3 (.tmp 11) (.const (.int .i64 8)) 3, 3, "", #[], none⟩,
    ⟨some 4, .assign (.tmp 12), 3, "", #[], none⟩] false))))))
  (.seq (.region 13 #[⟨some 38, .move (.tmp 3), 22, "", #[], none⟩,
    ⟨some 2, .assign (.tmp 38), 22, "", #[], none⟩] false)
  .ret))))
def fn24 : AFn := { ntmps := 39, results := [.tmp 2], body := c24, keep := fun | 0 => some [0] | 1 => some [0, 3] | 2 => some [0, 3, 4] | 3 => some [0, 3, 4, 10] | 4 => some [0, 3, 4] | 5 => some [0, 3, 4, 5] | 6 => some [0, 3, 4, 5, 6] | 7 => some [0, 3, 4, 5, 6, 14] | 8 => some [0, 3, 4, 5, 6] | 9 => some [0, 3, 4, 5, 6] | 10 => some [0, 3, 4, 5, 6, 24] | 11 => some [0, 3, 4, 5, 6] | 12 => some [0, 3, 4] | 13 => some [2] | _ => none, head := fun | 3 => some [0, 3, 4] | 7 => some [0, 3, 4, 5, 6] | _ => none, opn := fun _ => none, dyn := fun _ => [] }
/-- vidimus/bitstrings.Put -/
def c25 : Code :=
  (.seq (.region 0 #[⟨some 4, .assign (.const (.slice none 0 0)), 22, "", #[], none⟩,
    ⟨some 5, .assign (.const (.int .i64 0)), 23, "", #[], none⟩] false)
  (.seq (.seq (.region 1 #[⟨some 7, .move (.tmp 0), 22, "", #[], none⟩,
    ⟨some 8, .move (.tmp 1), 3, "", #[], none⟩,
    ⟨some 9, .call { callee := .value (.func 36), args := #[.tmp 7, .tmp 8], argTypes := #[22, 3] }, 23, "", #[], none⟩,
    ⟨some 6, .assign (.tmp 9), 23, "", #[], none⟩] false)
  (.seq (.region 2 #[⟨some 10, .move (.tmp 6), 23, "", #[], none⟩,
    ⟨some 11, .binOp .neq 23 (.tmp 10) (.const (.int .i64 0)) 23, 4, "", #[], none⟩] false)
  (.cond (.tmp 11)
    (.seq (.region 3 #[⟨some 12, .move (.tmp 6), 23, "", #[], none⟩,
      ⟨some 4, .assign (.const (.slice none 0 0)), 22, "", #[], none⟩,
      ⟨some 5, .assign (.tmp 12), 23, "", #[], none⟩] false)
    .ret)
    .skip)))
  (.seq (.region 4 #[⟨some 13, .move (.tmp 1), 3, "", #[], none⟩,
    ⟨some 14, .call { callee := .value (.func 47), args := #[.tmp 13], argTypes := #[3] }, 3, "", #[], none⟩,
    ⟨some 15, .convert 3 5 (.tmp 14), 5, "", #[], none⟩,
    ⟨some 16, .buildSlice 22 1 #[(0, .tmp 15)], 22, "", fz, none⟩,
    ⟨some 17, .move (.tmp 0), 22, "", #[], none⟩,
    ⟨some 18, .call { callee := .value (.func 46), args := #[.tmp 16, .tmp 17], argTypes := #[22, 22] }, 22, "", #[], none⟩,
    ⟨some 4, .assign (.tmp 18), 22, "", #[], none⟩,
    ⟨some 5, .assign (.const (.int .i64 0)), 23, "", #[], none⟩] false)
  .ret)))
def fn25 : AFn := { ntmps := 19, results := [.tmp 4, .tmp 5], body := c25, keep := fun | 0 => some [0, 1] | 1 => some [0, 1, 6] | 2 => some [0, 1, 6, 11] | 3 => some [4, 5] | 4 => some [4, 5] | _ => none, head := fun  | _ => none, opn := fun _ => none, dyn := fun _ => [] }
/-- vidimus/vidimuslaw08.same -/
def c26 : Code :=
  (.seq (.region 0 #[⟨some 8, .assign (.const (.bool false)), 4, "", #[], none⟩] false)
  (.seq (.region 1 #[⟨some 9, .move (.tmp 1), 23, "", #[], none⟩,
    ⟨some 10, .move (.tmp 3), 3, "", #[], none⟩,
    ⟨some 11, .binOp .eql 3 (.tmp 9) (.tmp 10) 3, 4, "", #[], none⟩,
    ⟨some 12, .move (.tmp 11), 4, "", #[], none⟩,
    ⟨some 13, .move (.tmp 0), 22, "", #[], some (12, true)⟩,
    ⟨some 14, .convert 22 9 (.tmp 13), 9, "", #[], some (12, true)⟩,
    ⟨some 15, .move (.tmp 2), 22, "", #[], some (12, true)⟩,
    ⟨some 16, .convert 22 9 (.tmp 15), 9, "", #[], some (12, true)⟩,
    ⟨some 17, .binOp .eql 9 (.tmp 14) (.tmp 16) 9, 4, "", #[], some (12, true)⟩,
    ⟨some 18, .pick (.tmp 12) (.tmp 17) (.const (.bool false)), 4, "", #[], none⟩,
    ⟨some 19, .move (.tmp 18), 4, "", #[], none⟩,
    ⟨some 20, .move (.tmp 0), 22, "", #[], some (19, true)⟩,
    ⟨some 21, .call { callee := .builtin .cap, args := #[.tmp 20], argTypes := #[22] }, 3, "", #[], some (19, true)⟩,
    ⟨some 22, .move (.tmp 0), 22, "", #[], some (19, true)⟩,
    ⟨some 23, .call { callee := .builtin .len, args := #[.tmp 22], argTypes := #[22] }, 3, "", #[], some (19, true)⟩,
    ⟨some 24, .binOp .eql 3 (.tmp 21) (.tmp 23) 3, 4, "", #[], some (19, true)⟩,
    ⟨some 25, .pick (.tmp 19) (.tmp 24) (.const (.bool false)), 4, "", #[], none⟩,
    ⟨some 8, .assign (.tmp 25), 4, "", #[], none⟩] false)
  .ret))
def fn26 : AFn := { ntmps := 26, results := [.tmp 8], body := c26, keep := fun | 0 => some [0, 1, 2, 3] | 1 => some [8] | _ => none, head := fun  | _ => none, opn := fun _ => none, dyn := fun _ => [] }
/-- vidimus/vidimusref08.GetNamed -/
def c27 : Code :=
  (.seq (.region 0 #[⟨some 2, .assign (.const (.int .u64 0)), 45, "", #[], none⟩,
    ⟨some 3, .assign (.const (.int .i64 0)), 3, "", #[], none⟩] false)
  (.seq (.region 1 #[⟨some 9, .move (.tmp 0), 22, "", #[], none⟩,
    ⟨some 10, .call { callee := .value (.func 22), args := #[.tmp 9], argTypes := #[22] }, 40, "", #[], none⟩,
    ⟨some 8, .move (.tmp 10), 40, "", #[], none⟩,
    ⟨some 11, .extract (.tmp 8) 0, 39, "", #[], none⟩,
    ⟨some 12, .extract (.tmp 8) 1, 3, "", #[], none⟩,
    ⟨some 4, .assign (.tmp 11), 39, "", #[], none⟩,
    ⟨some 5, .assign (.tmp 12), 3, "", #[], none⟩] false)
  (.seq (.seq (.region 2 #[⟨some 13, .move (.tmp 5), 3, "", #[], none⟩,
    ⟨some 14, .binOp .neq 3 (.tmp 13) (.const (.int .i64 0)) 3, 4, "", #[], none⟩] false)
  (.cond (.tmp 14)
    (.seq (.region 3 #[⟨some 15, .move (.tmp 5), 3, "", #[], none⟩,
      ⟨some 2, .assign (.const (.int .u64 0)), 45, "", #[], none⟩,
      ⟨some 3, .assign (.tmp 15), 3, "", #[], none⟩] false)
    .ret)
    .skip))
  (.seq (.seq (.region 4 #[⟨some 16, .move (.tmp 4), 39, "", #[], none⟩,
    ⟨some 17, .call { callee := .builtin .len, args := #[.tmp 16], argTypes := #[39] }, 3, "", #[], none⟩,
    ⟨some 18, .binOp .gtr 3 (.tmp 17) (.const (.int .i64 0)) 3, 4, "", #[], none⟩,
    ⟨some 19, .move (.tmp 18), 4, "", #[], none⟩,
    ⟨some 20, .move (.tmp 4), 39, "", #[], some (19, true)⟩,
    ⟨some 21, .move (.tmp 4), 39, "", #[], some (19, true)⟩,
    ⟨some 22, .call { callee := .builtin .len, args := #[.tmp 21], argTypes := #[39] }, 3, "", #[], some (19, true)⟩,
    ⟨some 23, .binOp .sub 3 (.tmp 22) (.const (.int .i64 1)) 3, 3, "", #[], some (19, true)⟩,
    ⟨some 24, .indexAddr 39 (.tmp 20) (.tmp 23), 0, "", #[], some (19, true)⟩,
    ⟨some 25, .load 3 (.tmp 24), 3, "", #[], some (19, true)⟩,
    ⟨some 26, .binOp .eql 3 (.tmp 25) (.const (.int .i64 0)) 3, 4, "", #[], some (19, true)⟩,
    ⟨some 27, .pick (.tmp 19) (.tmp 26) (.const (.bool false)), 4, "", #[], none⟩] false)
  (.cond (.tmp 27)
    (.seq (.region 5 #[⟨some 2, .assign (.const (.int .u64 0)), 45, "", #[], none⟩,
      ⟨some 3, .assign (.const (.int .i64 11)), 3, "", #[], none⟩] false)
    .ret)
    .skip))
  (.seq (.seq (.region 6 #[⟨some 28, .move (.tmp 4), 39, "", #[], none⟩,
    ⟨some 29, .call { callee := .builtin .len, args := #[.tmp 28], argTypes := #[39] }, 3, "", #[], none⟩,
    ⟨some 30, .binOp .gtr 3 (.tmp 29) (.const (.int .i64 64)) 3, 4, "", #[], none⟩] false)
  (.cond (.tmp 30)
    (.seq (.region 7 #[⟨some 2, .assign (.const (.int .u64 0)), 45, "", #[], none⟩,
      ⟨some 3, .assign (.const (.int .i64 3)), 3, "", #[], none⟩] false)
    .ret)
    .skip))
  (.seq (.region 8 #[⟨some 6, .assign (.const (.int .u64 0)), 45, "", #[], none⟩] false)
  (.seq (.seq (.region 9 #[⟨some 31, .move (.tmp 4), 39, "", #[], none⟩,
    ⟨some 32, .call { callee := .builtin .len, args := #[.tmp 31], argTypes := #[39] }, 3, "", #[], none⟩,
    ⟨some 33, .binOp .sub 3 (.tmp 32) (.const (.int .i64 1)) 3, 3, "", #[], none⟩,
    ⟨some 7, .assign (.tmp 33), 3, "", #[], none⟩] false)
  (.block 0 (.loop (.seq (.seq (.region 10 #[⟨some 34, .move (.tmp 7), 3, "", #[], none⟩,
    ⟨some 35, .binOp .geq 3 (.tmp 34) (.const (.int .i64 0)) 3, 4, "", #[], none⟩] false)
  (.cond (.tmp 35)
    .skip
    (.exit 0)))
  (.seq (.block 1 (.region 12 #[⟨some 38, .move (.tmp 6), 45, "", #[], none⟩,
    ⟨some 39, .binOp .mul 45 (.const (.int .u64 2)) (.tmp 38) 45, 45, "", #[], none⟩,
    ⟨some 40, .move (.tmp 4), 39, "", #[], none⟩,
    ⟨some 41, .move (.tmp 7), 3, "", #[], none⟩,
    ⟨some 42, .indexAddr 39 (.tmp 40) (.tmp 41), 0, "", #[], none⟩,
    ⟨some 43, .load 3 (.tmp 42), 3, "", #[], none⟩,
    ⟨some 44, .convert 3 45 (.tmp 43), 45, "", #[], none⟩,
    ⟨some 45, .binOp .add 45 (.tmp 39) (.tmp 44) 45, 45, "", #[], none⟩,
    ⟨some 6, .assign (.tmp 45), 45, "", #[], none⟩] false))
  (.region 11 #[⟨some 36, .move (.tmp 7), 3, "", #[], none⟩,
    ⟨some 37, .binOp .sub 3 (.tmp 36) (.const (.int .i64 1)) 3, 3, "", #[], none⟩,
    ⟨some 7, .assign (.tmp 37), 3, "", #[], none⟩] false))))))
  (.seq (.region 13 #[⟨some 46, .move (.tmp 6), 45, "", #[], none⟩,
    ⟨some 2, .assign (.tmp 46), 45, "", #[], none⟩,
    ⟨some 3, .assign (.const (.int .i64 0)), 3, "", #[], none⟩] false)
  .ret))))))))
def fn27 : AFn := { ntmps := 47, results := [.tmp 2, .tmp 3], body := c27, keep := fun | 0 => some [0] | 1 => some [4, 5] | 2 => some [4, 5, 14] | 3 => some [2, 3] | 4 => some [4, 27] | 5 => some [2, 3] | 6 => some [4, 30] | 7 => some [2, 3] | 8 => some [4, 6] | 9 => some [4, 6, 7] | 10 => some [4, 6, 7, 35] | 11 => some [4, 6, 7] | 12 => some [4, 6, 7] | 13 => some [2, 3] | _ => none, head := fun | 10 => some [4, 6, 7] | _ => none, opn := fun _ => none, dyn := fun _ => [] }
/-- vidimus/vidimuslaw08.named -/
def c28 : Code :=
  (.seq (.region 0 #[⟨some 6, .assign (.const (.bool false)), 4, "", #[], none⟩] false)
  (.seq (.region 1 #[⟨some 10, .move (.tmp 0), 22, "", #[], none⟩,
    ⟨some 11, .call { callee := .value (.func 48), args := #[.tmp 10], argTypes := #[22] }, 80, "", #[], none⟩,
    ⟨some 9, .move (.tmp 11), 80, "", #[], none⟩,
    ⟨some 12, .extract (.tmp 9) 0, 45, "", #[], none⟩,
    ⟨some 13, .extract (.tmp 9) 1, 23, "", #[], none⟩,
    ⟨some 7, .assign (.tmp 12), 45, "", #[], none⟩,
    ⟨some 8, .assign (.tmp 13), 23, "", #[], none⟩] false)
  (.seq (.region 2 #[⟨some 14, .move (.tmp 7), 45, "", #[], none⟩,
    ⟨some 15, .move (.tmp 1), 45, "", #[], none⟩,
    ⟨some 16, .binOp .eql 45 (.tmp 14) (.tmp 15) 45, 4, "", #[], none⟩,
    ⟨some 17, .move (.tmp 16), 4, "", #[], none⟩,
    ⟨some 18, .move (.tmp 8), 23, "", #[], some (17, true)⟩,
    ⟨some 19, .move (.tmp 2), 3, "", #[], some (17, true)⟩,
    ⟨some 20, .binOp .eql 3 (.tmp 18) (.tmp 19) 3, 4, "", #[], some (17, true)⟩,
    ⟨some 21, .pick (.tmp 17) (.tmp 20) (.const (.bool false)), 4, "", #[], none⟩,
    ⟨some 6, .assign (.tmp 21), 4, "", #[], none⟩] false)
  .ret)))
def fn28 : AFn := { ntmps := 22, results := [.tmp 6], body := c28, keep := fun | 0 => some [0, 1, 2] | 1 => some [1, 2, 7, 8] | 2 => some [6] | _ => none, head := fun  | _ => none, opn := fun _ => none, dyn := fun _ => [] }
/-- vidimus/bitstrings.PutNamed -/
def c29 : Code :=
  (.seq (.region 0 #[⟨some 2, .assign (.const (.slice none 0 0)), 22, "", #[], none⟩] false)
  (.seq (.region 1 #[⟨some 6, .move (.tmp 0), 45, "", #[], none⟩,
    ⟨some 7, .call { callee := .value (.func 49), args := #[.tmp 6], argTypes := #[45] }, 3, "", #[], none⟩,
    ⟨some 3, .assign (.tmp 7), 3, "", #[], none⟩] false)
  (.seq (.region 2 #[⟨some 8, .move (.tmp 3), 3, "", #[], none⟩,
    ⟨some 9, .binOp .add 3 (.tmp 8) (.const (.int .i64 7)) 3, 3, "", #[], none⟩,
    ⟨some 10, .binOp .quo 3 (.tmp 9) (.const (.int .i64 8)) 3, 3, "", #[], none⟩,
    ⟨some 11, .makeSlice 22 (.tmp 10) (.tmp 10), 22, "", #[], none⟩,
    ⟨some 4, .assign (.tmp 11), 22, "", #[], none⟩] false)
  (.seq (.seq (.region 3 #[⟨some 12, .move (.tmp 3), 3, "", #[], none⟩,
    ⟨some 13, .move (.const (.int .i64 0)), 3, "", #[], none⟩] false)
  (.block 0 (.loop (.seq (.region 4 #[⟨some 14, .binOp .lss 3 (.tmp 13) (.tmp 12) 3, 4, "", #[], none⟩] false)
  (.seq (.cond (.tmp 14)
    .skip
    (.exit 0))
  (.seq (.block 1 (.seq (.region 5 #[⟨some 15, .move (.tmp 13), 3, "", #[], none⟩,
    ⟨some 5, .assign (.tmp 15), 3, "", #[], none⟩] false)
  (.seq (.region 6 #[⟨some 16, .move (.tmp 0), 45, "", #[], none⟩,
    ⟨some 17, .move (.tmp 5), 3, "", #[], none⟩,
    ⟨some 18, .binOp .shr 45 (.tmp 16) (.tmp 17) 3, 45, "", #[], none⟩,
    ⟨some 19, .binOp .and 45 (.tmp 18) (.const (.int .u64 1)) 45, 45, "", #[], none⟩,
    ⟨some 20, .binOp .eql 45 (.tmp 19) (.const (.int .u64 1)) 45, 4, "", #[], none⟩] false)
  (.cond (.tmp 20)
    (.region 7 #[⟨some 21, .move (.tmp 4), 22, "", #[], none⟩,
      ⟨some 22, .move (.tmp 5), 3, "", #[], none⟩,
      ⟨some 23, .binOp .quo 3 (.tmp 22) (.const (.int .i64 8)) 3, 3, "", #[], none⟩,
      ⟨some 24, .indexAddr 22 (.tmp 21) (.tmp 23), 0, "", #[], none⟩,
      ⟨some 25, .load 5 (.tmp 24), 5, "", #[], none⟩,
      ⟨some 26, .move (.tmp 5), 3, "", #[], none⟩,
      ⟨some 27, .binOp .rem 3 (.tmp 26) (.const (.int .i64 8)) 3, 3, "", #[], none⟩,
      ⟨some 28, .binOp .shr 5 (.const (.int .u8 128)) (.tmp 27) 3, 5, "", #[], none⟩,
      ⟨some 29, .binOp .or 5 (.tmp 25) (.tmp 28) 5, 5, "", #[], none⟩,
      ⟨some 30, .indexAddr 22 (.tmp 21) (.tmp 23), 0, "", #[], none⟩,
      ⟨none, .store 5 (.tmp 30) (.tmp 29), 0, "", #[], none⟩] true)
    .skip))))
  (.region 8 #[⟨some 31, .binOp .add 3 (.tmp 13) (.const (.int .i64 1)) 3, 3, "", #[], none⟩,
    ⟨some 13, .move (.tmp 31), 3, "", #[], none⟩] false)))))))
  (.seq (.region 9 #[⟨some 32, .move (.tmp 3), 3, "", #[], none⟩,
    ⟨some 33, .call { callee := .value (.func 47), args := #[.tmp 32], argTypes := #[3] }, 3, "", #[], none⟩,
    ⟨some 34, .convert 3 5 (.tmp 33), 5, "", #[], none⟩,
    ⟨some 35, .buildSlice 22 1 #[(0, .tmp 34)], 22, "", fz, none⟩,
    ⟨some 36, .move (.tmp 4), 22, "", #[], none⟩,
    ⟨some 37, .call { callee := .value (.func 46), args := #[.tmp 35, .tmp 36], argTypes := #[22, 22] }, 22, "", #[], none⟩,
    ⟨some 2, .assign (.tmp 37), 22, "", #[], none⟩] false)
  .ret)))))
def fn29 : AFn := { ntmps := 38, results := [.tmp 2], body := c29, keep := fun | 0 => some [0] | 1 => some [0, 3] | 2 => some [0, 3, 4] | 3 => some [0, 3, 4, 12, 13] | 4 => some [0, 3, 4, 12, 13, 14] | 5 => some [0, 3, 4, 5, 12, 13] | 6 => some [0, 3, 4, 5, 12, 13, 20] | 7 => some [0, 3, 4, 12, 13] | 8 => some [0, 3, 4, 12, 13] | 9 => some [2] | _ => none, head := fun | 4 => some [0, 3, 4, 12, 13] | _ => none, opn := fun _ => none, dyn := fun _ => [] }
/-- vidimus/vidimusref08.PutNamed -/
def c30 : Code :=
  (.seq (.region 0 #[⟨some 2, .assign (.const (.slice none 0 0)), 22, "", #[], none⟩] false)
  (.seq (.region 1 #[⟨some 3, .assign (.const (.slice none 0 0)), 39, "", #[], none⟩] false)
  (.seq (.block 0 (.loop (.seq (.seq (.region 2 #[⟨some 4, .move (.tmp 0), 45, "", #[], none⟩,
    ⟨some 5, .binOp .gtr 45 (.tmp 4) (.const (.int .u64 0)) 45, 4, "", #[], none⟩] false)
  (.cond (.tmp 5)
    .skip
    (.exit 0)))
  (.block 1 (.seq (.region 3 #[⟨some 6, .move (.tmp 3), 39, "", #[], none⟩,
    ⟨some 7, .move (.tmp 0), 45, "", #[], none⟩,
    ⟨some 8, .binOp .rem 45 (.tmp 7) (.const (.int .u64 2)) 45, 45, "", #[], none⟩,
    ⟨some 9, .convert 45 3 (.tmp 8), 3, "", #[], none⟩,
    ⟨some 10, .buildSlice 39 1 #[(0, .tmp 9)], 39, "", #[], none⟩,
    ⟨some 11, .call { callee := .builtin .append, args := #[.tmp 6, .tmp 10], argTypes := #[39, 39] }, 39, "", #[], none⟩,
    ⟨some 3, .assign (.tmp 11), 39, "", #[], none⟩] false)
  (.region 4 #[⟨some 12, .move (.tmp 0), 45, "", #[], none⟩,
    ⟨some 13, .binOp .quo 45 (.tmp 12) (.const (.int .u64 2)) 45, 45, "", #[], none⟩,
    ⟨some 0, .assign (.tmp 13), 45, "", #[], none⟩] false))))))
  (.seq (.region 5 #[⟨some 14, .move (.tmp 3), 39, "", #[], none⟩,
    ⟨some 15, .call { callee := .value (.func 35), args := #[.tmp 14], argTypes := #[39] }, 22, "", #[], none⟩,
    ⟨some 2, .assign (.tmp 15), 22, "", #[], none⟩] false)
  .ret))))
def fn30 : AFn := { ntmps := 16, results := [.tmp 2], body := c30, keep := fun | 0 => some [0] | 1 => some [0, 3] | 2 => some [0, 3, 5] | 3 => some [0, 3] | 4 => some [0, 3] | 5 => some [2] | _ => none, head := fun | 2 => some [0, 3] | _ => none, opn := fun _ => none, dyn := fun _ => [] }
/-- vidimus/bitstrings.Get -/
def c31 : Code :=
  (.seq (.region 0 #[⟨some 2, .assign (.const (.slice none 0 0)), 22, "", #[], none⟩,
    ⟨some 3, .assign (.const (.int .i64 0)), 3, "", #[], none⟩,
    ⟨some 4, .assign (.const (.int .i64 0)), 23, "", #[], none⟩] false)
  (.seq (.seq (.region 1 #[⟨some 5, .move (.tmp 0), 22, "", #[], none⟩,
    ⟨some 6, .call { callee := .builtin .len, args := #[.tmp 5], argTypes := #[22] }, 3, "", #[], none⟩,
    ⟨some 7, .binOp .eql 3 (.tmp 6) (.const (.int .i64 0)) 3, 4, "", #[], none⟩,
    ⟨some 8, .move (.tmp 7), 4, "", #[], none⟩,
    ⟨some 9, .move (.tmp 0), 22, "", #[], some (8, false)⟩,
    ⟨some 10, .indexAddr 22 (.tmp 9) (.const (.int .i64 0)), 0, "", #[], some (8, false)⟩,
    ⟨some 11, .load 5 (.tmp 10), 5, "", #[], some (8, false)⟩,
    ⟨some 12, .binOp .gtr 5 (.tmp 11) (.const (.int .u8 7)) 5, 4, "", #[], some (8, false)⟩,
    ⟨some 13, .pick (.tmp 8) (.const (.bool true)) (.tmp 12), 4, "", #[], none⟩,
    ⟨some 14, .move (.tmp 13), 4, "", #[], none⟩,
    ⟨some 15, .move (.tmp 0), 22, "", #[], some (14, false)⟩,
    ⟨some 16, .indexAddr 22 (.tmp 15) (.const (.int .i64 0)), 0, "", #[], some (14, false)⟩,
    ⟨some 17, .load 5 (.tmp 16), 5, "", #[], some (14, false)⟩,
    ⟨some 18, .binOp .gtr 5 (.tmp 17) (.const (.int .u8 0)) 5, 4, "", #[], some (14, false)⟩,
    ⟨some 19, .move (.tmp 18), 4, "", #[], some (14, false)⟩,
    ⟨some 20, .move (.tmp 0), 22, "", #[], some (19, true)⟩,
    ⟨some 21, .call { callee := .builtin .len, args := #[.tmp 20], argTypes := #[22] }, 3, "", #[], some (19, true)⟩,
    ⟨some 22, .binOp .eql 3 (.tmp 21) (.const (.int .i64 1)) 3, 4, "", #[], some (19, true)⟩,
    ⟨some 23, .pick (.tmp 19) (.tmp 22) (.const (.bool false)), 4, "", #[], some (14, false)⟩,
    ⟨some 24, .pick (.tmp 14) (.const (.bool true)) (.tmp 23), 4, "", #[], none⟩] false)
  (.cond (.tmp 24)
    (.seq (.region 2 #[⟨some 2, .assign (.const (.slice none 0 0)), 22, "", #[], none⟩,
      ⟨some 3, .assign (.const (.int .i64 0)), 3, "", #[], none⟩,
      ⟨some 4, .assign (.const (.int .i64 11)), 23, "", #[], none⟩] false)
    .ret)
    .skip))
  (.seq (.seq (.region 3 #[⟨some 25, .move (.tmp 0), 22, "", #[], none⟩,
    ⟨some 26, .call { callee := .builtin .len, args := #[.tmp 25], argTypes := #[22] }, 3, "", #[], none⟩,
    ⟨some 27, .binOp .gtr 3 (.tmp 26) (.const (.int .i64 1)) 3, 4, "", #[], none⟩,
    ⟨some 28, .move (.tmp 27), 4, "", #[], none⟩,
    ⟨some 29, .move (.tmp 0), 22, "", #[], some (28, true)⟩,
    ⟨some 30, .move (.tmp 0), 22, "", #[], some (28, true)⟩,
    ⟨some 31, .call { callee := .builtin .len, args := #[.tmp 30], argTypes := #[22] }, 3, "", #[], some (28, true)⟩,
    ⟨some 32, .binOp .sub 3 (.tmp 31) (.const (.int .i64 1)) 3, 3, "", #[], some (28, true)⟩,
    ⟨some 33, .indexAddr 22 (.tmp 29) (.tmp 32), 0, "", #[], some (28, true)⟩,
    ⟨some 34, .load 5 (.tmp 33), 5, "", #[], some (28, true)⟩,
    ⟨some 35, .move (.tmp 0), 22, "", #[], some (28, true)⟩,
    ⟨some 36, .indexAddr 22 (.tmp 35) (.const (.int .i64 0)), 0, "", #[], some (28, true)⟩,
    ⟨some 37, .load 5 (.tmp 36), 5, "", #[], some (28, true)⟩,
    ⟨some 38, .binOp .shl 5 (.const (.int .u8 1)) (.tmp 37) 5, 5, "", #[], some (28, true)⟩,
    ⟨some 39, .binOp .sub 5 (.tmp 38) (.const (.int .u8 1)) 5, 5, "", #[], some (28, true)⟩,
    ⟨some 40, .binOp .and 5 (.tmp 34) (.tmp 39) 5, 5, "", #[], some (28, true)⟩,
    ⟨some 41, .binOp .neq 5 (.tmp 40) (.const (.int .u8 0)) 5, 4, "", #[], some (28, true)⟩,
    ⟨some 42, .pick (.tmp 28) (.tmp 41) (.const (.bool false)), 4, "", #[], none⟩] true)
  (.cond (.tmp 42)
    (.seq (.region 4 #[⟨some 2, .assign (.const (.slice none 0 0)), 22, "", #[], none⟩,
      ⟨some 3, .assign (.const (.int .i64 0)), 3, "", #[], none⟩,
      ⟨some 4, .assign (.const (.int .i64 11)), 23, "", #[], none⟩] false)
    .ret)
    .skip))
  (.seq (.region 5 #[⟨some 43, .move (.tmp 0), 22, "", #[], none⟩,
    ⟨some 44, .call { callee := .builtin .len, args := #[.tmp 43], argTypes := #[22] }, 3, "", #[], none⟩,
    ⟨some 45, .binOp .sub 3 (.tmp 44) (.const (.int .i64 1)) 3, 3, "", #[], none⟩,
    ⟨some 46, .binOp .mul 3 (.const (.int .i64 8)) (.tmp 45) 3, 3, "", #[], none⟩,
    ⟨some 47, .move (.tmp 0), 22, "", #[], none⟩,
    ⟨some 48, .indexAddr 22 (.tmp 47) (.const (.int .i64 0)), 0, "", #[], none⟩,
    ⟨some 49, .load 5 (.tmp 48), 5, "", #[], none⟩,
    ⟨some 50, .convert 5 3 (.tmp 49), 3, "", #[], none⟩,
    ⟨some 51, .binOp .sub 3 (.tmp 46) (.tmp 50) 3, 3, "", #[], none⟩,
    ⟨some 3, .assign (.tmp 51), 3, "", #[], none⟩] false)
  (.seq (.seq (.region 6 #[⟨some 52, .move (.tmp 3), 3, "", #[], none⟩,
    ⟨some 53, .binOp .gtr 3 (.tmp 52) (.const (.int .i64 524288)) 3, 4, "", #[], none⟩] false)
  (.cond (.tmp 53)
    (.seq (.region 7 #[⟨some 2, .assign (.const (.slice none 0 0)), 22, "", #[], none⟩,
      ⟨some 3, .assign (.const (.int .i64 0)), 3, "", #[], none⟩,
      ⟨some 4, .assign (.const (.int .i64 3)), 23, "", #[], none⟩] false)
    .ret)
    .skip))
  (.seq (.region 8 #[⟨some 54, .move (.tmp 0), 22, "", #[], none⟩,
    ⟨some 55, .slice 22 (.tmp 54) (some (.const (.int .i64 1))) none none, 22, "", #[], none⟩,
    ⟨some 56, .call { callee := .value (.func 46), args := #[.tmp 55, .const (.slice none 0 0)], argTypes := #[22, 22] }, 22, "", #[], none⟩,
    ⟨some 57, .move (.tmp 3), 3, "", #[], none⟩,
    ⟨some 2, .assign (.tmp 56), 22, "", #[], none⟩,
    ⟨some 3, .assign (.tmp 57), 3, "", #[], none⟩,
    ⟨some 4, .assign (.const (.int .i64 0)), 23, "", #[], none⟩] false)
  .ret))))))
def fn31 : AFn := { ntmps := 58, results := [.tmp 2, .tmp 3, .tmp 4], body := c31, keep := fun | 0 => some [0] | 1 => some [0, 24] | 2 => some [2, 3, 4] | 3 => some [0, 42] | 4 => some [2, 3, 4] | 5 => some [0, 3] | 6 => some [0, 3, 53] | 7 => some [2, 3, 4] | 8 => some [2, 3, 4] | _ => none, head := fun  | _ => none, opn := fun _ => none, dyn := fun _ => [] }
/-- vidimus/bitstrings.Octets -/
def c32 : Code :=
  (.seq (.region 0 #[⟨some 2, .alloc 59, 0, "", #[], none⟩,
    ⟨some 3, .assign (.const (.int .i64 0)), 23, "", #[], none⟩] false)
  (.seq (.seq (.region 1 #[⟨some 4, .move (.tmp 0), 22, "", #[], none⟩,
    ⟨some 5, .call { callee := .builtin .len, args := #[.tmp 4], argTypes := #[22] }, 3, "", #[], none⟩,
    ⟨some 6, .binOp .gtr 3 (.tmp 5) (.const (.int .i64 65536)) 3, 4, "", #[], none⟩] false)
  (.cond (.tmp 6)
    (.seq (.region 2 #[⟨some 7, .build 59 #[], 59, "", #[], none⟩,
      ⟨none, .store 59 (.tmp 2) (.tmp 7), 0, "", #[], none⟩,
      ⟨some 3, .assign (.const (.int .i64 3)), 23, "", #[], none⟩] false)
    .ret)
    .skip))
  (.seq (.region 3 #[⟨some 8, .build 56 #[(2, .const (.int .u32 4))], 56, "", #[], none⟩,
    ⟨some 9, .move (.tmp 0), 22, "", #[], none⟩,
    ⟨some 10, .call { callee := .value (.func 46), args := #[.tmp 9, .const (.slice none 0 0)], argTypes := #[22, 22] }, 22, "", #[], none⟩,
    ⟨some 11, .build 59 #[(0, .tmp 8), (1, .tmp 10)], 59, "", #[], none⟩,
    ⟨none, .store 59 (.tmp 2) (.tmp 11), 0, "", #[], none⟩,
    ⟨some 3, .assign (.const (.int .i64 0)), 23, "", #[], none⟩] false)
  .ret)))
def fn32 : AFn := { ntmps := 12, results := [.cell 2 59, .tmp 3], body := c32, keep := fun | 0 => some [0, 2] | 1 => some [0, 2, 6] | 2 => some [2, 3] | 3 => some [2, 3] | _ => none, head := fun  | _ => none, opn := fun _ => none, dyn := fun _ => [] }
/-- vidimus/bitstrings.OfOctets -/
def c33 : Code :=
  (.seq (.region 0 #[⟨some 1, .box 59 (.tmp 0), 0, "", #[], none⟩,
    ⟨some 2, .assign (.const (.slice none 0 0)), 22, "", #[], none⟩,
    ⟨some 3, .assign (.const (.int .i64 0)), 23, "", #[], none⟩] false)
  (.seq (.region 1 #[⟨some 7, .load 59 (.tmp 1), 59, "", #[], none⟩,
    ⟨some 8, .call { callee := .value (.func 50), args := #[.tmp 7, .const (.int .u32 4)], argTypes := #[59, 31] }, 24, "", #[], none⟩,
    ⟨some 6, .move (.tmp 8), 24, "", #[], none⟩,
    ⟨some 9, .extract (.tmp 6) 0, 22, "", #[], none⟩,
    ⟨some 10, .extract (.tmp 6) 1, 23, "", #[], none⟩,
    ⟨some 4, .assign (.tmp 9), 22, "", #[], none⟩,
    ⟨some 5, .assign (.tmp 10), 23, "", #[], none⟩] false)
  (.seq (.block 0 (.seq (.region 2 #[⟨some 12, .move (.tmp 5), 23, "", #[], none⟩,
    ⟨some 13, .binOp .neq 23 (.tmp 12) (.const (.int .i64 0)) 23, 4, "", #[], none⟩,
    ⟨some 11, .assign (.tmp 13), 4, "", #[], none⟩] false)
  (.cond (.tmp 11)
    (.seq (.region 3 #[⟨some 14, .move (.tmp 5), 23, "", #[], none⟩,
      ⟨some 2, .assign (.const (.slice none 0 0)), 22, "", #[], none⟩,
      ⟨some 3, .assign (.tmp 14), 23, "", #[], none⟩] false)
    .ret)
    (.seq (.region 4 #[⟨some 16, .move (.tmp 4), 22, "", #[], none⟩,
      ⟨some 17, .call { callee := .builtin .len, args := #[.tmp 16], argTypes := #[22] }, 3, "", #[], none⟩,
      ⟨some 18, .binOp .gtr 3 (.tmp 17) (.const (.int .i64 65536)) 3, 4, "", #[], none⟩,
      ⟨some 15, .assign (.tmp 18), 4, "", #[], none⟩] false)
    (.cond (.tmp 15)
      (.seq (.region 5 #[⟨some 2, .assign (.const (.slice none 0 0)), 22, "", #[], none⟩,
        ⟨some 3, .assign (.const (.int .i64 3)), 23, "", #[], none⟩] false)
      .ret)
      .skip)))))
  (.seq (.region 6 #[⟨some 19, .move (.tmp 4), 22, "", #[], none⟩,
    ⟨some 20, .call { callee := .value (.func 46), args := #[.tmp 19, .const (.slice none 0 0)], argTypes := #[22, 22] }, 22, "", #[], none⟩,
    ⟨some 2, .assign (.tmp 20), 22, "", #[], none⟩,
    ⟨some 3, .assign (.const (.int .i64 0)), 23, "", #[], none⟩] false)
  .ret))))
def fn33 : AFn := { ntmps := 21, results := [.tmp 2, .tmp 3], body := c33, keep := fun | 0 => some [1] | 1 => some [4, 5] | 2 => some [4, 5, 11] | 3 => some [2, 3] | 4 => some [4, 15] | 5 => some [2, 3] | 6 => some [2, 3] | _ => none, head := fun  | _ => none, opn := fun _ => none, dyn := fun _ => [] }
/-- (vidimus/vidimuslaw08.L).Of -/
def c34 : Code :=
  (.seq (.region 0 #[⟨some 1, .box 64 (.tmp 0), 0, "", #[], none⟩,
    ⟨some 2, .assign (.const (.slice none 0 0)), 39, "", #[], none⟩] false)
  (.seq (.region 1 #[⟨some 3, .assign (.const (.slice none 0 0)), 39, "", #[], none⟩] false)
  (.seq (.seq (.region 2 #[⟨some 4, .assign (.const (.int .i64 0)), 3, "", #[], none⟩] false)
  (.block 0 (.loop (.seq (.seq (.region 3 #[⟨some 5, .move (.tmp 4), 3, "", #[], none⟩,
    ⟨some 6, .fieldAddr 64 (.tmp 1) 0, 0, "", #[], none⟩,
    ⟨some 7, .load 22 (.tmp 6), 22, "", #[], none⟩,
    ⟨some 8, .call { callee := .builtin .len, args := #[.tmp 7], argTypes := #[22] }, 3, "", #[], none⟩,
    ⟨some 9, .binOp .lss 3 (.tmp 5) (.tmp 8) 3, 4, "", #[], none⟩,
    ⟨some 10, .move (.tmp 9), 4, "", #[], none⟩,
    ⟨some 11, .move (.tmp 4), 3, "", #[], some (10, true)⟩,
    ⟨some 12, .binOp .lss 3 (.tmp 11) (.const (.int .i64 300)) 3, 4, "", #[], some (10, true)⟩,
    ⟨some 13, .pick (.tmp 10) (.tmp 12) (.const (.bool false)), 4, "", #[], none⟩] false)
  (.cond (.tmp 13)
    .skip
    (.exit 0)))
  (.seq (.block 1 (.region 5 #[⟨some 16, .move (.tmp 3), 39, "", #[], none⟩,
    ⟨some 17, .fieldAddr 64 (.tmp 1) 0, 0, "", #[], none⟩,
    ⟨some 18, .load 22 (.tmp 17), 22, "", #[], none⟩,
    ⟨some 19, .move (.tmp 4), 3, "", #[], none⟩,
    ⟨some 20, .indexAddr 22 (.tmp 18) (.tmp 19), 0, "", #[], none⟩,
    ⟨some 21, .load 5 (.tmp 20), 5, "", #[], none⟩,
    ⟨some 22, .binOp .rem 5 (.tmp 21) (.const (.int .u8 2)) 5, 5, "", #[], none⟩,
    ⟨some 23, .convert 5 3 (.tmp 22), 3, "", #[], none⟩,
    ⟨some 24, .buildSlice 39 1 #[(0, .tmp 23)], 39, "", #[], none⟩,
    ⟨some 25, .call { callee := .builtin .append, args := #[.tmp 16, .tmp 24], argTypes := #[39, 39] }, 39, "", #[], none⟩,
    ⟨some 3, .assign (.tmp 25), 39, "", #[], none⟩] false))
  (.region 4 #[⟨some 14, .move (.tmp 4), 3, "", #[], none⟩,
    ⟨some 15, .binOp .add 3 (.tmp 14) (.const (.int .i64 1)) 3, 3, "", #[], none⟩,
    ⟨some 4, .assign (.tmp 15), 3, "", #[], none⟩] false))))))
  (.seq (.region 6 #[⟨some 26, .move (.tmp 3), 39, "", #[], none⟩,
    ⟨some 2, .assign (.tmp 26), 39, "", #[], none⟩] false)
  .ret))))
def fn34 : AFn := { ntmps := 27, results := [.tmp 2], body := c34, keep := fun | 0 => some [1] | 1 => some [1, 3] | 2 => some [1, 3, 4] | 3 => some [1, 3, 4, 13] | 4 => some [1, 3, 4] | 5 => some [1, 3, 4] | 6 => some [2] | _ => none, head := fun | 3 => some [1, 3, 4] | _ => none, opn := fun _ => none, dyn := fun _ => [] }
/-- vidimus/vidimusref08.Put -/
def c35 : Code :=
  (.seq (.region 0 #[⟨some 2, .assign (.const (.slice none 0 0)), 22, "", #[], none⟩] false)
  (.seq (.region 1 #[⟨some 4, .move (.tmp 0), 39, "", #[], none⟩,
    ⟨some 5, .call { callee := .value (.func 24), args := #[.tmp 4], argTypes := #[39] }, 22, "", #[], none⟩,
    ⟨some 3, .assign (.tmp 5), 22, "", #[], none⟩] false)
  (.seq (.region 2 #[⟨some 6, .move (.tmp 3), 22, "", #[], none⟩,
    ⟨some 7, .call { callee := .builtin .len, args := #[.tmp 6], argTypes := #[22] }, 3, "", #[], none⟩,
    ⟨some 8, .binOp .mul 3 (.const (.int .i64 8)) (.tmp 7) 3, 3, "", #[], none⟩,
    ⟨some 9, .move (.tmp 0), 39, "", #[], none⟩,
    ⟨some 10, .call { callee := .builtin .len, args := #[.tmp 9], argTypes := #[39] }, 3, "", #[], none⟩,
    ⟨some 11, .binOp .sub 3 (.tmp 8) (.tmp 10) 3, 3, "", #[], none⟩,
    ⟨some 12, .convert 3 5 (.tmp 11), 5, "", #[], none⟩,
    ⟨some 13, .buildSlice 22 1 #[(0, .tmp 12)], 22, "", #[], none⟩,
    ⟨some 14, .move (.tmp 3), 22, "", #[], none⟩,
    ⟨some 15, .call { callee := .builtin .append, args := #[.tmp 13, .tmp 14], argTypes := #[22, 22] }, 22, "", #[], none⟩,
    ⟨some 2, .assign (.tmp 15), 22, "", #[], none⟩] false)
  .ret)))
def fn35 : AFn := { ntmps := 16, results := [.tmp 2], body := c35, keep := fun | 0 => some [0] | 1 => some [0, 3] | 2 => some [2] | _ => none, head := fun  | _ => none, opn := fun _ => none, dyn := fun _ => [] }
/-- vidimus/bitstrings.Check -/
def c36 : Code :=
  (.seq (.region 0 #[⟨some 4, .assign (.const (.int .i64 0)), 23, "", #[], none⟩] false)
  (.seq (.block 0 (.seq (.region 1 #[⟨some 6, .move (.tmp 1), 3, "", #[], none⟩,
    ⟨some 7, .binOp .lss 3 (.tmp 6) (.const (.int .i64 0)) 3, 4, "", #[], none⟩,
    ⟨some 5, .assign (.tmp 7), 4, "", #[], none⟩] false)
  (.cond (.tmp 5)
    (.seq (.region 2 #[⟨some 4, .assign (.const (.int .i64 1)), 23, "", #[], none⟩] false)
    .ret)
    (.seq (.region 3 #[⟨some 9, .move (.tmp 1), 3, "", #[], none⟩,
      ⟨some 10, .binOp .gtr 3 (.tmp 9) (.const (.int .i64 524288)) 3, 4, "", #[], none⟩,
      ⟨some 8, .assign (.tmp 10), 4, "", #[], none⟩] false)
    (.cond (.tmp 8)
      (.seq (.region 4 #[⟨some 4, .assign (.const (.int .i64 3)), 23, "", #[], none⟩] false)
      .ret)
      (.seq (.region 5 #[⟨some 12, .move (.tmp 0), 22, "", #[], none⟩,
        ⟨some 13, .call { callee := .builtin .len, args := #[.tmp 12], argTypes := #[22] }, 3, "", #[], none⟩,
        ⟨some 14, .move (.tmp 1), 3, "", #[], none⟩,
        ⟨some 15, .binOp .add 3 (.tmp 14) (.const (.int .i64 7)) 3, 3, "", #[], none⟩,
        ⟨some 16, .binOp .quo 3 (.tmp 15) (.const (.int .i64 8)) 3, 3, "", #[], none⟩,
        ⟨some 17, .binOp .neq 3 (.tmp 13) (.tmp 16) 3, 4, "", #[], none⟩,
        ⟨some 18, .move (.tmp 17), 4, "", #[], none⟩,
        ⟨some 19, .move (.tmp 1), 3, "", #[], some (18, false)⟩,
        ⟨some 20, .binOp .gtr 3 (.tmp 19) (.const (.int .i64 0)) 3, 4, "", #[], some (18, false)⟩,
        ⟨some 21, .move (.tmp 20), 4, "", #[], some (18, false)⟩,
        ⟨some 22, .move (.tmp 0), 22, "", #[], some (21, true)⟩,
        ⟨some 23, .move (.tmp 0), 22, "", #[], some (21, true)⟩,
        ⟨some 24, .call { callee := .builtin .len, args := #[.tmp 23], argTypes := #[22] }, 3, "", #[], some (21, true)⟩,
        ⟨some 25, .binOp .sub 3 (.tmp 24) (.const (.int .i64 1)) 3, 3, "", #[], some (21, true)⟩,
        ⟨some 26, .indexAddr 22 (.tmp 22) (.tmp 25), 0, "", #[], some (21, true)⟩,
        ⟨some 27, .load 5 (.tmp 26), 5, "", #[], some (21, true)⟩,
        ⟨some 28, .move (.tmp 1), 3, "", #[], some (21, true)⟩,
        ⟨some 29, .call { callee := .value (.func 47), args := #[.tmp 28], argTypes := #[3] }, 3, "", #[], some (21, true)⟩,
        ⟨some 30, .binOp .shl 5 (.const (.int .u8 1)) (.tmp 29) 3, 5, "", #[], some (21, true)⟩,
        ⟨some 31, .binOp .sub 5 (.tmp 30) (.const (.int .u8 1)) 5, 5, "", #[], some (21, true)⟩,
        ⟨some 32, .binOp .and 5 (.tmp 27) (.tmp 31) 5, 5, "", #[], some (21, true)⟩,
        ⟨some 33, .binOp .neq 5 (.tmp 32) (.const (.int .u8 0)) 5, 4, "", #[], some (21, true)⟩,
        ⟨some 34, .pick (.tmp 21) (.tmp 33) (.const (.bool false)), 4, "", #[], some (18, false)⟩,
        ⟨some 35, .pick (.tmp 18) (.const (.bool true)) (.tmp 34), 4, "", #[], none⟩,
        ⟨some 11, .assign (.tmp 35), 4, "", #[], none⟩] true)
      (.cond (.tmp 11)
        (.seq (.region 6 #[⟨some 4, .assign (.const (.int .i64 1)), 23, "", #[], none⟩] false)
        .ret)
        .skip)))))))
  (.seq (.region 7 #[⟨some 4, .assign (.const (.int .i64 0)), 23, "", #[], none⟩] false)
  .ret)))
def fn36 : AFn := { ntmps := 36, results := [.tmp 4], body := c36, keep := fun | 0 => some [0, 1] | 1 => some [0, 1, 5] | 2 => some [4] | 3 => some [0, 1, 8] | 4 => some [4] | 5 => some [11] | 6 => some [4] | 7 => some [4] | _ => none, head := fun  | _ => none, opn := fun _ => none, dyn := fun _ => [] }
/-- vidimus/bitstrings.Element -/
def c37 : Code :=
  (.seq (.region 0 #[⟨some 4, .alloc 59, 0, "", #[], none⟩,
    ⟨some 5, .assign (.const (.int .i64 0)), 23, "", #[], none⟩] false)
  (.seq (.region 1 #[⟨some 9, .move (.tmp 0), 22, "", #[], none⟩,
    ⟨some 10, .move (.tmp 1), 3, "", #[], none⟩,
    ⟨some 11, .call { callee := .value (.func 25), args := #[.tmp 9, .tmp 10], argTypes := #[22, 3] }, 24, "", #[], none⟩,
    ⟨some 8, .move (.tmp 11), 24, "", #[], none⟩,
    ⟨some 12, .extract (.tmp 8) 0, 22, "", #[], none⟩,
    ⟨some 13, .extract (.tmp 8) 1, 23, "", #[], none⟩,
    ⟨some 6, .assign (.tmp 12), 22, "", #[], none⟩,
    ⟨some 7, .assign (.tmp 13), 23, "", #[], none⟩] false)
  (.seq (.seq (.region 2 #[⟨some 14, .move (.tmp 7), 23, "", #[], none⟩,
    ⟨some 15, .binOp .neq 23 (.tmp 14) (.const (.int .i64 0)) 23, 4, "", #[], none⟩] false)
  (.cond (.tmp 15)
    (.seq (.region 3 #[⟨some 16, .build 59 #[], 59, "", #[], none⟩,
      ⟨some 17, .move (.tmp 7), 23, "", #[], none⟩,
      ⟨none, .store 59 (.tmp 4) (.tmp 16), 0, "", #[], none⟩,
      ⟨some 5, .assign (.tmp 17), 23, "", #[], none⟩] false)
    .ret)
    .skip))
  (.seq (.region 4 #[⟨some 18, .build 56 #[(2, .const (.int .u32 3))], 56, "", #[], none⟩,
    ⟨some 19, .move (.tmp 6), 22, "", #[], none⟩,
    ⟨some 20, .build 59 #[(0, .tmp 18), (1, .tmp 19)], 59, "", #[], none⟩,
    ⟨none, .store 59 (.tmp 4) (.tmp 20), 0, "", #[], none⟩,
    ⟨some 5, .assign (.const (.int .i64 0)), 23, "", #[], none⟩] false)
  .ret))))
def fn37 : AFn := { ntmps := 21, results := [.cell 4 59, .tmp 5], body := c37, keep := fun | 0 => some [0, 1, 4] | 1 => some [4, 6, 7] | 2 => some [4, 6, 7, 15] | 3 => some [4, 5] | 4 => some [4, 5] | _ => none, head := fun  | _ => none, opn := fun _ => none, dyn := fun _ => [] }
/-- vidimus/bitstrings.Of -/
def c38 : Code :=
  (.seq (.region 0 #[⟨some 1, .box 59 (.tmp 0), 0, "", #[], none⟩,
    ⟨some 2, .assign (.const (.slice none 0 0)), 22, "", #[], none⟩,
    ⟨some 3, .assign (.const (.int .i64 0)), 3, "", #[], none⟩,
    ⟨some 4, .assign (.const (.int .i64 0)), 23, "", #[], none⟩] false)
  (.seq (.region 1 #[⟨some 7, .load 59 (.tmp 1), 59, "", #[], none⟩,
    ⟨some 8, .call { callee := .value (.func 50), args := #[.tmp 7, .const (.int .u32 3)], argTypes := #[59, 31] }, 24, "", #[], none⟩,
    ⟨some 6, .move (.tmp 8), 24, "", #[], none⟩,
    ⟨some 9, .extract (.tmp 6) 0, 22, "", #[], none⟩,
    ⟨some 10, .extract (.tmp 6) 1, 23, "", #[], none⟩,
    ⟨some 5, .assign (.tmp 9), 22, "", #[], none⟩,
    ⟨some 4, .assign (.tmp 10), 23, "", #[], none⟩] false)
  (.seq (.seq (.region 2 #[⟨some 11, .move (.tmp 4), 23, "", #[], none⟩,
    ⟨some 12, .binOp .neq 23 (.tmp 11) (.const (.int .i64 0)) 23, 4, "", #[], none⟩] false)
  (.cond (.tmp 12)
    (.seq (.region 3 #[⟨some 13, .move (.tmp 4), 23, "", #[], none⟩,
      ⟨some 2, .assign (.const (.slice none 0 0)), 22, "", #[], none⟩,
      ⟨some 3, .assign (.const (.int .i64 0)), 3, "", #[], none⟩,
      ⟨some 4, .assign (.tmp 13), 23, "", #[], none⟩] false)
    .ret)
    .skip))
  (.seq (.region 4 #[⟨some 14, .move (.tmp 5), 22, "", #[], none⟩,
    ⟨some 15, .call { callee := .value (.func 31), args := #[.tmp 14], argTypes := #[22] }, 52, "", #[], none⟩,
    ⟨some 16, .extract (.tmp 15) 0, 22, "", #[], none⟩,
    ⟨some 17, .extract (.tmp 15) 1, 3, "", #[], none⟩,
    ⟨some 18, .extract (.tmp 15) 2, 23, "", #[], none⟩,
    ⟨some 2, .assign (.tmp 16), 22, "", #[], none⟩,
    ⟨some 3, .assign (.tmp 17), 3, "", #[], none⟩,
    ⟨some 4, .assign (.tmp 18), 23, "", #[], none⟩] false)
  .ret))))
def fn38 : AFn := { ntmps := 19, results := [.tmp 2, .tmp 3, .tmp 4], body := c38, keep := fun | 0 => some [1] | 1 => some [4, 5] | 2 => some [4, 5, 12] | 3 => some [2, 3, 4] | 4 => some [2, 3, 4] | _ => none, head := fun  | _ => none, opn := fun _ => none, dyn := fun _ => [] }
/-- vidimus/vidimuslaw08.is -/
def c39 : Code :=
  (.seq (.region 0 #[⟨some 4, .box 59 (.tmp 0), 0, "", #[], none⟩,
    ⟨some 8, .assign (.const (.bool false)), 4, "", #[], none⟩] false)
  (.seq (.region 1 #[⟨some 10, .move (.tmp 2), 31, "", #[], none⟩,
    ⟨some 11, .build 56 #[(2, .tmp 10)], 56, "", #[], none⟩,
    ⟨some 9, .alloc 56, 0, "", #[], none⟩,
    ⟨none, .store 56 (.tmp 9) (.tmp 11), 0, "", #[], none⟩] false)
  (.seq (.region 2 #[⟨some 12, .move (.tmp 1), 23, "", #[], none⟩,
    ⟨some 13, .binOp .eql 23 (.tmp 12) (.const (.int .i64 0)) 23, 4, "", #[], none⟩,
    ⟨some 14, .move (.tmp 13), 4, "", #[], none⟩,
    ⟨some 15, .fieldAddr 59 (.tmp 4) 0, 0, "", #[], some (14, true)⟩,
    ⟨some 16, .load 56 (.tmp 15), 56, "", #[], some (14, true)⟩,
    ⟨some 17, .load 56 (.tmp 9), 56, "", #[], some (14, true)⟩,
    ⟨some 18, .binOp .eql 56 (.tmp 16) (.tmp 17) 56, 4, "", #[], some (14, true)⟩,
    ⟨some 19, .pick (.tmp 14) (.tmp 18) (.const (.bool false)), 4, "", #[], none⟩,
    ⟨some 20, .move (.tmp 19), 4, "", #[], none⟩,
    ⟨some 21, .fieldAddr 59 (.tmp 4) 2, 0, "", #[], some (20, true)⟩,
    ⟨some 22, .load 57 (.tmp 21), 57, "", #[], some (20, true)⟩,
    ⟨some 23, .call { callee := .builtin .len, args := #[.tmp 22], argTypes := #[57] }, 3, "", #[], some (20, true)⟩,
    ⟨some 24, .binOp .eql 3 (.tmp 23) (.const (.int .i64 0)) 3, 4, "", #[], some (20, true)⟩,
    ⟨some 25, .pick (.tmp 20) (.tmp 24) (.const (.bool false)), 4, "", #[], none⟩,
    ⟨some 26, .move (.tmp 25), 4, "", #[], none⟩,
    ⟨some 27, .fieldAddr 59 (.tmp 4) 1, 0, "", #[], some (26, true)⟩,
    ⟨some 28, .load 22 (.tmp 27), 22, "", #[], some (26, true)⟩,
    ⟨some 29, .move (.tmp 3), 22, "", #[], some (26, true)⟩,
    ⟨some 30, .call { callee := .value (.func 26), args := #[.tmp 28, .const (.int .i64 0), .tmp 29, .const (.int .i64 0)], argTypes := #[22, 23, 22, 3] }, 4, "", #[], some (26, true)⟩,
    ⟨some 31, .pick (.tmp 26) (.tmp 30) (.const (.bool false)), 4, "", #[], none⟩,
    ⟨some 8, .assign (.tmp 31), 4, "", #[], none⟩] false)
  .ret)))
def fn39 : AFn := { ntmps := 32, results := [.tmp 8], body := c39, keep := fun | 0 => some [1, 2, 3, 4] | 1 => some [1, 3, 4, 9] | 2 => some [8] | _ => none, head := fun  | _ => none, opn := fun _ => none, dyn := fun _ => [] }
/-- vidimus/bitstrings.Bit -/
def c40 : Code :=
  (.seq (.region 0 #[⟨some 6, .assign (.const (.bool false)), 4, "", #[], none⟩] false)
  (.seq (.seq (.region 1 #[⟨some 7, .move (.tmp 0), 22, "", #[], none⟩,
    ⟨some 8, .move (.tmp 1), 3, "", #[], none⟩,
    ⟨some 9, .call { callee := .value (.func 36), args := #[.tmp 7, .tmp 8], argTypes := #[22, 3] }, 23, "", #[], none⟩,
    ⟨some 10, .binOp .neq 23 (.tmp 9) (.const (.int .i64 0)) 23, 4, "", #[], none⟩,
    ⟨some 11, .move (.tmp 10), 4, "", #[], none⟩,
    ⟨some 12, .move (.tmp 2), 3, "", #[], some (11, false)⟩,
    ⟨some 13, .binOp .lss 3 (.tmp 12) (.const (.int .i64 0)) 3, 4, "", #[], some (11, false)⟩,
    ⟨some 14, .pick (.tmp 11) (.const (.bool true)) (.tmp 13), 4, "", #[], none⟩,
    ⟨some 15, .move (.tmp 14), 4, "", #[], none⟩,
    ⟨some 16, .move (.tmp 2), 3, "", #[], some (15, false)⟩,
    ⟨some 17, .move (.tmp 1), 3, "", #[], some (15, false)⟩,
    ⟨some 18, .binOp .geq 3 (.tmp 16) (.tmp 17) 3, 4, "", #[], some (15, false)⟩,
    ⟨some 19, .pick (.tmp 15) (.const (.bool true)) (.tmp 18), 4, "", #[], none⟩] false)
  (.cond (.tmp 19)
    (.seq (.region 2 #[⟨some 6, .assign (.const (.bool false)), 4, "", #[], none⟩] false)
    .ret)
    .skip))
  (.seq (.region 3 #[⟨some 20, .move (.tmp 0), 22, "", #[], none⟩,
    ⟨some 21, .move (.tmp 2), 3, "", #[], none⟩,
    ⟨some 22, .binOp .quo 3 (.tmp 21) (.const (.int .i64 8)) 3, 3, "", #[], none⟩,
    ⟨some 23, .indexAddr 22 (.tmp 20) (.tmp 22), 0, "", #[], none⟩,
    ⟨some 24, .load 5 (.tmp 23), 5, "", #[], none⟩,
    ⟨some 25, .move (.tmp 2), 3, "", #[], none⟩,
    ⟨some 26, .binOp .rem 3 (.tmp 25) (.const (.int .i64 8)) 3, 3, "", #[], none⟩,
    ⟨some 27, .binOp .sub 3 (.const (.int .i64 7)) (.tmp 26) 3, 3, "", #[], none⟩,
    ⟨some 28, .binOp .shr 5 (.tmp 24) (.tmp 27) 3, 5, "", #[], none⟩,
    ⟨some 29, .binOp .and 5 (.tmp 28) (.const (.int .u8 1)) 5, 5, "", #[], none⟩,
    ⟨some 30, .binOp .eql 5 (.tmp 29) (.const (.int .u8 1)) 5, 4, "", #[], none⟩,
    ⟨some 6, .assign (.tmp 30), 4, "", #[], none⟩] false)
  .ret)))
def fn40 : AFn := { ntmps := 31, results := [.tmp 6], body := c40, keep := fun | 0 => some [0, 1, 2] | 1 => some [0, 2, 19] | 2 => some [6] | 3 => some [6] | _ => none, head := fun  | _ => none, opn := fun _ => none, dyn := fun _ => [] }
/-- vidimus/vidimusref08.Check -/
def c41 : Code :=
  (.seq (.region 0 #[⟨some 4, .assign (.const (.int .i64 0)), 3, "", #[], none⟩] false)
  (.seq (.seq (.region 1 #[⟨some 7, .move (.tmp 1), 3, "", #[], none⟩,
    ⟨some 8, .binOp .lss 3 (.tmp 7) (.const (.int .i64 0)) 3, 4, "", #[], none⟩] false)
  (.cond (.tmp 8)
    (.seq (.region 2 #[⟨some 4, .assign (.const (.int .i64 1)), 3, "", #[], none⟩] false)
    .ret)
    .skip))
  (.seq (.seq (.region 3 #[⟨some 9, .move (.tmp 1), 3, "", #[], none⟩,
    ⟨some 10, .binOp .gtr 3 (.tmp 9) (.const (.int .i64 524288)) 3, 4, "", #[], none⟩] false)
  (.cond (.tmp 10)
    (.seq (.region 4 #[⟨some 4, .assign (.const (.int .i64 3)), 3, "", #[], none⟩] false)
    .ret)
    .skip))
  (.seq (.seq (.region 5 #[⟨some 11, .move (.tmp 0), 22, "", #[], none⟩,
    ⟨some 12, .call { callee := .builtin .len, args := #[.tmp 11], argTypes := #[22] }, 3, "", #[], none⟩,
    ⟨some 13, .binOp .mul 3 (.const (.int .i64 8)) (.tmp 12) 3, 3, "", #[], none⟩,
    ⟨some 14, .move (.tmp 1), 3, "", #[], none⟩,
    ⟨some 15, .binOp .sub 3 (.tmp 13) (.tmp 14) 3, 3, "", #[], none⟩,
    ⟨some 16, .binOp .lss 3 (.tmp 15) (.const (.int .i64 0)) 3, 4, "", #[], none⟩,
    ⟨some 17, .move (.tmp 16), 4, "", #[], none⟩,
    ⟨some 18, .move (.tmp 0), 22, "", #[], some (17, false)⟩,
    ⟨some 19, .call { callee := .builtin .len, args := #[.tmp 18], argTypes := #[22] }, 3, "", #[], some (17, false)⟩,
    ⟨some 20, .binOp .mul 3 (.const (.int .i64 8)) (.tmp 19) 3, 3, "", #[], some (17, false)⟩,
    ⟨some 21, .move (.tmp 1), 3, "", #[], some (17, false)⟩,
    ⟨some 22, .binOp .sub 3 (.tmp 20) (.tmp 21) 3, 3, "", #[], some (17, false)⟩,
    ⟨some 23, .binOp .gtr 3 (.tmp 22) (.const (.int .i64 7)) 3, 4, "", #[], some (17, false)⟩,
    ⟨some 24, .pick (.tmp 17) (.const (.bool true)) (.tmp 23), 4, "", #[], none⟩] false)
  (.cond (.tmp 24)
    (.seq (.region 6 #[⟨some 4, .assign (.const (.int .i64 1)), 3, "", #[], none⟩] false)
    .ret)
    .skip))
  (.seq (.region 7 #[⟨some 25, .move (.tmp 0), 22, "", #[], none⟩,
    ⟨some 26, .call { callee := .value (.func 45), args := #[.tmp 25], argTypes := #[22] }, 39, "", #[], none⟩,
    ⟨some 5, .assign (.tmp 26), 39, "", #[], none⟩] false)
  (.seq (.seq (.region 8 #[⟨some 27, .move (.tmp 1), 3, "", #[], none⟩,
    ⟨some 6, .assign (.tmp 27), 3, "", #[], none⟩] false)
  (.block 0 (.loop (.seq (.seq (.region 9 #[⟨some 28, .move (.tmp 6), 3, "", #[], none⟩,
    ⟨some 29, .move (.tmp 5), 39, "", #[], none⟩,
    ⟨some 30, .call { callee := .builtin .len, args := #[.tmp 29], argTypes := #[39] }, 3, "", #[], none⟩,
    ⟨some 31, .binOp .lss 3 (.tmp 28) (.tmp 30) 3, 4, "", #[], none⟩] false)
  (.cond (.tmp 31)
    .skip
    (.exit 0)))
  (.seq (.block 1 (.seq (.region 11 #[⟨some 34, .move (.tmp 5), 39, "", #[], none⟩,
    ⟨some 35, .move (.tmp 6), 3, "", #[], none⟩,
    ⟨some 36, .indexAddr 39 (.tmp 34) (.tmp 35), 0, "", #[], none⟩,
    ⟨some 37, .load 3 (.tmp 36), 3, "", #[], none⟩,
    ⟨some 38, .binOp .neq 3 (.tmp 37) (.const (.int .i64 0)) 3, 4, "", #[], none⟩] false)
  (.cond (.tmp 38)
    (.seq (.region 12 #[⟨some 4, .assign (.const (.int .i64 1)), 3, "", #[], none⟩] false)
    .ret)
    .skip)))
  (.region 10 #[⟨some 32, .move (.tmp 6), 3, "", #[], none⟩,
    ⟨some 33, .binOp .add 3 (.tmp 32) (.const (.int .i64 1)) 3, 3, "", #[], none⟩,
    ⟨some 6, .assign (.tmp 33), 3, "", #[], none⟩] false))))))
  (.seq (.region 13 #[⟨some 4, .assign (.const (.int .i64 0)), 3, "", #[], none⟩] false)
  .ret)))))))
def fn41 : AFn := { ntmps := 39, results := [.tmp 4], body := c41, keep := fun | 0 => some [0, 1] | 1 => some [0, 1, 8] | 2 => some [4] | 3 => some [0, 1, 10] | 4 => some [4] | 5 => some [0, 1, 24] | 6 => some [4] | 7 => some [1, 5] | 8 => some [5, 6] | 9 => some [5, 6, 31] | 10 => some [5, 6] | 11 => some [5, 6, 38] | 12 => some [4] | 13 => some [4] | _ => none, head := fun | 9 => some [5, 6] | _ => none, opn := fun _ => none, dyn := fun _ => [] }
/-- slices.Clip[[]byte,byte] -/
def c42 : Code :=
  (.seq (.region 0 #[⟨some 2, .assign (.const (.slice none 0 0)), 22, "", #[], none⟩] false)
  (.seq (.region 1 #[⟨some 3, .move (.tmp 0), 22, "", #[], none⟩,
    ⟨some 4, .move (.tmp 0), 22, "", #[], none⟩,
    ⟨some 5, .call { callee := .builtin .len, args := #[.tmp 4], argTypes := #[22] }, 3, "", #[], none⟩,
    ⟨some 6, .move (.tmp 0), 22, "", #[], none⟩,
    ⟨some 7, .call { callee := .builtin .len, args := #[.tmp 6], argTypes := #[22] }, 3, "", #[], none⟩,
    ⟨some 8, .slice 22 (.tmp 3) none (some (.tmp 5)) (some (.tmp 7)), 22, "", #[], none⟩,
    ⟨some 2, .assign (.tmp 8), 22, "", #[], none⟩] false)
  .ret))
def fn42 : AFn := { ntmps := 9, results := [.tmp 2], body := c42, keep := fun | 0 => some [0] | 1 => some [2] | _ => none, head := fun  | _ => none, opn := fun _ => none, dyn := fun _ => [] }
/-- vidimus/vidimuslaw03.put -/
def c43 : Code :=
  (.seq (.region 0 #[⟨some 4, .assign (.const (.bool false)), 4, "", #[], none⟩] false)
  (.seq (.region 1 #[⟨some 8, .move (.tmp 0), 3, "", #[], none⟩,
    ⟨some 9, .call { callee := .value (.func 13), args := #[.tmp 8], argTypes := #[3] }, 24, "", #[], none⟩,
    ⟨some 7, .move (.tmp 9), 24, "", #[], none⟩,
    ⟨some 10, .extract (.tmp 7) 0, 22, "", #[], none⟩,
    ⟨some 11, .extract (.tmp 7) 1, 23, "", #[], none⟩,
    ⟨some 5, .assign (.tmp 10), 22, "", #[], none⟩,
    ⟨some 6, .assign (.tmp 11), 23, "", #[], none⟩] false)
  (.seq (.region 2 #[⟨some 12, .move (.tmp 5), 22, "", #[], none⟩,
    ⟨some 13, .move (.tmp 6), 23, "", #[], none⟩,
    ⟨some 14, .move (.tmp 1), 9, "", #[], none⟩,
    ⟨some 15, .convert 9 22 (.tmp 14), 22, "", #[], none⟩,
    ⟨some 16, .call { callee := .value (.func 14), args := #[.tmp 12, .tmp 13, .tmp 15, .const (.int .i64 0)], argTypes := #[22, 23, 22, 3] }, 4, "", #[], none⟩,
    ⟨some 4, .assign (.tmp 16), 4, "", #[], none⟩] false)
  .ret)))
def fn43 : AFn := { ntmps := 17, results := [.tmp 4], body := c43, keep := fun | 0 => some [0, 1] | 1 => some [1, 5, 6] | 2 => some [4] | _ => none, head := fun  | _ => none, opn := fun _ => none, dyn := fun _ => [] }
/-- vidimus/lengths.Get -/
def c44 : Code :=
  (.seq (.region 0 #[⟨some 2, .assign (.const (.int .i64 0)), 3, "", #[], none⟩,
    ⟨some 3, .assign (.const (.int .i64 0)), 3, "", #[], none⟩,
    ⟨some 4, .assign (.const (.int .i64 0)), 23, "", #[], none⟩] false)
  (.seq (.seq (.region 1 #[⟨some 7, .move (.tmp 0), 22, "", #[], none⟩,
    ⟨some 8, .call { callee := .builtin .len, args := #[.tmp 7], argTypes := #[22] }, 3, "", #[], none⟩,
    ⟨some 9, .binOp .eql 3 (.tmp 8) (.const (.int .i64 0)) 3, 4, "", #[], none⟩] false)
  (.cond (.tmp 9)
    (.seq (.region 2 #[⟨some 2, .assign (.const (.int .i64 0)), 3, "", #[], none⟩,
      ⟨some 3, .assign (.const (.int .i64 0)), 3, "", #[], none⟩,
      ⟨some 4, .assign (.const (.int .i64 7)), 23, "", #[], none⟩] false)
    .ret)
    .skip))
  (.seq (.seq (.region 3 #[⟨some 10, .move (.tmp 0), 22, "", #[], none⟩,
    ⟨some 11, .indexAddr 22 (.tmp 10) (.const (.int .i64 0)), 0, "", #[], none⟩,
    ⟨some 12, .load 5 (.tmp 11), 5, "", #[], none⟩,
    ⟨some 13, .binOp .leq 5 (.tmp 12) (.const (.int .u8 127)) 5, 4, "", #[], none⟩] false)
  (.cond (.tmp 13)
    (.seq (.region 4 #[⟨some 14, .move (.tmp 0), 22, "", #[], none⟩,
      ⟨some 15, .indexAddr 22 (.tmp 14) (.const (.int .i64 0)), 0, "", #[], none⟩,
      ⟨some 16, .load 5 (.tmp 15), 5, "", #[], none⟩,
      ⟨some 17, .convert 5 3 (.tmp 16), 3, "", #[], none⟩,
      ⟨some 2, .assign (.tmp 17), 3, "", #[], none⟩,
      ⟨some 3, .assign (.const (.int .i64 1)), 3, "", #[], none⟩,
      ⟨some 4, .assign (.const (.int .i64 0)), 23, "", #[], none⟩] false)
    .ret)
    .skip))
  (.seq (.region 5 #[⟨some 5, .alloc 85, 0, "", #[], none⟩] false)
  (.seq (.region 6 #[⟨some 18, .move (.tmp 0), 22, "", #[], none⟩,
    ⟨some 19, .indexAddr 22 (.tmp 18) (.const (.int .i64 0)), 0, "", #[], none⟩,
    ⟨some 20, .load 5 (.tmp 19), 5, "", #[], none⟩,
    ⟨some 21, .convert 5 3 (.tmp 20), 3, "", #[], none⟩,
    ⟨some 22, .binOp .sub 3 (.tmp 21) (.const (.int .i64 128)) 3, 3, "", #[], none⟩,
    ⟨some 6, .assign (.tmp 22), 3, "", #[], none⟩] false)
  (.seq (.block 0 (.seq (.region 7 #[⟨some 24, .move (.tmp 6), 3, "", #[], none⟩,
    ⟨some 25, .binOp .eql 3 (.tmp 24) (.const (.int .i64 0)) 3, 4, "", #[], none⟩,
    ⟨some 26, .move (.tmp 25), 4, "", #[], none⟩,
    ⟨some 27, .move (.tmp 6), 3, "", #[], some (26, false)⟩,
    ⟨some 28, .binOp .gtr 3 (.tmp 27) (.const (.int .i64 3)) 3, 4, "", #[], some (26, false)⟩,
    ⟨some 29, .pick (.tmp 26) (.const (.bool true)) (.tmp 28), 4, "", #[], none⟩,
    ⟨some 23, .assign (.tmp 29), 4, "", #[], none⟩] false)
  (.cond (.tmp 23)
    (.seq (.region 8 #[⟨some 2, .assign (.const (.int .i64 0)), 3, "", #[], none⟩,
      ⟨some 3, .assign (.const (.int .i64 0)), 3, "", #[], none⟩,
      ⟨some 4, .assign (.const (.int .i64 10)), 23, "", #[], none⟩] false)
    .ret)
    (.seq (.region 9 #[⟨some 31, .move (.tmp 0), 22, "", #[], none⟩,
      ⟨some 32, .call { callee := .builtin .len, args := #[.tmp 31], argTypes := #[22] }, 3, "", #[], none⟩,
      ⟨some 33, .move (.tmp 6), 3, "", #[], none⟩,
      ⟨some 34, .binOp .leq 3 (.tmp 32) (.tmp 33) 3, 4, "", #[], none⟩,
      ⟨some 30, .assign (.tmp 34), 4, "", #[], none⟩] false)
    (.cond (.tmp 30)
      (.seq (.region 10 #[⟨some 2, .assign (.const (.int .i64 0)), 3, "", #[], none⟩,
        ⟨some 3, .assign (.const (.int .i64 0)), 3, "", #[], none⟩,
        ⟨some 4, .assign (.const (.int .i64 7)), 23, "", #[], none⟩] false)
      .ret)
      .skip)))))
  (.seq (.region 11 #[⟨some 35, .move (.tmp 6), 3, "", #[], none⟩,
    ⟨some 36, .binOp .sub 3 (.const (.int .i64 3)) (.tmp 35) 3, 3, "", #[], none⟩,
    ⟨some 37, .slice 85 (.tmp 5) (some (.tmp 36)) none none, 22, "", #[], none⟩,
    ⟨some 38, .move (.tmp 0), 22, "", #[], none⟩,
    ⟨some 39, .slice 22 (.tmp 38) (some (.const (.int .i64 1))) none none, 22, "", #[], none⟩,
    ⟨some 40, .call { callee := .builtin .copy, args := #[.tmp 37, .tmp 39], argTypes := #[22, 22] }, 3, "", #[], none⟩] true)
  (.seq (.region 12 #[⟨some 41, .indexAddr 85 (.tmp 5) (.const (.int .i64 0)), 0, "", #[], none⟩,
    ⟨some 42, .load 5 (.tmp 41), 5, "", #[], none⟩,
    ⟨some 43, .convert 5 3 (.tmp 42), 3, "", #[], none⟩,
    ⟨some 44, .binOp .shl 3 (.tmp 43) (.const (.int .u64 16)) 51, 3, "", #[], none⟩,
    ⟨some 45, .indexAddr 85 (.tmp 5) (.const (.int .i64 1)), 0, "", #[], none⟩,
    ⟨some 46, .load 5 (.tmp 45), 5, "", #[], none⟩,
    ⟨some 47, .convert 5 3 (.tmp 46), 3, "", #[], none⟩,
    ⟨some 48, .binOp .shl 3 (.tmp 47) (.const (.int .u64 8)) 51, 3, "", #[], none⟩,
    ⟨some 49, .binOp .or 3 (.tmp 44) (.tmp 48) 3, 3, "", #[], none⟩,
    ⟨some 50, .indexAddr 85 (.tmp 5) (.const (.int .i64 2)), 0, "", #[], none⟩,
    ⟨some 51, .load 5 (.tmp 50), 5, "", #[], none⟩,
    ⟨some 52, .convert 5 3 (.tmp 51), 3, "", #[], none⟩,
    ⟨some 53, .binOp .or 3 (.tmp 49) (.tmp 52) 3, 3, "", #[], none⟩,
    ⟨some 2, .assign (.tmp 53), 3, "", #[], none⟩] false)
  (.seq (.seq (.region 13 #[⟨some 54, .move (.tmp 0), 22, "", #[], none⟩,
    ⟨some 55, .indexAddr 22 (.tmp 54) (.const (.int .i64 1)), 0, "", #[], none⟩,
    ⟨some 56, .load 5 (.tmp 55), 5, "", #[], none⟩,
    ⟨some 57, .binOp .eql 5 (.tmp 56) (.const (.int .u8 0)) 5, 4, "", #[], none⟩,
    ⟨some 58, .move (.tmp 57), 4, "", #[], none⟩,
    ⟨some 59, .move (.tmp 2), 3, "", #[], some (58, false)⟩,
    ⟨some 60, .binOp .leq 3 (.tmp 59) (.const (.int .i64 127)) 3, 4, "", #[], some (58, false)⟩,
    ⟨some 61, .pick (.tmp 58) (.const (.bool true)) (.tmp 60), 4, "", #[], none⟩] false)
  (.cond (.tmp 61)
    (.seq (.region 14 #[⟨some 2, .assign (.const (.int .i64 0)), 3, "", #[], none⟩,
      ⟨some 3, .assign (.const (.int .i64 0)), 3, "", #[], none⟩,
      ⟨some 4, .assign (.const (.int .i64 10)), 23, "", #[], none⟩] false)
    .ret)
    .skip))
  (.seq (.region 15 #[⟨some 62, .move (.tmp 2), 3, "", #[], none⟩,
    ⟨some 63, .move (.tmp 6), 3, "", #[], none⟩,
    ⟨some 64, .binOp .add 3 (.tmp 63) (.const (.int .i64 1)) 3, 3, "", #[], none⟩,
    ⟨some 2, .assign (.tmp 62), 3, "", #[], none⟩,
    ⟨some 3, .assign (.tmp 64), 3, "", #[], none⟩,
    ⟨some 4, .assign (.const (.int .i64 0)), 23, "", #[], none⟩] false)
  .ret))))))))))
def fn44 : AFn := { ntmps := 65, results := [.tmp 2, .tmp 3, .tmp 4], body := c44, keep := fun | 0 => some [0] | 1 => some [0, 9] | 2 => some [2, 3, 4] | 3 => some [0, 13] | 4 => some [2, 3, 4] | 5 => some [0, 5] | 6 => some [0, 5, 6] | 7 => some [0, 5, 6, 23] | 8 => some [2, 3, 4] | 9 => some [0, 5, 6, 30] | 10 => some [2, 3, 4] | 11 => some [0, 5, 6] | 12 => some [0, 2, 6] | 13 => some [2, 6, 61] | 14 => some [2, 3, 4] | 15 => some [2, 3, 4] | _ => none, head := fun  | _ => none, opn := fun _ => none, dyn := fun _ => [] }
/-- vidimus/vidimusref08.Bits -/
def c45 : Code :=
  (.seq (.region 0 #[⟨some 2, .assign (.const (.slice none 0 0)), 39, "", #[], none⟩] false)
  (.seq (.region 1 #[⟨some 3, .assign (.const (.slice none 0 0)), 39, "", #[], none⟩] false)
  (.seq (.seq (.region 2 #[⟨some 4, .assign (.const (.int .i64 0)), 3, "", #[], none⟩] false)
  (.block 0 (.loop (.seq (.seq (.region 3 #[⟨some 6, .move (.tmp 4), 3, "", #[], none⟩,
    ⟨some 7, .move (.tmp 0), 22, "", #[], none⟩,
    ⟨some 8, .call { callee := .builtin .len, args := #[.tmp 7], argTypes := #[22] }, 3, "", #[], none⟩,
    ⟨some 9, .binOp .lss 3 (.tmp 6) (.tmp 8) 3, 4, "", #[], none⟩] false)
  (.cond (.tmp 9)
    .skip
    (.exit 0)))
  (.seq (.block 1 (.seq (.region 5 #[⟨some 5, .assign (.const (.int .i64 128)), 3, "", #[], none⟩] false)
  (.block 2 (.loop (.seq (.seq (.region 6 #[⟨some 12, .move (.tmp 5), 3, "", #[], none⟩,
    ⟨some 13, .binOp .gtr 3 (.tmp 12) (.const (.int .i64 0)) 3, 4, "", #[], none⟩] false)
  (.cond (.tmp 13)
    .skip
    (.exit 2)))
  (.seq (.block 3 (.region 8 #[⟨some 16, .move (.tmp 3), 39, "", #[], none⟩,
    ⟨some 17, .move (.tmp 0), 22, "", #[], none⟩,
    ⟨some 18, .move (.tmp 4), 3, "", #[], none⟩,
    ⟨some 19, .indexAddr 22 (.tmp 17) (.tmp 18), 0, "", #[], none⟩,
    ⟨some 20, .load 5 (.tmp 19), 5, "", #[], none⟩,
    ⟨some 21, .convert 5 3 (.tmp 20), 3, "", #[], none⟩,
    ⟨some 22, .move (.tmp 5), 3, "", #[], none⟩,
    ⟨some 23, .binOp .quo 3 (.tmp 21) (.tmp 22) 3, 3, "", #[], none⟩,
    ⟨some 24, .binOp .rem 3 (.tmp 23) (.const (.int .i64 2)) 3, 3, "", #[], none⟩,
    ⟨some 25, .buildSlice 39 1 #[(0, .tmp 24)], 39, "", #[], none⟩,
    ⟨some 26, .call { callee := .builtin .append, args := #[.tmp 16, .tmp 25], argTypes := #[39, 39] }, 39, "", #[], none⟩,
    ⟨some 3, .assign (.tmp 26), 39, "", #[], none⟩] false))
  (.region 7 #[⟨some 14, .move (.tmp 5), 3, "", #[], none⟩,
    ⟨some 15, .binOp .quo 3 (.tmp 14) (.const (.int .i64 2)) 3, 3, "", #[], none⟩,
    ⟨some 5, .assign (.tmp 15), 3, "", #[], none⟩] false)))))))
  (.region 4 #[⟨some 10, .move (.tmp 4), 3, "", #[], none⟩,
    ⟨some 11, .binOp .add 3 (.tmp 10) (.const (.int .i64 1)) 3, 3, "", #[], none⟩,
    ⟨some 4, .assign (.tmp 11), 3, "", #[], none⟩] false))))))
  (.seq (.region 9 #[⟨some 27, .move (.tmp 3), 39, "", #[], none⟩,
    ⟨some 2, .assign (.tmp 27), 39, "", #[], none⟩] false)
  .ret))))
def fn45 : AFn := { ntmps := 28, results := [.tmp 2], body := c45, keep := fun | 0 => some [0] | 1 => some [0, 3] | 2 => some [0, 3, 4] | 3 => some [0, 3, 4, 9] | 4 => some [0, 3, 4] | 5 => some [0, 3, 4, 5] | 6 => some [0, 3, 4, 5, 13] | 7 => some [0, 3, 4, 5] | 8 => some [0, 3, 4, 5] | 9 => some [2] | _ => none, head := fun | 3 => some [0, 3, 4] | 6 => some [0, 3, 4, 5] | _ => none, opn := fun _ => none, dyn := fun _ => [] }
/-- vidimus/bitstrings.joined -/
def c46 : Code :=
  (.seq (.region 0 #[⟨some 4, .assign (.const (.slice none 0 0)), 22, "", #[], none⟩] false)
  (.seq (.region 1 #[⟨some 7, .move (.tmp 0), 22, "", #[], none⟩,
    ⟨some 8, .call { callee := .builtin .len, args := #[.tmp 7], argTypes := #[22] }, 3, "", #[], none⟩,
    ⟨some 9, .move (.tmp 1), 22, "", #[], none⟩,
    ⟨some 10, .call { callee := .builtin .len, args := #[.tmp 9], argTypes := #[22] }, 3, "", #[], none⟩,
    ⟨some 11, .binOp .add 3 (.tmp 8) (.tmp 10) 3, 3, "", #[], none⟩,
    ⟨some 12, .makeSlice 22 (.tmp 11) (.tmp 11), 22, "", #[], none⟩,
    ⟨some 5, .assign (.tmp 12), 22, "", #[], none⟩] false)
  (.seq (.region 2 #[⟨some 13, .move (.tmp 5), 22, "", #[], none⟩,
    ⟨some 14, .move (.tmp 0), 22, "", #[], none⟩,
    ⟨some 15, .call { callee := .builtin .copy, args := #[.tmp 13, .tmp 14], argTypes := #[22, 22] }, 3, "", #[], none⟩,
    ⟨some 6, .assign (.tmp 15), 3, "", #[], none⟩] false)
  (.seq (.region 3 #[⟨some 16, .move (.tmp 6), 3, "", #[], none⟩,
    ⟨some 17, .move (.tmp 5), 22, "", #[], none⟩,
    ⟨some 18, .move (.tmp 6), 3, "", #[], none⟩,
    ⟨some 19, .slice 22 (.tmp 17) (some (.tmp 18)) none none, 22, "", #[], none⟩,
    ⟨some 20, .move (.tmp 1), 22, "", #[], none⟩,
    ⟨some 21, .call { callee := .builtin .copy, args := #[.tmp 19, .tmp 20], argTypes := #[22, 22] }, 3, "", #[], none⟩,
    ⟨some 22, .binOp .add 3 (.tmp 16) (.tmp 21) 3, 3, "", #[], none⟩,
    ⟨some 6, .assign (.tmp 22), 3, "", #[], none⟩] false)
  (.seq (.region 4 #[⟨some 23, .move (.tmp 5), 22, "", #[], none⟩,
    ⟨some 24, .move (.tmp 6), 3, "", #[], none⟩,
    ⟨some 25, .move (.tmp 6), 3, "", #[], none⟩,
    ⟨some 26, .slice 22 (.tmp 23) none (some (.tmp 24)) (some (.tmp 25)), 22, "", #[], none⟩,
    ⟨some 4, .assign (.tmp 26), 22, "", #[], none⟩] false)
  .ret)))))
def fn46 : AFn := { ntmps := 27, results := [.tmp 4], body := c46, keep := fun | 0 => some [0, 1] | 1 => some [0, 1, 5] | 2 => some [1, 5, 6] | 3 => some [5, 6] | 4 => some [4] | _ => none, head := fun  | _ => none, opn := fun _ => none, dyn := fun _ => [] }
/-- vidimus/bitstrings.unused -/
def c47 : Code :=
  (.seq (.region 0 #[⟨some 2, .assign (.const (.int .i64 0)), 3, "", #[], none⟩] false)
  (.seq (.region 1 #[⟨some 3, .move (.tmp 0), 3, "", #[], none⟩,
    ⟨some 4, .binOp .rem 3 (.tmp 3) (.const (.int .i64 8)) 3, 3, "", #[], none⟩,
    ⟨some 5, .binOp .sub 3 (.const (.int .i64 8)) (.tmp 4) 3, 3, "", #[], none⟩,
    ⟨some 6, .binOp .rem 3 (.tmp 5) (.const (.int .i64 8)) 3, 3, "", #[], none⟩,
    ⟨some 2, .assign (.tmp 6), 3, "", #[], none⟩] false)
  .ret))
def fn47 : AFn := { ntmps := 7, results := [.tmp 2], body := c47, keep := fun | 0 => some [0] | 1 => some [2] | _ => none, head := fun  | _ => none, opn := fun _ => none, dyn := fun _ => [] }
/-- vidimus/bitstrings.GetNamed -/
def c48 : Code :=
  (.seq (.region 0 #[⟨some 2, .assign (.const (.int .u64 0)), 45, "", #[], none⟩,
    ⟨some 3, .assign (.const (.int .i64 0)), 23, "", #[], none⟩] false)
  (.seq (.region 1 #[⟨some 10, .move (.tmp 0), 22, "", #[], none⟩,
    ⟨some 11, .call { callee := .value (.func 31), args := #[.tmp 10], argTypes := #[22] }, 52, "", #[], none⟩,
    ⟨some 9, .move (.tmp 11), 52, "", #[], none⟩,
    ⟨some 12, .extract (.tmp 9) 0, 22, "", #[], none⟩,
    ⟨some 13, .extract (.tmp 9) 1, 3, "", #[], none⟩,
    ⟨some 14, .extract (.tmp 9) 2, 23, "", #[], none⟩,
    ⟨some 4, .assign (.tmp 12), 22, "", #[], none⟩,
    ⟨some 5, .assign (.tmp 13), 3, "", #[], none⟩,
    ⟨some 6, .assign (.tmp 14), 23, "", #[], none⟩] false)
  (.seq (.block 0 (.seq (.region 2 #[⟨some 16, .move (.tmp 6), 23, "", #[], none⟩,
    ⟨some 17, .binOp .eql 23 (.tmp 16) (.const (.int .i64 11)) 23, 4, "", #[], none⟩,
    ⟨some 18, .move (.tmp 17), 4, "", #[], none⟩,
    ⟨some 19, .move (.tmp 6), 23, "", #[], some (18, false)⟩,
    ⟨some 20, .binOp .eql 23 (.tmp 19) (.const (.int .i64 0)) 23, 4, "", #[], some (18, false)⟩,
    ⟨some 21, .move (.tmp 20), 4, "", #[], some (18, false)⟩,
    ⟨some 22, .move (.tmp 5), 3, "", #[], some (21, true)⟩,
    ⟨some 23, .binOp .gtr 3 (.tmp 22) (.const (.int .i64 0)) 3, 4, "", #[], some (21, true)⟩,
    ⟨some 24, .pick (.tmp 21) (.tmp 23) (.const (.bool false)), 4, "", #[], some (18, false)⟩,
    ⟨some 25, .move (.tmp 24), 4, "", #[], some (18, false)⟩,
    ⟨some 26, .move (.tmp 4), 22, "", #[], some (25, true)⟩,
    ⟨some 27, .move (.tmp 5), 3, "", #[], some (25, true)⟩,
    ⟨some 28, .move (.tmp 5), 3, "", #[], some (25, true)⟩,
    ⟨some 29, .binOp .sub 3 (.tmp 28) (.const (.int .i64 1)) 3, 3, "", #[], some (25, true)⟩,
    ⟨some 30, .call { callee := .value (.func 40), args := #[.tmp 26, .tmp 27, .tmp 29], argTypes := #[22, 3, 3] }, 4, "", #[], some (25, true)⟩,
    ⟨some 31, .unOp .not 4 (.tmp 30), 4, "", #[], some (25, true)⟩,
    ⟨some 32, .pick (.tmp 25) (.tmp 31) (.const (.bool false)), 4, "", #[], some (18, false)⟩,
    ⟨some 33, .pick (.tmp 18) (.const (.bool true)) (.tmp 32), 4, "", #[], none⟩,
    ⟨some 15, .assign (.tmp 33), 4, "", #[], none⟩] false)
  (.cond (.tmp 15)
    (.seq (.region 3 #[⟨some 2, .assign (.const (.int .u64 0)), 45, "", #[], none⟩,
      ⟨some 3, .assign (.const (.int .i64 11)), 23, "", #[], none⟩] false)
    .ret)
    (.seq (.region 4 #[⟨some 35, .move (.tmp 6), 23, "", #[], none⟩,
      ⟨some 36, .binOp .eql 23 (.tmp 35) (.const (.int .i64 3)) 23, 4, "", #[], none⟩,
      ⟨some 37, .move (.tmp 36), 4, "", #[], none⟩,
      ⟨some 38, .move (.tmp 0), 22, "", #[], some (37, true)⟩,
      ⟨some 39, .move (.tmp 0), 22, "", #[], some (37, true)⟩,
      ⟨some 40, .call { callee := .builtin .len, args := #[.tmp 39], argTypes := #[22] }, 3, "", #[], some (37, true)⟩,
      ⟨some 41, .binOp .sub 3 (.tmp 40) (.const (.int .i64 1)) 3, 3, "", #[], some (37, true)⟩,
      ⟨some 42, .indexAddr 22 (.tmp 38) (.tmp 41), 0, "", #[], some (37, true)⟩,
      ⟨some 43, .load 5 (.tmp 42), 5, "", #[], some (37, true)⟩,
      ⟨some 44, .move (.tmp 0), 22, "", #[], some (37, true)⟩,
      ⟨some 45, .indexAddr 22 (.tmp 44) (.const (.int .i64 0)), 0, "", #[], some (37, true)⟩,
      ⟨some 46, .load 5 (.tmp 45), 5, "", #[], some (37, true)⟩,
      ⟨some 47, .binOp .shr 5 (.tmp 43) (.tmp 46) 5, 5, "", #[], some (37, true)⟩,
      ⟨some 48, .binOp .and 5 (.tmp 47) (.const (.int .u8 1)) 5, 5, "", #[], some (37, true)⟩,
      ⟨some 49, .binOp .eql 5 (.tmp 48) (.const (.int .u8 0)) 5, 4, "", #[], some (37, true)⟩,
      ⟨some 50, .pick (.tmp 37) (.tmp 49) (.const (.bool false)), 4, "", #[], none⟩,
      ⟨some 34, .assign (.tmp 50), 4, "", #[], none⟩] true)
    (.cond (.tmp 34)
      (.seq (.region 5 #[⟨some 2, .assign (.const (.int .u64 0)), 45, "", #[], none⟩,
        ⟨some 3, .assign (.const (.int .i64 11)), 23, "", #[], none⟩] false)
      .ret)
      (.seq (.region 6 #[⟨some 52, .move (.tmp 6), 23, "", #[], none⟩,
        ⟨some 53, .binOp .neq 23 (.tmp 52) (.const (.int .i64 0)) 23, 4, "", #[], none⟩,
        ⟨some 54, .move (.tmp 53), 4, "", #[], none⟩,
        ⟨some 55, .move (.tmp 5), 3, "", #[], some (54, false)⟩,
        ⟨some 56, .binOp .gtr 3 (.tmp 55) (.const (.int .i64 64)) 3, 4, "", #[], some (54, false)⟩,
        ⟨some 57, .pick (.tmp 54) (.const (.bool true)) (.tmp 56), 4, "", #[], none⟩,
        ⟨some 51, .assign (.tmp 57), 4, "", #[], none⟩] false)
      (.cond (.tmp 51)
        (.seq (.region 7 #[⟨some 2, .assign (.const (.int .u64 0)), 45, "", #[], none⟩,
          ⟨some 3, .assign (.const (.int .i64 3)), 23, "", #[], none⟩] false)
        .ret)
        .skip)))))))
  (.seq (.region 8 #[⟨some 7, .assign (.const (.int .u64 0)), 45, "", #[], none⟩] false)
  (.seq (.seq (.region 9 #[⟨some 58, .move (.tmp 5), 3, "", #[], none⟩,
    ⟨some 59, .move (.const (.int .i64 0)), 3, "", #[], none⟩] false)
  (.block 1 (.loop (.seq (.region 10 #[⟨some 60, .binOp .lss 3 (.tmp 59) (.tmp 58) 3, 4, "", #[], none⟩] false)
  (.seq (.cond (.tmp 60)
    .skip
    (.exit 1))
  (.seq (.block 2 (.seq (.region 11 #[⟨some 61, .move (.tmp 59), 3, "", #[], none⟩,
    ⟨some 8, .assign (.tmp 61), 3, "", #[], none⟩] false)
  (.seq (.region 12 #[⟨some 62, .move (.tmp 4), 22, "", #[], none⟩,
    ⟨some 63, .move (.tmp 5), 3, "", #[], none⟩,
    ⟨some 64, .move (.tmp 8), 3, "", #[], none⟩,
    ⟨some 65, .call { callee := .value (.func 40), args := #[.tmp 62, .tmp 63, .tmp 64], argTypes := #[22, 3, 3] }, 4, "", #[], none⟩] false)
  (.cond (.tmp 65)
    (.region 13 #[⟨some 66, .move (.tmp 7), 45, "", #[], none⟩,
      ⟨some 67, .move (.tmp 8), 3, "", #[], none⟩,
      ⟨some 68, .binOp .shl 45 (.const (.int .u64 1)) (.tmp 67) 3, 45, "", #[], none⟩,
      ⟨some 69, .binOp .or 45 (.tmp 66) (.tmp 68) 45, 45, "", #[], none⟩,
      ⟨some 7, .assign (.tmp 69), 45, "", #[], none⟩] false)
    .skip))))
  (.region 14 #[⟨some 70, .binOp .add 3 (.tmp 59) (.const (.int .i64 1)) 3, 3, "", #[], none⟩,
    ⟨some 59, .move (.tmp 70), 3, "", #[], none⟩] false)))))))
  (.seq (.region 15 #[⟨some 71, .move (.tmp 7), 45, "", #[], none⟩,
    ⟨some 2, .assign (.tmp 71), 45, "", #[], none⟩,
    ⟨some 3, .assign (.const (.int .i64 0)), 23, "", #[], none⟩] false)
  .ret))))))
def fn48 : AFn := { ntmps := 72, results := [.tmp 2, .tmp 3], body := c48, keep := fun | 0 => some [0] | 1 => some [0, 4, 5, 6] | 2 => some [0, 4, 5, 6, 15] | 3 => some [2, 3] | 4 => some [4, 5, 6, 34] | 5 => some [2, 3] | 6 => some [4, 5, 51] | 7 => some [2, 3] | 8 => some [4, 5, 7] | 9 => some [4, 5, 7, 58, 59] | 10 => some [4, 5, 7, 58, 59, 60] | 11 => some [4, 5, 7, 8, 58, 59] | 12 => some [4, 5, 7, 8, 58, 59, 65] | 13 => some [4, 5, 7, 58, 59] | 14 => some [4, 5, 7, 58, 59] | 15 => some [2, 3] | _ => none, head := fun | 10 => some [4, 5, 7, 58, 59] | _ => none, opn := fun _ => none, dyn := fun _ => [] }
/-- math/bits.Len64 -/
def c49 : Code :=
  (.seq (.region 0 #[⟨some 2, .assign (.const (.int .i64 0)), 3, "", #[], none⟩] false)
  (.seq (.seq (.region 1 #[⟨some 3, .move (.tmp 0), 45, "", #[], none⟩,
    ⟨some 4, .binOp .geq 45 (.tmp 3) (.const (.int .u64 4294967296)) 45, 4, "", #[], none⟩] false)
  (.cond (.tmp 4)
    (.seq (.region 2 #[⟨some 5, .move (.tmp 0), 45, "", #[], none⟩,
      ⟨some 6, .binOp .shr 45 (.tmp 5) (.const (.int .u64 32)) 51, 45, "", #[], none⟩,
      ⟨some 0, .assign (.tmp 6), 45, "", #[], none⟩] false)
    (.region 3 #[⟨some 2, .assign (.const (.int .i64 32)), 3, "", #[], none⟩] false))
    .skip))
  (.seq (.seq (.region 4 #[⟨some 7, .move (.tmp 0), 45, "", #[], none⟩,
    ⟨some 8, .binOp .geq 45 (.tmp 7) (.const (.int .u64 65536)) 45, 4, "", #[], none⟩] false)
  (.cond (.tmp 8)
    (.seq (.region 5 #[⟨some 9, .move (.tmp 0), 45, "", #[], none⟩,
      ⟨some 10, .binOp .shr 45 (.tmp 9) (.const (.int .u64 16)) 51, 45, "", #[], none⟩,
      ⟨some 0, .assign (.tmp 10), 45, "", #[], none⟩] false)
    (.region 6 #[⟨some 11, .move (.tmp 2), 3, "", #[], none⟩,
      ⟨some 12, .binOp .add 3 (.tmp 11) (.const (.int .i64 16)) 3, 3, "", #[], none⟩,
      ⟨some 2, .assign (.tmp 12), 3, "", #[], none⟩] false))
    .skip))
  (.seq (.seq (.region 7 #[⟨some 13, .move (.tmp 0), 45, "", #[], none⟩,
    ⟨some 14, .binOp .geq 45 (.tmp 13) (.const (.int .u64 256)) 45, 4, "", #[], none⟩] false)
  (.cond (.tmp 14)
    (.seq (.region 8 #[⟨some 15, .move (.tmp 0), 45, "", #[], none⟩,
      ⟨some 16, .binOp .shr 45 (.tmp 15) (.const (.int .u64 8)) 51, 45, "", #[], none⟩,
      ⟨some 0, .assign (.tmp 16), 45, "", #[], none⟩] false)
    (.region 9 #[⟨some 17, .move (.tmp 2), 3, "", #[], none⟩,
      ⟨some 18, .binOp .add 3 (.tmp 17) (.const (.int .i64 8)) 3, 3, "", #[], none⟩,
      ⟨some 2, .assign (.tmp 18), 3, "", #[], none⟩] false))
    .skip))
  (.seq (.region 10 #[⟨some 19, .move (.tmp 2), 3, "", #[], none⟩,
    ⟨some 20, .move (.tmp 0), 45, "", #[], none⟩,
    ⟨some 21, .convert 45 5 (.tmp 20), 5, "", #[], none⟩,
    ⟨some 22, .index 9 (.const (.string { data := #[0, 1, 2, 2, 3, 3, 3, 3, 4, 4, 4, 4, 4, 4, 4, 4, 5, 5, 5, 5, 5, 5, 5, 5, 5, 5, 5, 5, 5, 5, 5, 5, 6, 6, 6, 6, 6, 6, 6, 6, 6, 6, 6, 6, 6, 6, 6, 6, 6, 6, 6, 6, 6, 6, 6, 6, 6, 6, 6, 6, 6, 6, 6, 6, 7, 7, 7, 7, 7, 7, 7, 7, 7, 7, 7, 7, 7, 7, 7, 7, 7, 7, 7, 7, 7, 7, 7, 7, 7, 7, 7, 7, 7, 7, 7, 7, 7, 7, 7, 7, 7, 7, 7, 7, 7, 7, 7, 7, 7, 7, 7, 7, 7, 7, 7, 7, 7, 7, 7, 7, 7, 7, 7, 7, 7, 7, 7, 7, 8, 8, 8, 8, 8, 8, 8, 8, 8, 8, 8, 8, 8, 8, 8, 8, 8, 8, 8, 8, 8, 8, 8, 8, 8, 8, 8, 8, 8, 8, 8, 8, 8, 8, 8, 8, 8, 8, 8, 8, 8, 8, 8, 8, 8, 8, 8, 8, 8, 8, 8, 8, 8, 8, 8, 8, 8, 8, 8, 8, 8, 8, 8, 8, 8, 8, 8, 8, 8, 8, 8, 8, 8, 8, 8, 8, 8, 8, 8, 8, 8, 8, 8, 8, 8, 8, 8, 8, 8, 8, 8, 8, 8, 8, 8, 8, 8, 8, 8, 8, 8, 8, 8, 8, 8, 8, 8, 8, 8, 8, 8, 8, 8, 8, 8, 8, 8, 8, 8, 8, 8, 8, 8, 8, 8, 8, 8, 8] })) (.tmp 21), 5, "", #[], none⟩,
    ⟨some 23, .convert 5 3 (.tmp 22), 3, "", #[], none⟩,
    ⟨some 24, .binOp .add 3 (.tmp 19) (.tmp 23) 3, 3, "", #[], none⟩,
    ⟨some 2, .assign (.tmp 24), 3, "", #[], none⟩] false)
  .ret)))))
def fn49 : AFn := { ntmps := 25, results := [.tmp 2], body := c49, keep := fun | 0 => some [0, 2] | 1 => some [0, 2, 4] | 2 => some [0] | 3 => some [0, 2] | 4 => some [0, 2, 8] | 5 => some [0, 2] | 6 => some [0, 2] | 7 => some [0, 2, 14] | 8 => some [0, 2] | 9 => some [0, 2] | 10 => some [2] | _ => none, head := fun  | _ => none, opn := fun _ => none, dyn := fun _ => [] }
/-- vidimus/bitstrings.content -/
def c50 : Code :=
  (.seq (.region 0 #[⟨some 2, .box 59 (.tmp 0), 0, "", #[], none⟩,
    ⟨some 4, .assign (.const (.slice none 0 0)), 22, "", #[], none⟩,
    ⟨some 5, .assign (.const (.int .i64 0)), 23, "", #[], none⟩] false)
  (.seq (.block 0 (.seq (.region 1 #[⟨some 7, .fieldAddr 59 (.tmp 2) 0, 0, "", #[], none⟩,
    ⟨some 8, .load 56 (.tmp 7), 56, "", #[], none⟩,
    ⟨some 9, .move (.tmp 1), 31, "", #[], none⟩,
    ⟨some 10, .build 56 #[(2, .tmp 9)], 56, "", #[], none⟩,
    ⟨some 11, .binOp .neq 56 (.tmp 8) (.tmp 10) 56, 4, "", #[], none⟩,
    ⟨some 6, .assign (.tmp 11), 4, "", #[], none⟩] false)
  (.cond (.tmp 6)
    (.seq (.region 2 #[⟨some 4, .assign (.const (.slice none 0 0)), 22, "", #[], none⟩,
      ⟨some 5, .assign (.const (.int .i64 9)), 23, "", #[], none⟩] false)
    .ret)
    (.seq (.region 3 #[⟨some 13, .fieldAddr 59 (.tmp 2) 2, 0, "", #[], none⟩,
      ⟨some 14, .load 57 (.tmp 13), 57, "", #[], none⟩,
      ⟨some 15, .call { callee := .builtin .len, args := #[.tmp 14], argTypes := #[57] }, 3, "", #[], none⟩,
      ⟨some 16, .binOp .gtr 3 (.tmp 15) (.const (.int .i64 0)) 3, 4, "", #[], none⟩,
      ⟨some 12, .assign (.tmp 16), 4, "", #[], none⟩] false)
    (.cond (.tmp 12)
      (.seq (.region 4 #[⟨some 4, .assign (.const (.slice none 0 0)), 22, "", #[], none⟩,
        ⟨some 5, .assign (.const (.int .i64 1)), 23, "", #[], none⟩] false)
      .ret)
      .skip)))))
  (.seq (.region 5 #[⟨some 17, .fieldAddr 59 (.tmp 2) 1, 0, "", #[], none⟩,
    ⟨some 18, .load 22 (.tmp 17), 22, "", #[], none⟩,
    ⟨some 4, .assign (.tmp 18), 22, "", #[], none⟩,
    ⟨some 5, .assign (.const (.int .i64 0)), 23, "", #[], none⟩] false)
  .ret)))
def fn50 : AFn := { ntmps := 19, results := [.tmp 4, .tmp 5], body := c50, keep := fun | 0 => some [1, 2] | 1 => some [2, 6] | 2 => some [4, 5] | 3 => some [2, 12] | 4 => some [4, 5] | 5 => some [4, 5] | _ => none, head := fun  | _ => none, opn := fun _ => none, dyn := fun _ => [] }
def fnTab : List (Option AFn) := [none, none, none, some fn3, some fn4, some fn5, some fn6, some fn7, some fn8, some fn9, some fn10, some fn11, some fn12, some fn13, some fn14, some fn15, some fn16, some fn17, some fn18, some fn19, some fn20, some fn21, some fn22, some fn23, some fn24, some fn25, some fn26, some fn27, some fn28, some fn29, some fn30, some fn31, some fn32, some fn33, some fn34, some fn35, some fn36, some fn37, some fn38, some fn39, some fn40, some fn41, some fn42, some fn43, some fn44, some fn45, some fn46, some fn47, some fn48, some fn49, some fn50]
def grdT : FuncId → Option Grd
  | _ => none

def tyTab : List (Option TyI) := [
  none,
  some ⟨.func, 1, 8, [.nilf], false⟩,
  some ⟨.int .i64, 1, 8, [.int .i64 0], false⟩,
  some ⟨.int .i64, 1, 8, [.int .i64 0], false⟩,
  some ⟨.bool, 1, 1, [.bool false], false⟩,
  some ⟨.int .u8, 1, 1, [.int .u8 0], false⟩,
  some ⟨.int .u8, 1, 1, [.int .u8 0], false⟩,
  some ⟨.strct [(0, 2), (1, 3), (2, 4), (3, 6)], 4, 24, [.int .i64 0, .int .i64 0, .bool false, .int .u8 0], false⟩,
  some ⟨.strct [(0, 2), (1, 3), (2, 4), (3, 6)], 4, 24, [.int .i64 0, .int .i64 0, .bool false, .int .u8 0], false⟩,
  some ⟨.str, 1, 16, [.str []], false⟩,
  some ⟨.str, 1, 16, [.str []], false⟩,
  some ⟨.str, 1, 16, [.str []], false⟩,
  some ⟨.int .u64, 1, 8, [.int .u64 0], false⟩,
  some ⟨.strct [(0, 9), (1, 12)], 2, 24, [.str [], .int .u64 0], false⟩,
  some ⟨.strct [(0, 9), (1, 12)], 2, 24, [.str [], .int .u64 0], false⟩,
  some ⟨.ptr 88, 1, 8, [.nilp], false⟩,
  some ⟨.ptr 91, 1, 8, [.nilp], false⟩,
  some ⟨.ptr 100, 1, 8, [.nilp], false⟩,
  some ⟨.strct [(0, 17)], 1, 8, [.nilp], false⟩,
  some ⟨.strct [(0, 17)], 1, 8, [.nilp], false⟩,
  some ⟨.iface true, 1, 16, [.nili], false⟩,
  some ⟨.int .i32, 1, 4, [.int .i32 0], false⟩,
  some ⟨.slice 5, 1, 24, [.sl true [] (some 0)], false⟩,
  some ⟨.int .i64, 1, 8, [.int .i64 0], false⟩,
  none,
  some ⟨.func, 1, 8, [.nilf], false⟩,
  some ⟨.func, 1, 8, [.nilf], false⟩,
  some ⟨.func, 1, 8, [.nilf], false⟩,
  some ⟨.func, 1, 8, [.nilf], false⟩,
  some ⟨.func, 1, 8, [.nilf], false⟩,
  some ⟨.func, 1, 8, [.nilf], false⟩,
  some ⟨.int .u32, 1, 4, [.int .u32 0], false⟩,
  some ⟨.func, 1, 8, [.nilf], false⟩,
  some ⟨.func, 1, 8, [.nilf], false⟩,
  none,
  some ⟨.func, 1, 8, [.nilf], false⟩,
  some ⟨.func, 1, 8, [.nilf], false⟩,
  some ⟨.func, 1, 8, [.nilf], false⟩,
  some ⟨.func, 1, 8, [.nilf], false⟩,
  some ⟨.slice 3, 1, 24, [.sl true [] (some 0)], false⟩,
  none,
  some ⟨.func, 1, 8, [.nilf], false⟩,
  some ⟨.func, 1, 8, [.nilf], false⟩,
  some ⟨.func, 1, 8, [.nilf], false⟩,
  some ⟨.func, 1, 8, [.nilf], false⟩,
  some ⟨.int .u64, 1, 8, [.int .u64 0], false⟩,
  none,
  some ⟨.func, 1, 8, [.nilf], false⟩,
  some ⟨.func, 1, 8, [.nilf], false⟩,
  some ⟨.func, 1, 8, [.nilf], false⟩,
  some ⟨.func, 1, 8, [.nilf], false⟩,
  some ⟨.int .u64, 1, 8, [.int .u64 0], false⟩,
  none,
  some ⟨.func, 1, 8, [.nilf], false⟩,
  some ⟨.int .u8, 1, 1, [.int .u8 0], false⟩,
  some ⟨.strct [(0, 54), (1, 4), (2, 31)], 3, 8, [.int .u8 0, .bool false, .int .u32 0], false⟩,
  some ⟨.strct [(0, 54), (1, 4), (2, 31)], 3, 8, [.int .u8 0, .bool false, .int .u32 0], true⟩,
  some ⟨.slice 59, 1, 24, [.sl true [] (some 0)], false⟩,
  some ⟨.strct [(0, 56), (3, 22), (4, 57)], 5, 56, [.int .u8 0, .bool false, .int .u32 0, .sl true [] (some 0), .sl true [] (some 0)], false⟩,
  some ⟨.strct [(0, 56), (3, 22), (4, 57)], 5, 56, [.int .u8 0, .bool false, .int .u32 0, .sl true [] (some 0), .sl true [] (some 0)], false⟩,
  none,
  some ⟨.func, 1, 8, [.nilf], false⟩,
  some ⟨.func, 1, 8, [.nilf], false⟩,
  some ⟨.strct [(0, 22)], 1, 24, [.sl true [] (some 0)], false⟩,
  some ⟨.strct [(0, 22)], 1, 24, [.sl true [] (some 0)], false⟩,
  some ⟨.func, 1, 8, [.nilf], false⟩,
  some ⟨.func, 1, 8, [.nilf], false⟩,
  some ⟨.func, 1, 8, [.nilf], false⟩,
  some ⟨.func, 1, 8, [.nilf], false⟩,
  some ⟨.func, 1, 8, [.nilf], false⟩,
  some ⟨.func, 1, 8, [.nilf], false⟩,
  some ⟨.func, 1, 8, [.nilf], false⟩,
  some ⟨.func, 1, 8, [.nilf], false⟩,
  some ⟨.func, 1, 8, [.nilf], false⟩,
  some ⟨.func, 1, 8, [.nilf], false⟩,
  some ⟨.func, 1, 8, [.nilf], false⟩,
  none,
  some ⟨.func, 1, 8, [.nilf], false⟩,
  some ⟨.func, 1, 8, [.nilf], false⟩,
  some ⟨.func, 1, 8, [.nilf], false⟩,
  none,
  some ⟨.func, 1, 8, [.nilf], false⟩,
  some ⟨.func, 1, 8, [.nilf], false⟩,
  some ⟨.func, 1, 8, [.nilf], false⟩,
  some ⟨.arr 3 5, 3, 3, [.int .u8 0, .int .u8 0, .int .u8 0], false⟩,
  some ⟨.arr 3 5, 3, 3, [.int .u8 0, .int .u8 0, .int .u8 0], false⟩,
  some ⟨.func, 1, 8, [.nilf], false⟩,
  some ⟨.strct [(0, 17), (1, 17), (2, 17), (3, 9)], 4, 40, [.nilp, .nilp, .nilp, .str []], false⟩,
  some ⟨.strct [(0, 17), (1, 17), (2, 17), (3, 9)], 4, 40, [.nilp, .nilp, .nilp, .str []], false⟩,
  some ⟨.arr 0 16, 0, 0, [], false⟩,
  some ⟨.strct [(0, 89)], 0, 0, [], false⟩,
  some ⟨.strct [(0, 89)], 0, 0, [], false⟩,
  some ⟨.func, 1, 8, [.nilf], false⟩,
  some ⟨.int .u8, 1, 1, [.int .u8 0], false⟩,
  some ⟨.int .u8, 1, 1, [.int .u8 0], false⟩,
  some ⟨.func, 1, 8, [.nilf], false⟩,
  some ⟨.ptr 5, 1, 8, [.nilp], false⟩,
  some ⟨.int .i32, 1, 4, [.int .i32 0], false⟩,
  some ⟨.int .i32, 1, 4, [.int .i32 0], false⟩,
  some ⟨.strct [(0, 12), (1, 12), (2, 31), (3, 93), (4, 5), (5, 5), (6, 94), (7, 95), (8, 96), (9, 97), (10, 98)], 11, 48, [.int .u64 0, .int .u64 0, .int .u32 0, .int .u8 0, .int .u8 0, .int .u8 0, .int .u8 0, .nilf, .nilp, .int .i32 0, .int .i32 0], false⟩,
  some ⟨.strct [(0, 12), (1, 12), (2, 31), (3, 93), (4, 5), (5, 5), (6, 94), (7, 95), (8, 96), (9, 97), (10, 98)], 11, 48, [.int .u64 0, .int .u64 0, .int .u32 0, .int .u8 0, .int .u8 0, .int .u8 0, .int .u8 0, .nilf, .nilp, .int .i32 0, .int .i32 0], false⟩,
  none]
def E : Env := { fn := getT fnTab, ty := getT tyTab, prim := fun _ => none, grd := grdT, ext := fun i => false, glob := fun _ => none }
@[simp] theorem E_ext (i) : E.ext i = false := id rfl
@[simp] theorem E_prim (i) : E.prim i = none := rfl
@[simp] theorem E_glob (i) : E.glob i = none := rfl
@[simp] theorem ntmps_3 : fn3.ntmps = 55 := rfl
@[simp] theorem results_3 : fn3.results = [.tmp 2] := rfl
theorem body_3 : fn3.body = c3 := rfl
@[simp] theorem dyn_3 : fn3.dyn = fun _ => [] := id rfl
@[simp] theorem opn_3 : fn3.opn = fun _ => none := id rfl
@[simp] theorem keep_3_0 : fn3.keep 0 = some [0] := rfl
@[simp] theorem keep_3_1 : fn3.keep 1 = some [0, 3, 4] := rfl
@[simp] theorem keep_3_2 : fn3.keep 2 = some [0, 3, 4, 11] := rfl
@[simp] theorem keep_3_3 : fn3.keep 3 = some [2] := rfl
@[simp] theorem keep_3_4 : fn3.keep 4 = some [0, 3, 4, 25] := rfl
@[simp] theorem keep_3_5 : fn3.keep 5 = some [2] := rfl
@[simp] theorem keep_3_6 : fn3.keep 6 = some [0, 3, 4, 5] := rfl
@[simp] theorem keep_3_7 : fn3.keep 7 = some [2] := rfl
@[simp] theorem ntmps_4 : fn4.ntmps = 57 := rfl
@[simp] theorem results_4 : fn4.results = [.tmp 6] := rfl
theorem body_4 : fn4.body = c4 := rfl
@[simp] theorem dyn_4 : fn4.dyn = fun _ => [] := id rfl
@[simp] theorem opn_4 : fn4.opn = fun _ => none := id rfl
@[simp] theorem keep_4_0 : fn4.keep 0 = some [0, 1, 2] := rfl
@[simp] theorem keep_4_1 : fn4.keep 1 = some [0, 1, 2, 12] := rfl
@[simp] theorem keep_4_2 : fn4.keep 2 = some [6] := rfl
@[simp] theorem keep_4_3 : fn4.keep 3 = some [1, 2, 7] := rfl
@[simp] theorem keep_4_4 : fn4.keep 4 = some [1, 2, 7, 8, 9] := rfl
@[simp] theorem keep_4_5 : fn4.keep 5 = some [2, 8, 45] := rfl
@[simp] theorem keep_4_6 : fn4.keep 6 = some [6] := rfl
@[simp] theorem keep_4_7 : fn4.keep 7 = some [6] := rfl
@[simp] theorem ntmps_5 : fn5.ntmps = 41 := rfl
@[simp] theorem results_5 : fn5.results = [.tmp 2] := rfl
theorem body_5 : fn5.body = c5 := rfl
@[simp] theorem dyn_5 : fn5.dyn = fun _ => [] := id rfl
@[simp] theorem opn_5 : fn5.opn = fun _ => none := id rfl
@[simp] theorem keep_5_0 : fn5.keep 0 = some [0] := rfl
@[simp] theorem keep_5_1 : fn5.keep 1 = some [0, 10] := rfl
@[simp] theorem keep_5_2 : fn5.keep 2 = some [2] := rfl
@[simp] theorem keep_5_3 : fn5.keep 3 = some [0, 3, 4, 5] := rfl
@[simp] theorem keep_5_4 : fn5.keep 4 = some [0, 3, 4, 5, 23] := rfl
@[simp] theorem keep_5_5 : fn5.keep 5 = some [2] := rfl
@[simp] theorem keep_5_6 : fn5.keep 6 = some [0, 3, 4, 25] := rfl
@[simp] theorem keep_5_7 : fn5.keep 7 = some [2] := rfl
@[simp] theorem keep_5_8 : fn5.keep 8 = some [0, 4, 6, 7] := rfl
@[simp] theorem keep_5_9 : fn5.keep 9 = some [2] := rfl
@[simp] theorem ntmps_6 : fn6.ntmps = 82 := rfl
@[simp] theorem results_6 : fn6.results = [.tmp 6] := rfl
theorem body_6 : fn6.body = c6 := rfl
@[simp] theorem dyn_6 : fn6.dyn = fun _ => [] := id rfl
@[simp] theorem opn_6 : fn6.opn = fun _ => none := id rfl
@[simp] theorem keep_6_0 : fn6.keep 0 = some [0, 1, 2] := rfl
@[simp] theorem keep_6_1 : fn6.keep 1 = some [2, 7, 8] := rfl
@[simp] theorem keep_6_2 : fn6.keep 2 = some [2, 7, 8, 19] := rfl
@[simp] theorem keep_6_3 : fn6.keep 3 = some [2, 7, 8] := rfl
@[simp] theorem keep_6_4 : fn6.keep 4 = some [2, 7, 8, 9, 10] := rfl
@[simp] theorem keep_6_5 : fn6.keep 5 = some [2, 7, 8, 9, 10, 33] := rfl
@[simp] theorem keep_6_6 : fn6.keep 6 = some [6] := rfl
@[simp] theorem keep_6_7 : fn6.keep 7 = some [6] := rfl
@[simp] theorem ntmps_7 : fn7.ntmps = 94 := rfl
@[simp] theorem results_7 : fn7.results = [.tmp 0] := rfl
theorem body_7 : fn7.body = c7 := rfl
@[simp] theorem dyn_7 : fn7.dyn = fun _ => [] := id rfl
@[simp] theorem opn_7 : fn7.opn = fun _ => none := id rfl
@[simp] theorem keep_7_0 : fn7.keep 0 = some [] := rfl
@[simp] theorem keep_7_1 : fn7.keep 1 = some [1] := rfl
@[simp] theorem keep_7_2 : fn7.keep 2 = some [1, 2] := rfl
@[simp] theorem keep_7_3 : fn7.keep 3 = some [1, 2, 3] := rfl
@[simp] theorem keep_7_4 : fn7.keep 4 = some [1, 2, 3, 10] := rfl
@[simp] theorem keep_7_5 : fn7.keep 5 = some [1, 2, 3] := rfl
@[simp] theorem keep_7_6 : fn7.keep 6 = some [1, 2, 3, 57] := rfl
@[simp] theorem keep_7_7 : fn7.keep 7 = some [0] := rfl
@[simp] theorem keep_7_8 : fn7.keep 8 = some [4] := rfl
@[simp] theorem keep_7_9 : fn7.keep 9 = some [4, 59] := rfl
@[simp] theorem keep_7_10 : fn7.keep 10 = some [4] := rfl
@[simp] theorem keep_7_11 : fn7.keep 11 = some [4, 80] := rfl
@[simp] theorem keep_7_12 : fn7.keep 12 = some [0] := rfl
@[simp] theorem keep_7_13 : fn7.keep 13 = some [0] := rfl
@[simp] theorem head_7_4 : fn7.head 4 = some [1, 2, 3] := rfl
@[simp] theorem head_7_9 : fn7.head 9 = some [4] := rfl
@[simp] theorem ntmps_8 : fn8.ntmps = 64 := rfl
@[simp] theorem results_8 : fn8.results = [.tmp 2] := rfl
theorem body_8 : fn8.body = c8 := rfl
@[simp] theorem dyn_8 : fn8.dyn = fun _ => [] := id rfl
@[simp] theorem opn_8 : fn8.opn = fun _ => none := id rfl
@[simp] theorem keep_8_0 : fn8.keep 0 = some [0] := rfl
@[simp] theorem keep_8_1 : fn8.keep 1 = some [0, 10] := rfl
@[simp] theorem keep_8_2 : fn8.keep 2 = some [2] := rfl
@[simp] theorem keep_8_3 : fn8.keep 3 = some [0, 3, 4] := rfl
@[simp] theorem keep_8_4 : fn8.keep 4 = some [0, 3, 4, 24] := rfl
@[simp] theorem keep_8_5 : fn8.keep 5 = some [2] := rfl
@[simp] theorem keep_8_6 : fn8.keep 6 = some [0, 3, 26] := rfl
@[simp] theorem keep_8_7 : fn8.keep 7 = some [0, 5, 6] := rfl
@[simp] theorem keep_8_8 : fn8.keep 8 = some [0, 39] := rfl
@[simp] theorem keep_8_9 : fn8.keep 9 = some [2] := rfl
@[simp] theorem keep_8_10 : fn8.keep 10 = some [0, 4, 7] := rfl
@[simp] theorem keep_8_11 : fn8.keep 11 = some [2] := rfl
@[simp] theorem ntmps_9 : fn9.ntmps = 57 := rfl
@[simp] theorem results_9 : fn9.results = [.tmp 4] := rfl
theorem body_9 : fn9.body = c9 := rfl
@[simp] theorem dyn_9 : fn9.dyn = fun _ => [] := id rfl
@[simp] theorem opn_9 : fn9.opn = fun _ => none := id rfl
@[simp] theorem keep_9_0 : fn9.keep 0 = some [0, 1] := rfl
@[simp] theorem keep_9_1 : fn9.keep 1 = some [0, 1, 5] := rfl
@[simp] theorem keep_9_2 : fn9.keep 2 = some [0, 5, 6] := rfl
@[simp] theorem keep_9_3 : fn9.keep 3 = some [0, 5, 6, 7] := rfl
@[simp] theorem keep_9_4 : fn9.keep 4 = some [4] := rfl
@[simp] theorem ntmps_10 : fn10.ntmps = 205 := rfl
@[simp] theorem results_10 : fn10.results = [.tmp 0] := rfl
theorem body_10 : fn10.body = c10 := rfl
@[simp] theorem dyn_10 : fn10.dyn = fun _ => [] := id rfl
@[simp] theorem opn_10 : fn10.opn = fun _ => none := id rfl
@[simp] theorem keep_10_0 : fn10.keep 0 = some [] := rfl
@[simp] theorem keep_10_1 : fn10.keep 1 = some [1] := rfl
@[simp] theorem keep_10_2 : fn10.keep 2 = some [1, 21] := rfl
@[simp] theorem keep_10_3 : fn10.keep 3 = some [1] := rfl
@[simp] theorem keep_10_4 : fn10.keep 4 = some [1, 54] := rfl
@[simp] theorem keep_10_5 : fn10.keep 5 = some [0] := rfl
@[simp] theorem keep_10_6 : fn10.keep 6 = some [2] := rfl
@[simp] theorem keep_10_7 : fn10.keep 7 = some [2, 3, 4] := rfl
@[simp] theorem keep_10_8 : fn10.keep 8 = some [2, 3, 4, 6] := rfl
@[simp] theorem keep_10_9 : fn10.keep 9 = some [2, 3, 4, 6, 7, 8, 9] := rfl
@[simp] theorem keep_10_10 : fn10.keep 10 = some [2, 3, 4, 6, 7, 8, 9, 11, 12] := rfl
@[simp] theorem keep_10_11 : fn10.keep 11 = some [2, 3, 4, 6, 7, 8, 9, 11, 12, 15] := rfl
@[simp] theorem keep_10_12 : fn10.keep 12 = some [2, 122] := rfl
@[simp] theorem keep_10_13 : fn10.keep 13 = some [0] := rfl
@[simp] theorem keep_10_14 : fn10.keep 14 = some [2, 4, 16] := rfl
@[simp] theorem keep_10_15 : fn10.keep 15 = some [2, 4, 6, 16] := rfl
@[simp] theorem keep_10_16 : fn10.keep 16 = some [2, 4, 6, 9, 17] := rfl
@[simp] theorem keep_10_17 : fn10.keep 17 = some [2, 4, 6, 9, 12, 17] := rfl
@[simp] theorem keep_10_18 : fn10.keep 18 = some [2, 164] := rfl
@[simp] theorem keep_10_19 : fn10.keep 19 = some [0] := rfl
@[simp] theorem keep_10_20 : fn10.keep 20 = some [2, 18] := rfl
@[simp] theorem keep_10_21 : fn10.keep 21 = some [2, 18, 19] := rfl
@[simp] theorem keep_10_22 : fn10.keep 22 = some [0] := rfl
@[simp] theorem head_10_2 : fn10.head 2 = some [1] := rfl
@[simp] theorem ntmps_11 : fn11.ntmps = 110 := rfl
@[simp] theorem results_11 : fn11.results = [.tmp 4] := rfl
theorem body_11 : fn11.body = c11 := rfl
@[simp] theorem dyn_11 : fn11.dyn = fun _ => [] := id rfl
@[simp] theorem opn_11 : fn11.opn = fun _ => none := id rfl
@[simp] theorem keep_11_0 : fn11.keep 0 = some [1, 2] := rfl
@[simp] theorem keep_11_1 : fn11.keep 1 = some [1, 5] := rfl
@[simp] theorem keep_11_2 : fn11.keep 2 = some [1, 5, 6, 7] := rfl
@[simp] theorem keep_11_3 : fn11.keep 3 = some [1, 5, 6, 7, 8] := rfl
@[simp] theorem keep_11_4 : fn11.keep 4 = some [1, 5, 6, 7, 8, 9, 10] := rfl
@[simp] theorem keep_11_5 : fn11.keep 5 = some [1, 5, 6, 7, 8, 48] := rfl
@[simp] theorem keep_11_6 : fn11.keep 6 = some [4] := rfl
@[simp] theorem keep_11_7 : fn11.keep 7 = some [1, 5, 6, 7, 8, 11, 12] := rfl
@[simp] theorem keep_11_8 : fn11.keep 8 = some [1, 5, 6, 7, 8, 11, 12, 13, 14, 15] := rfl
@[simp] theorem keep_11_9 : fn11.keep 9 = some [1, 5, 6, 7, 77] := rfl
@[simp] theorem keep_11_10 : fn11.keep 10 = some [4] := rfl
@[simp] theorem keep_11_11 : fn11.keep 11 = some [1, 5, 6, 7, 16] := rfl
@[simp] theorem keep_11_12 : fn11.keep 12 = some [1, 5, 6, 7, 16, 80] := rfl
@[simp] theorem keep_11_13 : fn11.keep 13 = some [1, 5, 6, 7, 16] := rfl
@[simp] theorem keep_11_14 : fn11.keep 14 = some [1, 5, 6, 7, 16, 92] := rfl
@[simp] theorem keep_11_15 : fn11.keep 15 = some [4] := rfl
@[simp] theorem keep_11_16 : fn11.keep 16 = some [4] := rfl
@[simp] theorem head_11_12 : fn11.head 12 = some [1, 5, 6, 7, 16] := rfl
@[simp] theorem ntmps_12 : fn12.ntmps = 156 := rfl
@[simp] theorem results_12 : fn12.results = [.tmp 6] := rfl
theorem body_12 : fn12.body = c12 := rfl
@[simp] theorem dyn_12 : fn12.dyn = fun _ => [] := id rfl
@[simp] theorem opn_12 : fn12.opn = fun _ => none := id rfl
@[simp] theorem keep_12_0 : fn12.keep 0 = some [0, 1, 5] := rfl
@[simp] theorem keep_12_1 : fn12.keep 1 = some [0, 1, 5, 31] := rfl
@[simp] theorem keep_12_2 : fn12.keep 2 = some [6] := rfl
@[simp] theorem keep_12_3 : fn12.keep 3 = some [0, 1, 5, 7] := rfl
@[simp] theorem keep_12_4 : fn12.keep 4 = some [0, 1, 5, 7, 40] := rfl
@[simp] theorem keep_12_5 : fn12.keep 5 = some [6] := rfl
@[simp] theorem keep_12_6 : fn12.keep 6 = some [0, 1, 5, 7, 42] := rfl
@[simp] theorem keep_12_7 : fn12.keep 7 = some [0, 1, 5, 7, 8, 9] := rfl
@[simp] theorem keep_12_8 : fn12.keep 8 = some [0, 1, 5, 7, 8, 9, 10, 11] := rfl
@[simp] theorem keep_12_9 : fn12.keep 9 = some [5, 75] := rfl
@[simp] theorem keep_12_10 : fn12.keep 10 = some [6] := rfl
@[simp] theorem keep_12_11 : fn12.keep 11 = some [5, 12, 13] := rfl
@[simp] theorem keep_12_12 : fn12.keep 12 = some [5, 12, 13, 85] := rfl
@[simp] theorem keep_12_13 : fn12.keep 13 = some [5, 12, 13] := rfl
@[simp] theorem keep_12_14 : fn12.keep 14 = some [5, 12, 13, 14, 15] := rfl
@[simp] theorem keep_12_15 : fn12.keep 15 = some [5, 12, 13, 15, 91] := rfl
@[simp] theorem keep_12_16 : fn12.keep 16 = some [5, 12, 13, 15] := rfl
@[simp] theorem keep_12_17 : fn12.keep 17 = some [5, 12, 13, 15, 16, 17, 18] := rfl
@[simp] theorem keep_12_18 : fn12.keep 18 = some [5, 15, 110] := rfl
@[simp] theorem keep_12_19 : fn12.keep 19 = some [6] := rfl
@[simp] theorem keep_12_20 : fn12.keep 20 = some [5, 15, 19, 20] := rfl
@[simp] theorem keep_12_21 : fn12.keep 21 = some [5, 19, 20, 119] := rfl
@[simp] theorem keep_12_22 : fn12.keep 22 = some [6] := rfl
@[simp] theorem keep_12_23 : fn12.keep 23 = some [5, 19, 20, 129] := rfl
@[simp] theorem keep_12_24 : fn12.keep 24 = some [6] := rfl
@[simp] theorem keep_12_25 : fn12.keep 25 = some [5, 19, 20, 21, 22] := rfl
@[simp] theorem keep_12_26 : fn12.keep 26 = some [6] := rfl
@[simp] theorem ntmps_13 : fn13.ntmps = 50 := rfl
@[simp] theorem results_13 : fn13.results = [.tmp 2, .tmp 3] := rfl
theorem body_13 : fn13.body = c13 := rfl
@[simp] theorem dyn_13 : fn13.dyn = fun _ => [] := id rfl
@[simp] theorem opn_13 : fn13.opn = fun _ => none := id rfl
@[simp] theorem keep_13_0 : fn13.keep 0 = some [0] := rfl
@[simp] theorem keep_13_1 : fn13.keep 1 = some [0, 5] := rfl
@[simp] theorem keep_13_2 : fn13.keep 2 = some [2, 3] := rfl
@[simp] theorem keep_13_3 : fn13.keep 3 = some [0, 8] := rfl
@[simp] theorem keep_13_4 : fn13.keep 4 = some [2, 3] := rfl
@[simp] theorem keep_13_5 : fn13.keep 5 = some [0, 11] := rfl
@[simp] theorem keep_13_6 : fn13.keep 6 = some [2, 3] := rfl
@[simp] theorem keep_13_7 : fn13.keep 7 = some [0, 4] := rfl
@[simp] theorem keep_13_8 : fn13.keep 8 = some [0, 4, 18] := rfl
@[simp] theorem keep_13_9 : fn13.keep 9 = some [0, 4, 21] := rfl
@[simp] theorem keep_13_10 : fn13.keep 10 = some [0, 4] := rfl
@[simp] theorem keep_13_11 : fn13.keep 11 = some [0, 4] := rfl
@[simp] theorem keep_13_12 : fn13.keep 12 = some [4] := rfl
@[simp] theorem keep_13_13 : fn13.keep 13 = some [4] := rfl
@[simp] theorem keep_13_14 : fn13.keep 14 = some [2, 3] := rfl
@[simp] theorem ntmps_14 : fn14.ntmps = 26 := rfl
@[simp] theorem results_14 : fn14.results = [.tmp 8] := rfl
theorem body_14 : fn14.body = c14 := rfl
@[simp] theorem dyn_14 : fn14.dyn = fun _ => [] := id rfl
@[simp] theorem opn_14 : fn14.opn = fun _ => none := id rfl
@[simp] theorem keep_14_0 : fn14.keep 0 = some [0, 1, 2, 3] := rfl
@[simp] theorem keep_14_1 : fn14.keep 1 = some [8] := rfl
@[simp] theorem ntmps_15 : fn15.ntmps = 12 := rfl
@[simp] theorem results_15 : fn15.results = [.tmp 2] := rfl
theorem body_15 : fn15.body = c15 := rfl
@[simp] theorem dyn_15 : fn15.dyn = fun _ => [] := id rfl
@[simp] theorem opn_15 : fn15.opn = fun _ => none := id rfl
@[simp] theorem keep_15_0 : fn15.keep 0 = some [0] := rfl
@[simp] theorem keep_15_1 : fn15.keep 1 = some [3] := rfl
@[simp] theorem keep_15_2 : fn15.keep 2 = some [2] := rfl
@[simp] theorem ntmps_16 : fn16.ntmps = 81 := rfl
@[simp] theorem results_16 : fn16.results = [.tmp 0] := rfl
theorem body_16 : fn16.body = c16 := rfl
@[simp] theorem dyn_16 : fn16.dyn = fun _ => [] := id rfl
@[simp] theorem opn_16 : fn16.opn = fun _ => none := id rfl
@[simp] theorem keep_16_0 : fn16.keep 0 = some [] := rfl
@[simp] theorem keep_16_1 : fn16.keep 1 = some [2] := rfl
@[simp] theorem keep_16_2 : fn16.keep 2 = some [2, 4] := rfl
@[simp] theorem keep_16_3 : fn16.keep 3 = some [46] := rfl
@[simp] theorem keep_16_4 : fn16.keep 4 = some [0] := rfl
@[simp] theorem keep_16_5 : fn16.keep 5 = some [59] := rfl
@[simp] theorem keep_16_6 : fn16.keep 6 = some [0] := rfl
@[simp] theorem keep_16_7 : fn16.keep 7 = some [0] := rfl
@[simp] theorem ntmps_17 : fn17.ntmps = 26 := rfl
@[simp] theorem results_17 : fn17.results = [.tmp 2] := rfl
theorem body_17 : fn17.body = c17 := rfl
@[simp] theorem dyn_17 : fn17.dyn = fun _ => [] := id rfl
@[simp] theorem opn_17 : fn17.opn = fun _ => none := id rfl
@[simp] theorem keep_17_0 : fn17.keep 0 = some [0] := rfl
@[simp] theorem keep_17_1 : fn17.keep 1 = some [0, 5] := rfl
@[simp] theorem keep_17_2 : fn17.keep 2 = some [2] := rfl
@[simp] theorem keep_17_3 : fn17.keep 3 = some [0, 3] := rfl
@[simp] theorem keep_17_4 : fn17.keep 4 = some [0, 3, 10] := rfl
@[simp] theorem keep_17_5 : fn17.keep 5 = some [0, 3] := rfl
@[simp] theorem keep_17_6 : fn17.keep 6 = some [0, 3] := rfl
@[simp] theorem keep_17_7 : fn17.keep 7 = some [2] := rfl
@[simp] theorem head_17_4 : fn17.head 4 = some [0, 3] := rfl
@[simp] theorem ntmps_18 : fn18.ntmps = 31 := rfl
@[simp] theorem results_18 : fn18.results = [.tmp 8] := rfl
theorem body_18 : fn18.body = c18 := rfl
@[simp] theorem dyn_18 : fn18.dyn = fun _ => [] := id rfl
@[simp] theorem opn_18 : fn18.opn = fun _ => none := id rfl
@[simp] theorem keep_18_0 : fn18.keep 0 = some [0, 1, 2, 3] := rfl
@[simp] theorem keep_18_1 : fn18.keep 1 = some [1, 2, 3, 9, 10, 11] := rfl
@[simp] theorem keep_18_2 : fn18.keep 2 = some [8] := rfl
@[simp] theorem ntmps_19 : fn19.ntmps = 59 := rfl
@[simp] theorem results_19 : fn19.results = [.tmp 2, .tmp 3, .tmp 4] := rfl
theorem body_19 : fn19.body = c19 := rfl
@[simp] theorem dyn_19 : fn19.dyn = fun _ => [] := id rfl
@[simp] theorem opn_19 : fn19.opn = fun _ => none := id rfl
@[simp] theorem keep_19_0 : fn19.keep 0 = some [0] := rfl
@[simp] theorem keep_19_1 : fn19.keep 1 = some [0, 10] := rfl
@[simp] theorem keep_19_2 : fn19.keep 2 = some [2, 3, 4] := rfl
@[simp] theorem keep_19_3 : fn19.keep 3 = some [0, 14] := rfl
@[simp] theorem keep_19_4 : fn19.keep 4 = some [2, 3, 4] := rfl
@[simp] theorem keep_19_5 : fn19.keep 5 = some [0, 5] := rfl
@[simp] theorem keep_19_6 : fn19.keep 6 = some [0, 5, 29] := rfl
@[simp] theorem keep_19_7 : fn19.keep 7 = some [2, 3, 4] := rfl
@[simp] theorem keep_19_8 : fn19.keep 8 = some [0, 5, 34] := rfl
@[simp] theorem keep_19_9 : fn19.keep 9 = some [2, 3, 4] := rfl
@[simp] theorem keep_19_10 : fn19.keep 10 = some [0, 5, 6] := rfl
@[simp] theorem keep_19_11 : fn19.keep 11 = some [0, 5, 6, 7] := rfl
@[simp] theorem keep_19_12 : fn19.keep 12 = some [0, 5, 6, 7, 37] := rfl
@[simp] theorem keep_19_13 : fn19.keep 13 = some [0, 5, 6, 7] := rfl
@[simp] theorem keep_19_14 : fn19.keep 14 = some [0, 5, 6, 7] := rfl
@[simp] theorem keep_19_15 : fn19.keep 15 = some [5, 6, 55] := rfl
@[simp] theorem keep_19_16 : fn19.keep 16 = some [2, 3, 4] := rfl
@[simp] theorem keep_19_17 : fn19.keep 17 = some [2, 3, 4] := rfl
@[simp] theorem head_19_12 : fn19.head 12 = some [0, 5, 6, 7] := rfl
@[simp] theorem ntmps_20 : fn20.ntmps = 22 := rfl
@[simp] theorem results_20 : fn20.results = [.tmp 4] := rfl
theorem body_20 : fn20.body = c20 := rfl
@[simp] theorem dyn_20 : fn20.dyn = fun _ => [] := id rfl
@[simp] theorem opn_20 : fn20.opn = fun _ => none := id rfl
@[simp] theorem keep_20_0 : fn20.keep 0 = some [0, 1] := rfl
@[simp] theorem keep_20_1 : fn20.keep 1 = some [0, 1, 15] := rfl
@[simp] theorem keep_20_2 : fn20.keep 2 = some [4] := rfl
@[simp] theorem keep_20_3 : fn20.keep 3 = some [4] := rfl
@[simp] theorem ntmps_21 : fn21.ntmps = 162 := rfl
@[simp] theorem results_21 : fn21.results = [.tmp 0] := rfl
theorem body_21 : fn21.body = c21 := rfl
@[simp] theorem dyn_21 : fn21.dyn = fun _ => [] := id rfl
@[simp] theorem opn_21 : fn21.opn = fun _ => none := id rfl
@[simp] theorem keep_21_0 : fn21.keep 0 = some [] := rfl
@[simp] theorem keep_21_1 : fn21.keep 1 = some [1, 2] := rfl
@[simp] theorem keep_21_2 : fn21.keep 2 = some [1, 2, 3, 4] := rfl
@[simp] theorem keep_21_3 : fn21.keep 3 = some [1, 2, 3, 4, 5, 6] := rfl
@[simp] theorem keep_21_4 : fn21.keep 4 = some [1, 2, 3, 4, 5, 6, 7, 8] := rfl
@[simp] theorem keep_21_5 : fn21.keep 5 = some [59] := rfl
@[simp] theorem keep_21_6 : fn21.keep 6 = some [0] := rfl
@[simp] theorem keep_21_7 : fn21.keep 7 = some [87] := rfl
@[simp] theorem keep_21_8 : fn21.keep 8 = some [0] := rfl
@[simp] theorem keep_21_9 : fn21.keep 9 = some [123] := rfl
@[simp] theorem keep_21_10 : fn21.keep 10 = some [0] := rfl
@[simp] theorem keep_21_11 : fn21.keep 11 = some [9, 10] := rfl
@[simp] theorem keep_21_12 : fn21.keep 12 = some [9, 10, 11, 12] := rfl
@[simp] theorem keep_21_13 : fn21.keep 13 = some [9, 10, 11, 12, 13, 14] := rfl
@[simp] theorem keep_21_14 : fn21.keep 14 = some [9, 10, 11, 12, 14, 16] := rfl
@[simp] theorem keep_21_15 : fn21.keep 15 = some [0] := rfl
@[simp] theorem ntmps_22 : fn22.ntmps = 54 := rfl
@[simp] theorem results_22 : fn22.results = [.tmp 2, .tmp 3] := rfl
theorem body_22 : fn22.body = c22 := rfl
@[simp] theorem dyn_22 : fn22.dyn = fun _ => [] := id rfl
@[simp] theorem opn_22 : fn22.opn = fun _ => none := id rfl
@[simp] theorem keep_22_0 : fn22.keep 0 = some [0] := rfl
@[simp] theorem keep_22_1 : fn22.keep 1 = some [0, 26] := rfl
@[simp] theorem keep_22_2 : fn22.keep 2 = some [2, 3] := rfl
@[simp] theorem keep_22_3 : fn22.keep 3 = some [0, 4] := rfl
@[simp] theorem keep_22_4 : fn22.keep 4 = some [4, 5] := rfl
@[simp] theorem keep_22_5 : fn22.keep 5 = some [4, 5, 6] := rfl
@[simp] theorem keep_22_6 : fn22.keep 6 = some [4, 5, 6, 41] := rfl
@[simp] theorem keep_22_7 : fn22.keep 7 = some [4, 5, 6] := rfl
@[simp] theorem keep_22_8 : fn22.keep 8 = some [4, 5, 6, 48] := rfl
@[simp] theorem keep_22_9 : fn22.keep 9 = some [2, 3] := rfl
@[simp] theorem keep_22_10 : fn22.keep 10 = some [4, 5, 50] := rfl
@[simp] theorem keep_22_11 : fn22.keep 11 = some [2, 3] := rfl
@[simp] theorem keep_22_12 : fn22.keep 12 = some [2, 3] := rfl
@[simp] theorem head_22_6 : fn22.head 6 = some [4, 5, 6] := rfl
@[simp] theorem ntmps_23 : fn23.ntmps = 28 := rfl
@[simp] theorem results_23 : fn23.results = [.tmp 8] := rfl
theorem body_23 : fn23.body = c23 := rfl
@[simp] theorem dyn_23 : fn23.dyn = fun _ => [] := id rfl
@[simp] theorem opn_23 : fn23.opn = fun _ => none := id rfl
@[simp] theorem keep_23_0 : fn23.keep 0 = some [0, 1, 2, 3] := rfl
@[simp] theorem keep_23_1 : fn23.keep 1 = some [1, 2, 3, 9, 10, 11] := rfl
@[simp] theorem keep_23_2 : fn23.keep 2 = some [8] := rfl
@[simp] theorem ntmps_24 : fn24.ntmps = 39 := rfl
@[simp] theorem results_24 : fn24.results = [.tmp 2] := rfl
theorem body_24 : fn24.body = c24 := rfl
@[simp] theorem dyn_24 : fn24.dyn = fun _ => [] := id rfl
@[simp] theorem opn_24 : fn24.opn = fun _ => none := id rfl
@[simp] theorem keep_24_0 : fn24.keep 0 = some [0] := rfl
@[simp] theorem keep_24_1 : fn24.keep 1 = some [0, 3] := rfl
@[simp] theorem keep_24_2 : fn24.keep 2 = some [0, 3, 4] := rfl
@[simp] theorem keep_24_3 : fn24.keep 3 = some [0, 3, 4, 10] := rfl
@[simp] theorem keep_24_4 : fn24.keep 4 = some [0, 3, 4] := rfl
@[simp] theorem keep_24_5 : fn24.keep 5 = some [0, 3, 4, 5] := rfl
@[simp] theorem keep_24_6 : fn24.keep 6 = some [0, 3, 4, 5, 6] := rfl
@[simp] theorem keep_24_7 : fn24.keep 7 = some [0, 3, 4, 5, 6, 14] := rfl
@[simp] theorem keep_24_8 : fn24.keep 8 = some [0, 3, 4, 5, 6] := rfl
@[simp] theorem keep_24_9 : fn24.keep 9 = some [0, 3, 4, 5, 6] := rfl
@[simp] theorem keep_24_10 : fn24.keep 10 = some [0, 3, 4, 5, 6, 24] := rfl
@[simp] theorem keep_24_11 : fn24.keep 11 = some [0, 3, 4, 5, 6] := rfl
@[simp] theorem keep_24_12 : fn24.keep 12 = some [0, 3, 4] := rfl
@[simp] theorem keep_24_13 : fn24.keep 13 = some [2] := rfl
@[simp] theorem head_24_3 : fn24.head 3 = some [0, 3, 4] := rfl
@[simp] theorem head_24_7 : fn24.head 7 = some [0, 3, 4, 5, 6] := rfl
@[simp] theorem ntmps_25 : fn25.ntmps = 19 := rfl
@[simp] theorem results_25 : fn25.results = [.tmp 4, .tmp 5] := rfl
theorem body_25 : fn25.body = c25 := rfl
@[simp] theorem dyn_25 : fn25.dyn = fun _ => [] := id rfl
@[simp] theorem opn_25 : fn25.opn = fun _ => none := id rfl
@[simp] theorem keep_25_0 : fn25.keep 0 = some [0, 1] := rfl
@[simp] theorem keep_25_1 : fn25.keep 1 = some [0, 1, 6] := rfl
@[simp] theorem keep_25_2 : fn25.keep 2 = some [0, 1, 6, 11] := rfl
@[simp] theorem keep_25_3 : fn25.keep 3 = some [4, 5] := rfl
@[simp] theorem keep_25_4 : fn25.keep 4 = some [4, 5] := rfl
@[simp] theorem ntmps_26 : fn26.ntmps = 26 := rfl
@[simp] theorem results_26 : fn26.results = [.tmp 8] := rfl
theorem body_26 : fn26.body = c26 := rfl
@[simp] theorem dyn_26 : fn26.dyn = fun _ => [] := id rfl
@[simp] theorem opn_26 : fn26.opn = fun _ => none := id rfl
@[simp] theorem keep_26_0 : fn26.keep 0 = some [0, 1, 2, 3] := rfl
@[simp] theorem keep_26_1 : fn26.keep 1 = some [8] := rfl
@[simp] theorem ntmps_27 : fn27.ntmps = 47 := rfl
@[simp] theorem results_27 : fn27.results = [.tmp 2, .tmp 3] := rfl
theorem body_27 : fn27.body = c27 := rfl
@[simp] theorem dyn_27 : fn27.dyn = fun _ => [] := id rfl
@[simp] theorem opn_27 : fn27.opn = fun _ => none := id rfl
@[simp] theorem keep_27_0 : fn27.keep 0 = some [0] := rfl
@[simp] theorem keep_27_1 : fn27.keep 1 = some [4, 5] := rfl
@[simp] theorem keep_27_2 : fn27.keep 2 = some [4, 5, 14] := rfl
@[simp] theorem keep_27_3 : fn27.keep 3 = some [2, 3] := rfl
@[simp] theorem keep_27_4 : fn27.keep 4 = some [4, 27] := rfl
@[simp] theorem keep_27_5 : fn27.keep 5 = some [2, 3] := rfl
@[simp] theorem keep_27_6 : fn27.keep 6 = some [4, 30] := rfl
@[simp] theorem keep_27_7 : fn27.keep 7 = some [2, 3] := rfl
@[simp] theorem keep_27_8 : fn27.keep 8 = some [4, 6] := rfl
@[simp] theorem keep_27_9 : fn27.keep 9 = some [4, 6, 7] := rfl
@[simp] theorem keep_27_10 : fn27.keep 10 = some [4, 6, 7, 35] := rfl
@[simp] theorem keep_27_11 : fn27.keep 11 = some [4, 6, 7] := rfl
@[simp] theorem keep_27_12 : fn27.keep 12 = some [4, 6, 7] := rfl
@[simp] theorem keep_27_13 : fn27.keep 13 = some [2, 3] := rfl
@[simp] theorem head_27_10 : fn27.head 10 = some [4, 6, 7] := rfl
@[simp] theorem ntmps_28 : fn28.ntmps = 22 := rfl
@[simp] theorem results_28 : fn28.results = [.tmp 6] := rfl
theorem body_28 : fn28.body = c28 := rfl
@[simp] theorem dyn_28 : fn28.dyn = fun _ => [] := id rfl
@[simp] theorem opn_28 : fn28.opn = fun _ => none := id rfl
@[simp] theorem keep_28_0 : fn28.keep 0 = some [0, 1, 2] := rfl
@[simp] theorem keep_28_1 : fn28.keep 1 = some [1, 2, 7, 8] := rfl
@[simp] theorem keep_28_2 : fn28.keep 2 = some [6] := rfl
@[simp] theorem ntmps_29 : fn29.ntmps = 38 := rfl
@[simp] theorem results_29 : fn29.results = [.tmp 2] := rfl
theorem body_29 : fn29.body = c29 := rfl
@[simp] theorem dyn_29 : fn29.dyn = fun _ => [] := id rfl
@[simp] theorem opn_29 : fn29.opn = fun _ => none := id rfl
@[simp] theorem keep_29_0 : fn29.keep 0 = some [0] := rfl
@[simp] theorem keep_29_1 : fn29.keep 1 = some [0, 3] := rfl
@[simp] theorem keep_29_2 : fn29.keep 2 = some [0, 3, 4] := rfl
@[simp] theorem keep_29_3 : fn29.keep 3 = some [0, 3, 4, 12, 13] := rfl
@[simp] theorem keep_29_4 : fn29.keep 4 = some [0, 3, 4, 12, 13, 14] := rfl
@[simp] theorem keep_29_5 : fn29.keep 5 = some [0, 3, 4, 5, 12, 13] := rfl
@[simp] theorem keep_29_6 : fn29.keep 6 = some [0, 3, 4, 5, 12, 13, 20] := rfl
@[simp] theorem keep_29_7 : fn29.keep 7 = some [0, 3, 4, 12, 13] := rfl
@[simp] theorem keep_29_8 : fn29.keep 8 = some [0, 3, 4, 12, 13] := rfl
@[simp] theorem keep_29_9 : fn29.keep 9 = some [2] := rfl
@[simp] theorem head_29_4 : fn29.head 4 = some [0, 3, 4, 12, 13] := rfl
@[simp] theorem ntmps_30 : fn30.ntmps = 16 := rfl
@[simp] theorem results_30 : fn30.results = [.tmp 2] := rfl
theorem body_30 : fn30.body = c30 := rfl
@[simp] theorem dyn_30 : fn30.dyn = fun _ => [] := id rfl
@[simp] theorem opn_30 : fn30.opn = fun _ => none := id rfl
@[simp] theorem keep_30_0 : fn30.keep 0 = some [0] := rfl
@[simp] theorem keep_30_1 : fn30.keep 1 = some [0, 3] := rfl
@[simp] theorem keep_30_2 : fn30.keep 2 = some [0, 3, 5] := rfl
@[simp] theorem keep_30_3 : fn30.keep 3 = some [0, 3] := rfl
@[simp] theorem keep_30_4 : fn30.keep 4 = some [0, 3] := rfl
@[simp] theorem keep_30_5 : fn30.keep 5 = some [2] := rfl
@[simp] theorem head_30_2 : fn30.head 2 = some [0, 3] := rfl
@[simp] theorem ntmps_31 : fn31.ntmps = 58 := rfl
@[simp] theorem results_31 : fn31.results = [.tmp 2, .tmp 3, .tmp 4] := rfl
theorem body_31 : fn31.body = c31 := rfl
@[simp] theorem dyn_31 : fn31.dyn = fun _ => [] := id rfl
@[simp] theorem opn_31 : fn31.opn = fun _ => none := id rfl
@[simp] theorem keep_31_0 : fn31.keep 0 = some [0] := rfl
@[simp] theorem keep_31_1 : fn31.keep 1 = some [0, 24] := rfl
@[simp] theorem keep_31_2 : fn31.keep 2 = some [2, 3, 4] := rfl
@[simp] theorem keep_31_3 : fn31.keep 3 = some [0, 42] := rfl
@[simp] theorem keep_31_4 : fn31.keep 4 = some [2, 3, 4] := rfl
@[simp] theorem keep_31_5 : fn31.keep 5 = some [0, 3] := rfl
@[simp] theorem keep_31_6 : fn31.keep 6 = some [0, 3, 53] := rfl
@[simp] theorem keep_31_7 : fn31.keep 7 = some [2, 3, 4] := rfl
@[simp] theorem keep_31_8 : fn31.keep 8 = some [2, 3, 4] := rfl
@[simp] theorem ntmps_32 : fn32.ntmps = 12 := rfl
@[simp] theorem results_32 : fn32.results = [.cell 2 59, .tmp 3] := rfl
theorem body_32 : fn32.body = c32 := rfl
@[simp] theorem dyn_32 : fn32.dyn = fun _ => [] := id rfl
@[simp] theorem opn_32 : fn32.opn = fun _ => none := id rfl
@[simp] theorem keep_32_0 : fn32.keep 0 = some [0, 2] := rfl
@[simp] theorem keep_32_1 : fn32.keep 1 = some [0, 2, 6] := rfl
@[simp] theorem keep_32_2 : fn32.keep 2 = some [2, 3] := rfl
@[simp] theorem keep_32_3 : fn32.keep 3 = some [2, 3] := rfl
@[simp] theorem ntmps_33 : fn33.ntmps = 21 := rfl
@[simp] theorem results_33 : fn33.results = [.tmp 2, .tmp 3] := rfl
theorem body_33 : fn33.body = c33 := rfl
@[simp] theorem dyn_33 : fn33.dyn = fun _ => [] := id rfl
@[simp] theorem opn_33 : fn33.opn = fun _ => none := id rfl
@[simp] theorem keep_33_0 : fn33.keep 0 = some [1] := rfl
@[simp] theorem keep_33_1 : fn33.keep 1 = some [4, 5] := rfl
@[simp] theorem keep_33_2 : fn33.keep 2 = some [4, 5, 11] := rfl
@[simp] theorem keep_33_3 : fn33.keep 3 = some [2, 3] := rfl
@[simp] theorem keep_33_4 : fn33.keep 4 = some [4, 15] := rfl
@[simp] theorem keep_33_5 : fn33.keep 5 = some [2, 3] := rfl
@[simp] theorem keep_33_6 : fn33.keep 6 = some [2, 3] := rfl
@[simp] theorem ntmps_34 : fn34.ntmps = 27 := rfl
@[simp] theorem results_34 : fn34.results = [.tmp 2] := rfl
theorem body_34 : fn34.body = c34 := rfl
@[simp] theorem dyn_34 : fn34.dyn = fun _ => [] := id rfl
@[simp] theorem opn_34 : fn34.opn = fun _ => none := id rfl
@[simp] theorem keep_34_0 : fn34.keep 0 = some [1] := rfl
@[simp] theorem keep_34_1 : fn34.keep 1 = some [1, 3] := rfl
@[simp] theorem keep_34_2 : fn34.keep 2 = some [1, 3, 4] := rfl
@[simp] theorem keep_34_3 : fn34.keep 3 = some [1, 3, 4, 13] := rfl
@[simp] theorem keep_34_4 : fn34.keep 4 = some [1, 3, 4] := rfl
@[simp] theorem keep_34_5 : fn34.keep 5 = some [1, 3, 4] := rfl
@[simp] theorem keep_34_6 : fn34.keep 6 = some [2] := rfl
@[simp] theorem head_34_3 : fn34.head 3 = some [1, 3, 4] := rfl
@[simp] theorem ntmps_35 : fn35.ntmps = 16 := rfl
@[simp] theorem results_35 : fn35.results = [.tmp 2] := rfl
theorem body_35 : fn35.body = c35 := rfl
@[simp] theorem dyn_35 : fn35.dyn = fun _ => [] := id rfl
@[simp] theorem opn_35 : fn35.opn = fun _ => none := id rfl
@[simp] theorem keep_35_0 : fn35.keep 0 = some [0] := rfl
@[simp] theorem keep_35_1 : fn35.keep 1 = some [0, 3] := rfl
@[simp] theorem keep_35_2 : fn35.keep 2 = some [2] := rfl
@[simp] theorem ntmps_36 : fn36.ntmps = 36 := rfl
@[simp] theorem results_36 : fn36.results = [.tmp 4] := rfl
theorem body_36 : fn36.body = c36 := rfl
@[simp] theorem dyn_36 : fn36.dyn = fun _ => [] := id rfl
@[simp] theorem opn_36 : fn36.opn = fun _ => none := id rfl
@[simp] theorem keep_36_0 : fn36.keep 0 = some [0, 1] := rfl
@[simp] theorem keep_36_1 : fn36.keep 1 = some [0, 1, 5] := rfl
@[simp] theorem keep_36_2 : fn36.keep 2 = some [4] := rfl
@[simp] theorem keep_36_3 : fn36.keep 3 = some [0, 1, 8] := rfl
@[simp] theorem keep_36_4 : fn36.keep 4 = some [4] := rfl
@[simp] theorem keep_36_5 : fn36.keep 5 = some [11] := rfl
@[simp] theorem keep_36_6 : fn36.keep 6 = some [4] := rfl
@[simp] theorem keep_36_7 : fn36.keep 7 = some [4] := rfl
@[simp] theorem ntmps_37 : fn37.ntmps = 21 := rfl
@[simp] theorem results_37 : fn37.results = [.cell 4 59, .tmp 5] := rfl
theorem body_37 : fn37.body = c37 := rfl
@[simp] theorem dyn_37 : fn37.dyn = fun _ => [] := id rfl
@[simp] theorem opn_37 : fn37.opn = fun _ => none := id rfl
@[simp] theorem keep_37_0 : fn37.keep 0 = some [0, 1, 4] := rfl
@[simp] theorem keep_37_1 : fn37.keep 1 = some [4, 6, 7] := rfl
@[simp] theorem keep_37_2 : fn37.keep 2 = some [4, 6, 7, 15] := rfl
@[simp] theorem keep_37_3 : fn37.keep 3 = some [4, 5] := rfl
@[simp] theorem keep_37_4 : fn37.keep 4 = some [4, 5] := rfl
@[simp] theorem ntmps_38 : fn38.ntmps = 19 := rfl
@[simp] theorem results_38 : fn38.results = [.tmp 2, .tmp 3, .tmp 4] := rfl
theorem body_38 : fn38.body = c38 := rfl
@[simp] theorem dyn_38 : fn38.dyn = fun _ => [] := id rfl
@[simp] theorem opn_38 : fn38.opn = fun _ => none := id rfl
@[simp] theorem keep_38_0 : fn38.keep 0 = some [1] := rfl
@[simp] theorem keep_38_1 : fn38.keep 1 = some [4, 5] := rfl
@[simp] theorem keep_38_2 : fn38.keep 2 = some [4, 5, 12] := rfl
@[simp] theorem keep_38_3 : fn38.keep 3 = some [2, 3, 4] := rfl
@[simp] theorem keep_38_4 : fn38.keep 4 = some [2, 3, 4] := rfl
@[simp] theorem ntmps_39 : fn39.ntmps = 32 := rfl
@[simp] theorem results_39 : fn39.results = [.tmp 8] := rfl
theorem body_39 : fn39.body = c39 := rfl
@[simp] theorem dyn_39 : fn39.dyn = fun _ => [] := id rfl
@[simp] theorem opn_39 : fn39.opn = fun _ => none := id rfl
@[simp] theorem keep_39_0 : fn39.keep 0 = some [1, 2, 3, 4] := rfl
@[simp] theorem keep_39_1 : fn39.keep 1 = some [1, 3, 4, 9] := rfl
@[simp] theorem keep_39_2 : fn39.keep 2 = some [8] := rfl
@[simp] theorem ntmps_40 : fn40.ntmps = 31 := rfl
@[simp] theorem results_40 : fn40.results = [.tmp 6] := rfl
theorem body_40 : fn40.body = c40 := rfl
@[simp] theorem dyn_40 : fn40.dyn = fun _ => [] := id rfl
@[simp] theorem opn_40 : fn40.opn = fun _ => none := id rfl
@[simp] theorem keep_40_0 : fn40.keep 0 = some [0, 1, 2] := rfl
@[simp] theorem keep_40_1 : fn40.keep 1 = some [0, 2, 19] := rfl
@[simp] theorem keep_40_2 : fn40.keep 2 = some [6] := rfl
@[simp] theorem keep_40_3 : fn40.keep 3 = some [6] := rfl
@[simp] theorem ntmps_41 : fn41.ntmps = 39 := rfl
@[simp] theorem results_41 : fn41.results = [.tmp 4] := rfl
theorem body_41 : fn41.body = c41 := rfl
@[simp] theorem dyn_41 : fn41.dyn = fun _ => [] := id rfl
@[simp] theorem opn_41 : fn41.opn = fun _ => none := id rfl
@[simp] theorem keep_41_0 : fn41.keep 0 = some [0, 1] := rfl
@[simp] theorem keep_41_1 : fn41.keep 1 = some [0, 1, 8] := rfl
@[simp] theorem keep_41_2 : fn41.keep 2 = some [4] := rfl
@[simp] theorem keep_41_3 : fn41.keep 3 = some [0, 1, 10] := rfl
@[simp] theorem keep_41_4 : fn41.keep 4 = some [4] := rfl
@[simp] theorem keep_41_5 : fn41.keep 5 = some [0, 1, 24] := rfl
@[simp] theorem keep_41_6 : fn41.keep 6 = some [4] := rfl
@[simp] theorem keep_41_7 : fn41.keep 7 = some [1, 5] := rfl
@[simp] theorem keep_41_8 : fn41.keep 8 = some [5, 6] := rfl
@[simp] theorem keep_41_9 : fn41.keep 9 = some [5, 6, 31] := rfl
@[simp] theorem keep_41_10 : fn41.keep 10 = some [5, 6] := rfl
@[simp] theorem keep_41_11 : fn41.keep 11 = some [5, 6, 38] := rfl
@[simp] theorem keep_41_12 : fn41.keep 12 = some [4] := rfl
@[simp] theorem keep_41_13 : fn41.keep 13 = some [4] := rfl
@[simp] theorem head_41_9 : fn41.head 9 = some [5, 6] := rfl
@[simp] theorem ntmps_42 : fn42.ntmps = 9 := rfl
@[simp] theorem results_42 : fn42.results = [.tmp 2] := rfl
theorem body_42 : fn42.body = c42 := rfl
@[simp] theorem dyn_42 : fn42.dyn = fun _ => [] := id rfl
@[simp] theorem opn_42 : fn42.opn = fun _ => none := id rfl
@[simp] theorem keep_42_0 : fn42.keep 0 = some [0] := rfl
@[simp] theorem keep_42_1 : fn42.keep 1 = some [2] := rfl
@[simp] theorem ntmps_43 : fn43.ntmps = 17 := rfl
@[simp] theorem results_43 : fn43.results = [.tmp 4] := rfl
theorem body_43 : fn43.body = c43 := rfl
@[simp] theorem dyn_43 : fn43.dyn = fun _ => [] := id rfl
@[simp] theorem opn_43 : fn43.opn = fun _ => none := id rfl
@[simp] theorem keep_43_0 : fn43.keep 0 = some [0, 1] := rfl
@[simp] theorem keep_43_1 : fn43.keep 1 = some [1, 5, 6] := rfl
@[simp] theorem keep_43_2 : fn43.keep 2 = some [4] := rfl
@[simp] theorem ntmps_44 : fn44.ntmps = 65 := rfl
@[simp] theorem results_44 : fn44.results = [.tmp 2, .tmp 3, .tmp 4] := rfl
theorem body_44 : fn44.body = c44 := rfl
@[simp] theorem dyn_44 : fn44.dyn = fun _ => [] := id rfl
@[simp] theorem opn_44 : fn44.opn = fun _ => none := id rfl
@[simp] theorem keep_44_0 : fn44.keep 0 = some [0] := rfl
@[simp] theorem keep_44_1 : fn44.keep 1 = some [0, 9] := rfl
@[simp] theorem keep_44_2 : fn44.keep 2 = some [2, 3, 4] := rfl
@[simp] theorem keep_44_3 : fn44.keep 3 = some [0, 13] := rfl
@[simp] theorem keep_44_4 : fn44.keep 4 = some [2, 3, 4] := rfl
@[simp] theorem keep_44_5 : fn44.keep 5 = some [0, 5] := rfl
@[simp] theorem keep_44_6 : fn44.keep 6 = some [0, 5, 6] := rfl
@[simp] theorem keep_44_7 : fn44.keep 7 = some [0, 5, 6, 23] := rfl
@[simp] theorem keep_44_8 : fn44.keep 8 = some [2, 3, 4] := rfl
@[simp] theorem keep_44_9 : fn44.keep 9 = some [0, 5, 6, 30] := rfl
@[simp] theorem keep_44_10 : fn44.keep 10 = some [2, 3, 4] := rfl
@[simp] theorem keep_44_11 : fn44.keep 11 = some [0, 5, 6] := rfl
@[simp] theorem keep_44_12 : fn44.keep 12 = some [0, 2, 6] := rfl
@[simp] theorem keep_44_13 : fn44.keep 13 = some [2, 6, 61] := rfl
@[simp] theorem keep_44_14 : fn44.keep 14 = some [2, 3, 4] := rfl
@[simp] theorem keep_44_15 : fn44.keep 15 = some [2, 3, 4] := rfl
@[simp] theorem ntmps_45 : fn45.ntmps = 28 := rfl
@[simp] theorem results_45 : fn45.results = [.tmp 2] := rfl
theorem body_45 : fn45.body = c45 := rfl
@[simp] theorem dyn_45 : fn45.dyn = fun _ => [] := id rfl
@[simp] theorem opn_45 : fn45.opn = fun _ => none := id rfl
@[simp] theorem keep_45_0 : fn45.keep 0 = some [0] := rfl
@[simp] theorem keep_45_1 : fn45.keep 1 = some [0, 3] := rfl
@[simp] theorem keep_45_2 : fn45.keep 2 = some [0, 3, 4] := rfl
@[simp] theorem keep_45_3 : fn45.keep 3 = some [0, 3, 4, 9] := rfl
@[simp] theorem keep_45_4 : fn45.keep 4 = some [0, 3, 4] := rfl
@[simp] theorem keep_45_5 : fn45.keep 5 = some [0, 3, 4, 5] := rfl
@[simp] theorem keep_45_6 : fn45.keep 6 = some [0, 3, 4, 5, 13] := rfl
@[simp] theorem keep_45_7 : fn45.keep 7 = some [0, 3, 4, 5] := rfl
@[simp] theorem keep_45_8 : fn45.keep 8 = some [0, 3, 4, 5] := rfl
@[simp] theorem keep_45_9 : fn45.keep 9 = some [2] := rfl
@[simp] theorem head_45_3 : fn45.head 3 = some [0, 3, 4] := rfl
@[simp] theorem head_45_6 : fn45.head 6 = some [0, 3, 4, 5] := rfl
@[simp] theorem ntmps_46 : fn46.ntmps = 27 := rfl
@[simp] theorem results_46 : fn46.results = [.tmp 4] := rfl
theorem body_46 : fn46.body = c46 := rfl
@[simp] theorem dyn_46 : fn46.dyn = fun _ => [] := id rfl
@[simp] theorem opn_46 : fn46.opn = fun _ => none := id rfl
@[simp] theorem keep_46_0 : fn46.keep 0 = some [0, 1] := rfl
@[simp] theorem keep_46_1 : fn46.keep 1 = some [0, 1, 5] := rfl
@[simp] theorem keep_46_2 : fn46.keep 2 = some [1, 5, 6] := rfl
@[simp] theorem keep_46_3 : fn46.keep 3 = some [5, 6] := rfl
@[simp] theorem keep_46_4 : fn46.keep 4 = some [4] := rfl
@[simp] theorem ntmps_47 : fn47.ntmps = 7 := rfl
@[simp] theorem results_47 : fn47.results = [.tmp 2] := rfl
theorem body_47 : fn47.body = c47 := rfl
@[simp] theorem dyn_47 : fn47.dyn = fun _ => [] := id rfl
@[simp] theorem opn_47 : fn47.opn = fun _ => none := id rfl
@[simp] theorem keep_47_0 : fn47.keep 0 = some [0] := rfl
@[simp] theorem keep_47_1 : fn47.keep 1 = some [2] := rfl
@[simp] theorem ntmps_48 : fn48.ntmps = 72 := rfl
@[simp] theorem results_48 : fn48.results = [.tmp 2, .tmp 3] := rfl
theorem body_48 : fn48.body = c48 := rfl
@[simp] theorem dyn_48 : fn48.dyn = fun _ => [] := id rfl
@[simp] theorem opn_48 : fn48.opn = fun _ => none := id rfl
@[simp] theorem keep_48_0 : fn48.keep 0 = some [0] := rfl
@[simp] theorem keep_48_1 : fn48.keep 1 = some [0, 4, 5, 6] := rfl
@[simp] theorem keep_48_2 : fn48.keep 2 = some [0, 4, 5, 6, 15] := rfl
@[simp] theorem keep_48_3 : fn48.keep 3 = some [2, 3] := rfl
@[simp] theorem keep_48_4 : fn48.keep 4 = some [4, 5, 6, 34] := rfl
@[simp] theorem keep_48_5 : fn48.keep 5 = some [2, 3] := rfl
@[simp] theorem keep_48_6 : fn48.keep 6 = some [4, 5, 51] := rfl
@[simp] theorem keep_48_7 : fn48.keep 7 = some [2, 3] := rfl
@[simp] theorem keep_48_8 : fn48.keep 8 = some [4, 5, 7] := rfl
@[simp] theorem keep_48_9 : fn48.keep 9 = some [4, 5, 7, 58, 59] := rfl
@[simp] theorem keep_48_10 : fn48.keep 10 = some [4, 5, 7, 58, 59, 60] := rfl
@[simp] theorem keep_48_11 : fn48.keep 11 = some [4, 5, 7, 8, 58, 59] := rfl
@[simp] theorem keep_48_12 : fn48.keep 12 = some [4, 5, 7, 8, 58, 59, 65] := rfl
@[simp] theorem keep_48_13 : fn48.keep 13 = some [4, 5, 7, 58, 59] := rfl
@[simp] theorem keep_48_14 : fn48.keep 14 = some [4, 5, 7, 58, 59] := rfl
@[simp] theorem keep_48_15 : fn48.keep 15 = some [2, 3] := rfl
@[simp] theorem head_48_10 : fn48.head 10 = some [4, 5, 7, 58, 59] := rfl
@[simp] theorem ntmps_49 : fn49.ntmps = 25 := rfl
@[simp] theorem results_49 : fn49.results = [.tmp 2] := rfl
theorem body_49 : fn49.body = c49 := rfl
@[simp] theorem dyn_49 : fn49.dyn = fun _ => [] := id rfl
@[simp] theorem opn_49 : fn49.opn = fun _ => none := id rfl
@[simp] theorem keep_49_0 : fn49.keep 0 = some [0, 2] := rfl
@[simp] theorem keep_49_1 : fn49.keep 1 = some [0, 2, 4] := rfl
@[simp] theorem keep_49_2 : fn49.keep 2 = some [0] := rfl
@[simp] theorem keep_49_3 : fn49.keep 3 = some [0, 2] := rfl
@[simp] theorem keep_49_4 : fn49.keep 4 = some [0, 2, 8] := rfl
@[simp] theorem keep_49_5 : fn49.keep 5 = some [0, 2] := rfl
@[simp] theorem keep_49_6 : fn49.keep 6 = some [0, 2] := rfl
@[simp] theorem keep_49_7 : fn49.keep 7 = some [0, 2, 14] := rfl
@[simp] theorem keep_49_8 : fn49.keep 8 = some [0, 2] := rfl
@[simp] theorem keep_49_9 : fn49.keep 9 = some [0, 2] := rfl
@[simp] theorem keep_49_10 : fn49.keep 10 = some [2] := rfl
@[simp] theorem ntmps_50 : fn50.ntmps = 19 := rfl
@[simp] theorem results_50 : fn50.results = [.tmp 4, .tmp 5] := rfl
theorem body_50 : fn50.body = c50 := rfl
@[simp] theorem dyn_50 : fn50.dyn = fun _ => [] := id rfl
@[simp] theorem opn_50 : fn50.opn = fun _ => none := id rfl
@[simp] theorem keep_50_0 : fn50.keep 0 = some [1, 2] := rfl
@[simp] theorem keep_50_1 : fn50.keep 1 = some [2, 6] := rfl
@[simp] theorem keep_50_2 : fn50.keep 2 = some [4, 5] := rfl
@[simp] theorem keep_50_3 : fn50.keep 3 = some [2, 12] := rfl
@[simp] theorem keep_50_4 : fn50.keep 4 = some [4, 5] := rfl
@[simp] theorem keep_50_5 : fn50.keep 5 = some [4, 5] := rfl
@[simp] theorem E_fn3 : E.fn 3 = some fn3 := rfl
@[simp] theorem E_grd3 : E.grd 3 = none := id rfl
@[simp] theorem opnT_3 : opnT 3 = none := id rfl
@[simp] theorem E_fn4 : E.fn 4 = some fn4 := rfl
@[simp] theorem E_grd4 : E.grd 4 = none := id rfl
@[simp] theorem opnT_4 : opnT 4 = none := id rfl
@[simp] theorem E_fn5 : E.fn 5 = some fn5 := rfl
@[simp] theorem E_grd5 : E.grd 5 = none := id rfl
@[simp] theorem opnT_5 : opnT 5 = none := id rfl
@[simp] theorem E_fn6 : E.fn 6 = some fn6 := rfl
@[simp] theorem E_grd6 : E.grd 6 = none := id rfl
@[simp] theorem opnT_6 : opnT 6 = none := id rfl
@[simp] theorem E_fn7 : E.fn 7 = some fn7 := rfl
@[simp] theorem E_grd7 : E.grd 7 = none := id rfl
@[simp] theorem opnT_7 : opnT 7 = none := id rfl
@[simp] theorem E_fn8 : E.fn 8 = some fn8 := rfl
@[simp] theorem E_grd8 : E.grd 8 = none := id rfl
@[simp] theorem opnT_8 : opnT 8 = none := id rfl
@[simp] theorem E_fn9 : E.fn 9 = some fn9 := rfl
@[simp] theorem E_grd9 : E.grd 9 = none := id rfl
@[simp] theorem opnT_9 : opnT 9 = none := id rfl
@[simp] theorem E_fn10 : E.fn 10 = some fn10 := rfl
@[simp] theorem E_grd10 : E.grd 10 = none := id rfl
@[simp] theorem opnT_10 : opnT 10 = none := id rfl
@[simp] theorem E_fn11 : E.fn 11 = some fn11 := rfl
@[simp] theorem E_grd11 : E.grd 11 = none := id rfl
@[simp] theorem opnT_11 : opnT 11 = none := id rfl
@[simp] theorem E_fn12 : E.fn 12 = some fn12 := rfl
@[simp] theorem E_grd12 : E.grd 12 = none := id rfl
@[simp] theorem opnT_12 : opnT 12 = none := id rfl
@[simp] theorem E_fn13 : E.fn 13 = some fn13 := rfl
@[simp] theorem E_grd13 : E.grd 13 = none := id rfl
@[simp] theorem opnT_13 : opnT 13 = none := id rfl
@[simp] theorem E_fn14 : E.fn 14 = some fn14 := rfl
@[simp] theorem E_grd14 : E.grd 14 = none := id rfl
@[simp] theorem opnT_14 : opnT 14 = none := id rfl
@[simp] theorem E_fn15 : E.fn 15 = some fn15 := rfl
@[simp] theorem E_grd15 : E.grd 15 = none := id rfl
@[simp] theorem opnT_15 : opnT 15 = none := id rfl
@[simp] theorem E_fn16 : E.fn 16 = some fn16 := rfl
@[simp] theorem E_grd16 : E.grd 16 = none := id rfl
@[simp] theorem opnT_16 : opnT 16 = none := id rfl
@[simp] theorem E_fn17 : E.fn 17 = some fn17 := rfl
@[simp] theorem E_grd17 : E.grd 17 = none := id rfl
@[simp] theorem opnT_17 : opnT 17 = none := id rfl
@[simp] theorem E_fn18 : E.fn 18 = some fn18 := rfl
@[simp] theorem E_grd18 : E.grd 18 = none := id rfl
@[simp] theorem opnT_18 : opnT 18 = none := id rfl
@[simp] theorem E_fn19 : E.fn 19 = some fn19 := rfl
@[simp] theorem E_grd19 : E.grd 19 = none := id rfl
@[simp] theorem opnT_19 : opnT 19 = none := id rfl
@[simp] theorem E_fn20 : E.fn 20 = some fn20 := rfl
@[simp] theorem E_grd20 : E.grd 20 = none := id rfl
@[simp] theorem opnT_20 : opnT 20 = none := id rfl
@[simp] theorem E_fn21 : E.fn 21 = some fn21 := rfl
@[simp] theorem E_grd21 : E.grd 21 = none := id rfl
@[simp] theorem opnT_21 : opnT 21 = none := id rfl
@[simp] theorem E_fn22 : E.fn 22 = some fn22 := rfl
@[simp] theorem E_grd22 : E.grd 22 = none := id rfl
@[simp] theorem opnT_22 : opnT 22 = none := id rfl
@[simp] theorem E_fn23 : E.fn 23 = some fn23 := rfl
@[simp] theorem E_grd23 : E.grd 23 = none := id rfl
@[simp] theorem opnT_23 : opnT 23 = none := id rfl
@[simp] theorem E_fn24 : E.fn 24 = some fn24 := rfl
@[simp] theorem E_grd24 : E.grd 24 = none := id rfl
@[simp] theorem opnT_24 : opnT 24 = none := id rfl
@[simp] theorem E_fn25 : E.fn 25 = some fn25 := rfl
@[simp] theorem E_grd25 : E.grd 25 = none := id rfl
@[simp] theorem opnT_25 : opnT 25 = none := id rfl
@[simp] theorem E_fn26 : E.fn 26 = some fn26 := rfl
@[simp] theorem E_grd26 : E.grd 26 = none := id rfl
@[simp] theorem opnT_26 : opnT 26 = none := id rfl
@[simp] theorem E_fn27 : E.fn 27 = some fn27 := rfl
@[simp] theorem E_grd27 : E.grd 27 = none := id rfl
@[simp] theorem opnT_27 : opnT 27 = none := id rfl
@[simp] theorem E_fn28 : E.fn 28 = some fn28 := rfl
@[simp] theorem E_grd28 : E.grd 28 = none := id rfl
@[simp] theorem opnT_28 : opnT 28 = none := id rfl
@[simp] theorem E_fn29 : E.fn 29 = some fn29 := rfl
@[simp] theorem E_grd29 : E.grd 29 = none := id rfl
@[simp] theorem opnT_29 : opnT 29 = none := id rfl
@[simp] theorem E_fn30 : E.fn 30 = some fn30 := rfl
@[simp] theorem E_grd30 : E.grd 30 = none := id rfl
@[simp] theorem opnT_30 : opnT 30 = none := id rfl
@[simp] theorem E_fn31 : E.fn 31 = some fn31 := rfl
@[simp] theorem E_grd31 : E.grd 31 = none := id rfl
@[simp] theorem opnT_31 : opnT 31 = none := id rfl
@[simp] theorem E_fn32 : E.fn 32 = some fn32 := rfl
@[simp] theorem E_grd32 : E.grd 32 = none := id rfl
@[simp] theorem opnT_32 : opnT 32 = none := id rfl
@[simp] theorem E_fn33 : E.fn 33 = some fn33 := rfl
@[simp] theorem E_grd33 : E.grd 33 = none := id rfl
@[simp] theorem opnT_33 : opnT 33 = none := id rfl
@[simp] theorem E_fn34 : E.fn 34 = some fn34 := rfl
@[simp] theorem E_grd34 : E.grd 34 = none := id rfl
@[simp] theorem opnT_34 : opnT 34 = none := id rfl
@[simp] theorem E_fn35 : E.fn 35 = some fn35 := rfl
@[simp] theorem E_grd35 : E.grd 35 = none := id rfl
@[simp] theorem opnT_35 : opnT 35 = none := id rfl
@[simp] theorem E_fn36 : E.fn 36 = some fn36 := rfl
@[simp] theorem E_grd36 : E.grd 36 = none := id rfl
@[simp] theorem opnT_36 : opnT 36 = none := id rfl
@[simp] theorem E_fn37 : E.fn 37 = some fn37 := rfl
@[simp] theorem E_grd37 : E.grd 37 = none := id rfl
@[simp] theorem opnT_37 : opnT 37 = none := id rfl
@[simp] theorem E_fn38 : E.fn 38 = some fn38 := rfl
@[simp] theorem E_grd38 : E.grd 38 = none := id rfl
@[simp] theorem opnT_38 : opnT 38 = none := id rfl
@[simp] theorem E_fn39 : E.fn 39 = some fn39 := rfl
@[simp] theorem E_grd39 : E.grd 39 = none := id rfl
@[simp] theorem opnT_39 : opnT 39 = none := id rfl
@[simp] theorem E_fn40 : E.fn 40 = some fn40 := rfl
@[simp] theorem E_grd40 : E.grd 40 = none := id rfl
@[simp] theorem opnT_40 : opnT 40 = none := id rfl
@[simp] theorem E_fn41 : E.fn 41 = some fn41 := rfl
@[simp] theorem E_grd41 : E.grd 41 = none := id rfl
@[simp] theorem opnT_41 : opnT 41 = none := id rfl
@[simp] theorem E_fn42 : E.fn 42 = some fn42 := rfl
@[simp] theorem E_grd42 : E.grd 42 = none := id rfl
@[simp] theorem opnT_42 : opnT 42 = none := id rfl
@[simp] theorem E_fn43 : E.fn 43 = some fn43 := rfl
@[simp] theorem E_grd43 : E.grd 43 = none := id rfl
@[simp] theorem opnT_43 : opnT 43 = none := id rfl
@[simp] theorem E_fn44 : E.fn 44 = some fn44 := rfl
@[simp] theorem E_grd44 : E.grd 44 = none := id rfl
@[simp] theorem opnT_44 : opnT 44 = none := id rfl
@[simp] theorem E_fn45 : E.fn 45 = some fn45 := rfl
@[simp] theorem E_grd45 : E.grd 45 = none := id rfl
@[simp] theorem opnT_45 : opnT 45 = none := id rfl
@[simp] theorem E_fn46 : E.fn 46 = some fn46 := rfl
@[simp] theorem E_grd46 : E.grd 46 = none := id rfl
@[simp] theorem opnT_46 : opnT 46 = none := id rfl
@[simp] theorem E_fn47 : E.fn 47 = some fn47 := rfl
@[simp] theorem E_grd47 : E.grd 47 = none := id rfl
@[simp] theorem opnT_47 : opnT 47 = none := id rfl
@[simp] theorem E_fn48 : E.fn 48 = some fn48 := rfl
@[simp] theorem E_grd48 : E.grd 48 = none := id rfl
@[simp] theorem opnT_48 : opnT 48 = none := id rfl
@[simp] theorem E_fn49 : E.fn 49 = some fn49 := rfl
@[simp] theorem E_grd49 : E.grd 49 = none := id rfl
@[simp] theorem opnT_49 : opnT 49 = none := id rfl
@[simp] theorem E_fn50 : E.fn 50 = some fn50 := rfl
@[simp] theorem E_grd50 : E.grd 50 = none := id rfl
@[simp] theorem opnT_50 : opnT 50 = none := id rfl
@[simp] theorem E_ty1 : E.ty 1 = some ⟨.func, 1, 8, [.nilf], false⟩ := rfl
@[simp] theorem E_ty2 : E.ty 2 = some ⟨.int .i64, 1, 8, [.int .i64 0], false⟩ := rfl
@[simp] theorem E_ty3 : E.ty 3 = some ⟨.int .i64, 1, 8, [.int .i64 0], false⟩ := rfl
@[simp] theorem E_ty4 : E.ty 4 = some ⟨.bool, 1, 1, [.bool false], false⟩ := rfl
@[simp] theorem E_ty5 : E.ty 5 = some ⟨.int .u8, 1, 1, [.int .u8 0], false⟩ := rfl
@[simp] theorem E_ty6 : E.ty 6 = some ⟨.int .u8, 1, 1, [.int .u8 0], false⟩ := rfl
@[simp] theorem E_ty7 : E.ty 7 = some ⟨.strct [(0, 2), (1, 3), (2, 4), (3, 6)], 4, 24, [.int .i64 0, .int .i64 0, .bool false, .int .u8 0], false⟩ := rfl
@[simp] theorem E_ty8 : E.ty 8 = some ⟨.strct [(0, 2), (1, 3), (2, 4), (3, 6)], 4, 24, [.int .i64 0, .int .i64 0, .bool false, .int .u8 0], false⟩ := rfl
@[simp] theorem E_ty9 : E.ty 9 = some ⟨.str, 1, 16, [.str []], false⟩ := rfl
@[simp] theorem E_ty10 : E.ty 10 = some ⟨.str, 1, 16, [.str []], false⟩ := rfl
@[simp] theorem E_ty11 : E.ty 11 = some ⟨.str, 1, 16, [.str []], false⟩ := rfl
@[simp] theorem E_ty12 : E.ty 12 = some ⟨.int .u64, 1, 8, [.int .u64 0], false⟩ := rfl
@[simp] theorem E_ty13 : E.ty 13 = some ⟨.strct [(0, 9), (1, 12)], 2, 24, [.str [], .int .u64 0], false⟩ := rfl
@[simp] theorem E_ty14 : E.ty 14 = some ⟨.strct [(0, 9), (1, 12)], 2, 24, [.str [], .int .u64 0], false⟩ := rfl
@[simp] theorem E_ty15 : E.ty 15 = some ⟨.ptr 88, 1, 8, [.nilp], false⟩ := rfl
@[simp] theorem E_ty16 : E.ty 16 = some ⟨.ptr 91, 1, 8, [.nilp], false⟩ := rfl
@[simp] theorem E_ty17 : E.ty 17 = some ⟨.ptr 100, 1, 8, [.nilp], false⟩ := rfl
@[simp] theorem E_ty18 : E.ty 18 = some ⟨.strct [(0, 17)], 1, 8, [.nilp], false⟩ := rfl
@[simp] theorem E_ty19 : E.ty 19 = some ⟨.strct [(0, 17)], 1, 8, [.nilp], false⟩ := rfl
@[simp] theorem E_ty20 : E.ty 20 = some ⟨.iface true, 1, 16, [.nili], false⟩ := rfl
@[simp] theorem E_ty21 : E.ty 21 = some ⟨.int .i32, 1, 4, [.int .i32 0], false⟩ := rfl
@[simp] theorem E_ty22 : E.ty 22 = some ⟨.slice 5, 1, 24, [.sl true [] (some 0)], false⟩ := rfl
@[simp] theorem E_ty23 : E.ty 23 = some ⟨.int .i64, 1, 8, [.int .i64 0], false⟩ := rfl
@[simp] theorem E_ty25 : E.ty 25 = some ⟨.func, 1, 8, [.nilf], false⟩ := rfl
@[simp] theorem E_ty26 : E.ty 26 = some ⟨.func, 1, 8, [.nilf], false⟩ := rfl
@[simp] theorem E_ty27 : E.ty 27 = some ⟨.func, 1, 8, [.nilf], false⟩ := rfl
@[simp] theorem E_ty28 : E.ty 28 = some ⟨.func, 1, 8, [.nilf], false⟩ := rfl
@[simp] theorem E_ty29 : E.ty 29 = some ⟨.func, 1, 8, [.nilf], false⟩ := rfl
@[simp] theorem E_ty30 : E.ty 30 = some ⟨.func, 1, 8, [.nilf], false⟩ := rfl
@[simp] theorem E_ty31 : E.ty 31 = some ⟨.int .u32, 1, 4, [.int .u32 0], false⟩ := rfl
@[simp] theorem E_ty32 : E.ty 32 = some ⟨.func, 1, 8, [.nilf], false⟩ := rfl
@[simp] theorem E_ty33 : E.ty 33 = some ⟨.func, 1, 8, [.nilf], false⟩ := rfl
@[simp] theorem E_ty35 : E.ty 35 = some ⟨.func, 1, 8, [.nilf], false⟩ := rfl
@[simp] theorem E_ty36 : E.ty 36 = some ⟨.func, 1, 8, [.nilf], false⟩ := rfl
@[simp] theorem E_ty37 : E.ty 37 = some ⟨.func, 1, 8, [.nilf], false⟩ := rfl
@[simp] theorem E_ty38 : E.ty 38 = some ⟨.func, 1, 8, [.nilf], false⟩ := rfl
@[simp] theorem E_ty39 : E.ty 39 = some ⟨.slice 3, 1, 24, [.sl true [] (some 0)], false⟩ := rfl
@[simp] theorem E_ty41 : E.ty 41 = some ⟨.func, 1, 8, [.nilf], false⟩ := rfl
@[simp] theorem E_ty42 : E.ty 42 = some ⟨.func, 1, 8, [.nilf], false⟩ := rfl
@[simp] theorem E_ty43 : E.ty 43 = some ⟨.func, 1, 8, [.nilf], false⟩ := rfl
@[simp] theorem E_ty44 : E.ty 44 = some ⟨.func, 1, 8, [.nilf], false⟩ := rfl
@[simp] theorem E_ty45 : E.ty 45 = some ⟨.int .u64, 1, 8, [.int .u64 0], false⟩ := rfl
@[simp] theorem E_ty47 : E.ty 47 = some ⟨.func, 1, 8, [.nilf], false⟩ := rfl
@[simp] theorem E_ty48 : E.ty 48 = some ⟨.func, 1, 8, [.nilf], false⟩ := rfl
@[simp] theorem E_ty49 : E.ty 49 = some ⟨.func, 1, 8, [.nilf], false⟩ := rfl
@[simp] theorem E_ty50 : E.ty 50 = some ⟨.func, 1, 8, [.nilf], false⟩ := rfl
@[simp] theorem E_ty51 : E.ty 51 = some ⟨.int .u64, 1, 8, [.int .u64 0], false⟩ := rfl
@[simp] theorem E_ty53 : E.ty 53 = some ⟨.func, 1, 8, [.nilf], false⟩ := rfl
@[simp] theorem E_ty54 : E.ty 54 = some ⟨.int .u8, 1, 1, [.int .u8 0], false⟩ := rfl
@[simp] theorem E_ty55 : E.ty 55 = some ⟨.strct [(0, 54), (1, 4), (2, 31)], 3, 8, [.int .u8 0, .bool false, .int .u32 0], false⟩ := rfl
@[simp] theorem E_ty56 : E.ty 56 = some ⟨.strct [(0, 54), (1, 4), (2, 31)], 3, 8, [.int .u8 0, .bool false, .int .u32 0], true⟩ := rfl
@[simp] theorem E_ty57 : E.ty 57 = some ⟨.slice 59, 1, 24, [.sl true [] (some 0)], false⟩ := rfl
@[simp] theorem E_ty58 : E.ty 58 = some ⟨.strct [(0, 56), (3, 22), (4, 57)], 5, 56, [.int .u8 0, .bool false, .int .u32 0, .sl true [] (some 0), .sl true [] (some 0)], false⟩ := rfl
@[simp] theorem E_ty59 : E.ty 59 = some ⟨.strct [(0, 56), (3, 22), (4, 57)], 5, 56, [.int .u8 0, .bool false, .int .u32 0, .sl true [] (some 0), .sl true [] (some 0)], false⟩ := rfl
@[simp] theorem E_ty61 : E.ty 61 = some ⟨.func, 1, 8, [.nilf], false⟩ := rfl
@[simp] theorem E_ty62 : E.ty 62 = some ⟨.func, 1, 8, [.nilf], false⟩ := rfl
@[simp] theorem E_ty63 : E.ty 63 = some ⟨.strct [(0, 22)], 1, 24, [.sl true [] (some 0)], false⟩ := rfl
@[simp] theorem E_ty64 : E.ty 64 = some ⟨.strct [(0, 22)], 1, 24, [.sl true [] (some 0)], false⟩ := rfl
@[simp] theorem E_ty65 : E.ty 65 = some ⟨.func, 1, 8, [.nilf], false⟩ := rfl
@[simp] theorem E_ty66 : E.ty 66 = some ⟨.func, 1, 8, [.nilf], false⟩ := rfl
@[simp] theorem E_ty67 : E.ty 67 = some ⟨.func, 1, 8, [.nilf], false⟩ := rfl
@[simp] theorem E_ty68 : E.ty 68 = some ⟨.func, 1, 8, [.nilf], false⟩ := rfl
@[simp] theorem E_ty69 : E.ty 69 = some ⟨.func, 1, 8, [.nilf], false⟩ := rfl
@[simp] theorem E_ty70 : E.ty 70 = some ⟨.func, 1, 8, [.nilf], false⟩ := rfl
@[simp] theorem E_ty71 : E.ty 71 = some ⟨.func, 1, 8, [.nilf], false⟩ := rfl
@[simp] theorem E_ty72 : E.ty 72 = some ⟨.func, 1, 8, [.nilf], false⟩ := rfl
@[simp] theorem E_ty73 : E.ty 73 = some ⟨.func, 1, 8, [.nilf], false⟩ := rfl
@[simp] theorem E_ty74 : E.ty 74 = some ⟨.func, 1, 8, [.nilf], false⟩ := rfl
@[simp] theorem E_ty75 : E.ty 75 = some ⟨.func, 1, 8, [.nilf], false⟩ := rfl
@[simp] theorem E_ty77 : E.ty 77 = some ⟨.func, 1, 8, [.nilf], false⟩ := rfl
@[simp] theorem E_ty78 : E.ty 78 = some ⟨.func, 1, 8, [.nilf], false⟩ := rfl
@[simp] theorem E_ty79 : E.ty 79 = some ⟨.func, 1, 8, [.nilf], false⟩ := rfl
@[simp] theorem E_ty81 : E.ty 81 = some ⟨.func, 1, 8, [.nilf], false⟩ := rfl
@[simp] theorem E_ty82 : E.ty 82 = some ⟨.func, 1, 8, [.nilf], false⟩ := rfl
@[simp] theorem E_ty83 : E.ty 83 = some ⟨.func, 1, 8, [.nilf], false⟩ := rfl
@[simp] theorem E_ty84 : E.ty 84 = some ⟨.arr 3 5, 3, 3, [.int .u8 0, .int .u8 0, .int .u8 0], false⟩ := rfl
@[simp] theorem E_ty85 : E.ty 85 = some ⟨.arr 3 5, 3, 3, [.int .u8 0, .int .u8 0, .int .u8 0], false⟩ := rfl
@[simp] theorem E_ty86 : E.ty 86 = some ⟨.func, 1, 8, [.nilf], false⟩ := rfl
@[simp] theorem E_ty87 : E.ty 87 = some ⟨.strct [(0, 17), (1, 17), (2, 17), (3, 9)], 4, 40, [.nilp, .nilp, .nilp, .str []], false⟩ := rfl
@[simp] theorem E_ty88 : E.ty 88 = some ⟨.strct [(0, 17), (1, 17), (2, 17), (3, 9)], 4, 40, [.nilp, .nilp, .nilp, .str []], false⟩ := rfl
@[simp] theorem E_ty89 : E.ty 89 = some ⟨.arr 0 16, 0, 0, [], false⟩ := rfl
@[simp] theorem E_ty90 : E.ty 90 = some ⟨.strct [(0, 89)], 0, 0, [], false⟩ := rfl
@[simp] theorem E_ty91 : E.ty 91 = some ⟨.strct [(0, 89)], 0, 0, [], false⟩ := rfl
@[simp] theorem E_ty92 : E.ty 92 = some ⟨.func, 1, 8, [.nilf], false⟩ := rfl
@[simp] theorem E_ty93 : E.ty 93 = some ⟨.int .u8, 1, 1, [.int .u8 0], false⟩ := rfl
@[simp] theorem E_ty94 : E.ty 94 = some ⟨.int .u8, 1, 1, [.int .u8 0], false⟩ := rfl
@[simp] theorem E_ty95 : E.ty 95 = some ⟨.func, 1, 8, [.nilf], false⟩ := rfl
@[simp] theorem E_ty96 : E.ty 96 = some ⟨.ptr 5, 1, 8, [.nilp], false⟩ := rfl
@[simp] theorem E_ty97 : E.ty 97 = some ⟨.int .i32, 1, 4, [.int .i32 0], false⟩ := rfl
@[simp] theorem E_ty98 : E.ty 98 = some ⟨.int .i32, 1, 4, [.int .i32 0], false⟩ := rfl
@[simp] theorem E_ty99 : E.ty 99 = some ⟨.strct [(0, 12), (1, 12), (2, 31), (3, 93), (4, 5), (5, 5), (6, 94), (7, 95), (8, 96), (9, 97), (10, 98)], 11, 48, [.int .u64 0, .int .u64 0, .int .u32 0, .int .u8 0, .int .u8 0, .int .u8 0, .int .u8 0, .nilf, .nilp, .int .i32 0, .int .i32 0], false⟩ := rfl
@[simp] theorem E_ty100 : E.ty 100 = some ⟨.strct [(0, 12), (1, 12), (2, 31), (3, 93), (4, 5), (5, 5), (6, 94), (7, 95), (8, 96), (9, 97), (10, 98)], 11, 48, [.int .u64 0, .int .u64 0, .int .u32 0, .int .u8 0, .int .u8 0, .int .u8 0, .int .u8 0, .nilf, .nilp, .int .i32 0, .int .i32 0], false⟩ := rfl
end TabB
