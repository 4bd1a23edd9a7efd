/- The tables of this translation for the evaluator: written by gen.py. No conditions. -/
import Derived.Test.YtalmnhdnclmhbaaAb2
set_option linter.unusedVariables false
set_option maxRecDepth 100000
namespace TabL
open Go Ab

/-- vidimus/vidimuslaw03.LengthsPut -/
def c3 : Code :=
  (.seq (.region 0 #[⟨some 2, .assign (.const (.bool false)), 4, "", #[], none⟩] false)
  (.seq (.region 1 #[⟨some 7, .move (.tmp 0), 3, "", #[], none⟩,
    ⟨some 8, .call { callee := .value (.func 13), args := #[.tmp 7], argTypes := #[3] }, 24, "", #[], none⟩,
    ⟨some 6, .move (.tmp 8), 24, "", #[], none⟩,
    ⟨some 9, .extract (.tmp 6) 0, 22, "", #[], none⟩,
    ⟨some 10, .extract (.tmp 6) 1, 23, "", #[], none⟩,
    ⟨some 3, .assign (.tmp 9), 22, "", #[], none⟩,
    ⟨some 4, .assign (.tmp 10), 23, "", #[], none⟩] false)
  (.seq (.block 0 (.seq (.region 2 #[⟨some 12, .move (.tmp 0), 3, "", #[], none⟩,
    ⟨some 13, .binOp .lss 3 (.tmp 12) (.const (.int .i64 0)) 3, 4, "", #[], none⟩,
    ⟨some 11, .assign (.tmp 13), 4, "", #[], none⟩] false)
  (.cond (.tmp 11)
    (.seq (.region 3 #[⟨some 14, .move (.tmp 3), 22, "", #[], none⟩,
      ⟨some 15, .move (.tmp 4), 23, "", #[], none⟩,
      ⟨some 16, .call { callee := .value (.func 14), args := #[.tmp 14, .tmp 15, .const (.slice none 0 0), .const (.int .i64 1)], argTypes := #[22, 23, 22, 3] }, 4, "", #[], none⟩,
      ⟨some 17, .move (.tmp 16), 4, "", #[], none⟩,
      ⟨some 18, .move (.tmp 0), 3, "", #[], some (17, true)⟩,
      ⟨some 19, .call { callee := .value (.func 15), args := #[.tmp 18], argTypes := #[3] }, 3, "", #[], some (17, true)⟩,
      ⟨some 20, .binOp .eql 3 (.tmp 19) (.const (.int .i64 0)) 3, 4, "", #[], some (17, true)⟩,
      ⟨some 21, .pick (.tmp 17) (.tmp 20) (.const (.bool false)), 4, "", #[], none⟩,
      ⟨some 22, .move (.tmp 21), 4, "", #[], none⟩,
      ⟨some 23, .call { callee := .value (.func 16), args := #[], argTypes := #[] }, 4, "", #[], some (22, true)⟩,
      ⟨some 24, .pick (.tmp 22) (.tmp 23) (.const (.bool false)), 4, "", #[], none⟩,
      ⟨some 2, .assign (.tmp 24), 4, "", #[], none⟩] false)
    .ret)
    (.seq (.region 4 #[⟨some 26, .move (.tmp 0), 3, "", #[], none⟩,
      ⟨some 27, .binOp .gtr 3 (.tmp 26) (.const (.int .i64 16777215)) 3, 4, "", #[], none⟩,
      ⟨some 25, .assign (.tmp 27), 4, "", #[], none⟩] false)
    (.cond (.tmp 25)
      (.seq (.region 5 #[⟨some 28, .move (.tmp 3), 22, "", #[], none⟩,
        ⟨some 29, .move (.tmp 4), 23, "", #[], none⟩,
        ⟨some 30, .call { callee := .value (.func 14), args := #[.tmp 28, .tmp 29, .const (.slice none 0 0), .const (.int .i64 3)], argTypes := #[22, 23, 22, 3] }, 4, "", #[], none⟩,
        ⟨some 31, .move (.tmp 30), 4, "", #[], none⟩,
        ⟨some 32, .move (.tmp 0), 3, "", #[], some (31, true)⟩,
        ⟨some 33, .call { callee := .value (.func 15), args := #[.tmp 32], argTypes := #[3] }, 3, "", #[], some (31, true)⟩,
        ⟨some 34, .binOp .eql 3 (.tmp 33) (.const (.int .i64 0)) 3, 4, "", #[], some (31, true)⟩,
        ⟨some 35, .pick (.tmp 31) (.tmp 34) (.const (.bool false)), 4, "", #[], none⟩,
        ⟨some 36, .move (.tmp 35), 4, "", #[], none⟩,
        ⟨some 37, .call { callee := .value (.func 16), args := #[], argTypes := #[] }, 4, "", #[], some (36, true)⟩,
        ⟨some 38, .pick (.tmp 36) (.tmp 37) (.const (.bool false)), 4, "", #[], none⟩,
        ⟨some 2, .assign (.tmp 38), 4, "", #[], none⟩] false)
      .ret)
      .skip)))))
  (.seq (.region 6 #[⟨some 39, .move (.tmp 0), 3, "", #[], none⟩,
    ⟨some 40, .call { callee := .value (.func 17), args := #[.tmp 39], argTypes := #[3] }, 22, "", #[], none⟩,
    ⟨some 5, .assign (.tmp 40), 22, "", #[], none⟩] false)
  (.seq (.region 7 #[⟨some 41, .move (.tmp 3), 22, "", #[], none⟩,
    ⟨some 42, .move (.tmp 4), 23, "", #[], none⟩,
    ⟨some 43, .move (.tmp 5), 22, "", #[], none⟩,
    ⟨some 44, .call { callee := .value (.func 14), args := #[.tmp 41, .tmp 42, .tmp 43, .const (.int .i64 0)], argTypes := #[22, 23, 22, 3] }, 4, "", #[], none⟩,
    ⟨some 45, .move (.tmp 44), 4, "", #[], none⟩,
    ⟨some 46, .move (.tmp 0), 3, "", #[], some (45, true)⟩,
    ⟨some 47, .call { callee := .value (.func 15), args := #[.tmp 46], argTypes := #[3] }, 3, "", #[], some (45, true)⟩,
    ⟨some 48, .move (.tmp 5), 22, "", #[], some (45, true)⟩,
    ⟨some 49, .call { callee := .builtin .len, args := #[.tmp 48], argTypes := #[22] }, 3, "", #[], some (45, true)⟩,
    ⟨some 50, .binOp .eql 3 (.tmp 47) (.tmp 49) 3, 4, "", #[], some (45, true)⟩,
    ⟨some 51, .pick (.tmp 45) (.tmp 50) (.const (.bool false)), 4, "", #[], none⟩,
    ⟨some 52, .move (.tmp 51), 4, "", #[], none⟩,
    ⟨some 53, .call { callee := .value (.func 16), args := #[], argTypes := #[] }, 4, "", #[], some (52, true)⟩,
    ⟨some 54, .pick (.tmp 52) (.tmp 53) (.const (.bool false)), 4, "", #[], none⟩,
    ⟨some 2, .assign (.tmp 54), 4, "", #[], none⟩] false)
  .ret)))))
def fn3 : AFn := { ntmps := 55, results := [.tmp 2], body := c3, keep := fun | 0 => some [0, 18, 19, 20, 23, 32, 33, 34, 37, 46, 47, 48, 49, 50, 53] | 1 => some [0, 3, 4, 18, 19, 20, 23, 32, 33, 34, 37, 46, 47, 48, 49, 50, 53] | 2 => some [0, 3, 4, 11, 18, 19, 20, 23, 32, 33, 34, 37, 46, 47, 48, 49, 50, 53] | 3 => some [2] | 4 => some [0, 3, 4, 25, 32, 33, 34, 37, 46, 47, 48, 49, 50, 53] | 5 => some [2] | 6 => some [0, 3, 4, 5, 46, 47, 48, 49, 50, 53] | 7 => some [2] | _ => none, head := fun  | _ => none }
/-- vidimus/vidimuslaw03.LengthsBack -/
def c4 : Code :=
  (.seq (.region 0 #[⟨some 6, .assign (.const (.bool false)), 4, "", #[], none⟩] false)
  (.seq (.seq (.region 1 #[⟨some 10, .move (.tmp 1), 22, "", #[], none⟩,
    ⟨some 11, .call { callee := .builtin .len, args := #[.tmp 10], argTypes := #[22] }, 3, "", #[], none⟩,
    ⟨some 12, .binOp .gtr 3 (.tmp 11) (.const (.int .i64 10)) 3, 4, "", #[], none⟩] false)
  (.cond (.tmp 12)
    (.seq (.region 2 #[⟨some 13, .call { callee := .value (.func 16), args := #[], argTypes := #[] }, 4, "", #[], none⟩,
      ⟨some 6, .assign (.tmp 13), 4, "", #[], none⟩] false)
    .ret)
    .skip))
  (.seq (.region 3 #[⟨some 14, .move (.tmp 0), 31, "", #[], none⟩,
    ⟨some 15, .binOp .rem 31 (.tmp 14) (.const (.int .u32 16777216)) 31, 31, "", #[], none⟩,
    ⟨some 16, .convert 31 3 (.tmp 15), 3, "", #[], none⟩,
    ⟨some 7, .assign (.tmp 16), 3, "", #[], none⟩] false)
  (.seq (.region 4 #[⟨some 18, .move (.tmp 7), 3, "", #[], none⟩,
    ⟨some 19, .call { callee := .value (.func 13), args := #[.tmp 18], argTypes := #[3] }, 24, "", #[], none⟩,
    ⟨some 17, .move (.tmp 19), 24, "", #[], none⟩,
    ⟨some 20, .extract (.tmp 17) 0, 22, "", #[], none⟩,
    ⟨some 21, .extract (.tmp 17) 1, 23, "", #[], none⟩,
    ⟨some 8, .assign (.tmp 20), 22, "", #[], none⟩,
    ⟨some 9, .assign (.tmp 21), 23, "", #[], none⟩] false)
  (.seq (.seq (.region 5 #[⟨some 22, .move (.tmp 9), 23, "", #[], none⟩,
    ⟨some 23, .binOp .neq 23 (.tmp 22) (.const (.int .i64 0)) 23, 4, "", #[], none⟩,
    ⟨some 24, .move (.tmp 23), 4, "", #[], none⟩,
    ⟨some 25, .move (.tmp 8), 22, "", #[], some (24, false)⟩,
    ⟨some 26, .call { callee := .builtin .len, args := #[.tmp 25], argTypes := #[22] }, 3, "", #[], some (24, false)⟩,
    ⟨some 27, .binOp .eql 3 (.tmp 26) (.const (.int .i64 0)) 3, 4, "", #[], some (24, false)⟩,
    ⟨some 28, .pick (.tmp 24) (.const (.bool true)) (.tmp 27), 4, "", #[], none⟩,
    ⟨some 29, .move (.tmp 28), 4, "", #[], none⟩,
    ⟨some 30, .move (.tmp 8), 22, "", #[], some (29, false)⟩,
    ⟨some 31, .call { callee := .builtin .len, args := #[.tmp 30], argTypes := #[22] }, 3, "", #[], some (29, false)⟩,
    ⟨some 32, .binOp .gtr 3 (.tmp 31) (.const (.int .i64 4)) 3, 4, "", #[], some (29, false)⟩,
    ⟨some 33, .pick (.tmp 29) (.const (.bool true)) (.tmp 32), 4, "", #[], none⟩,
    ⟨some 34, .move (.tmp 33), 4, "", #[], none⟩,
    ⟨some 35, .buildSlice 22 0 #[], 22, "", #[], some (34, false)⟩,
    ⟨some 36, .move (.tmp 8), 22, "", #[], some (34, false)⟩,
    ⟨some 37, .call { callee := .builtin .append, args := #[.tmp 35, .tmp 36], argTypes := #[22, 22] }, 22, "", #[], some (34, false)⟩,
    ⟨some 38, .move (.tmp 1), 22, "", #[], some (34, false)⟩,
    ⟨some 39, .call { callee := .builtin .append, args := #[.tmp 37, .tmp 38], argTypes := #[22, 22] }, 22, "", #[], some (34, false)⟩,
    ⟨some 40, .move (.tmp 7), 3, "", #[], some (34, false)⟩,
    ⟨some 41, .move (.tmp 8), 22, "", #[], some (34, false)⟩,
    ⟨some 42, .call { callee := .builtin .len, args := #[.tmp 41], argTypes := #[22] }, 3, "", #[], some (34, false)⟩,
    ⟨some 43, .call { callee := .value (.func 18), args := #[.tmp 39, .tmp 40, .tmp 42, .const (.int .i64 0)], argTypes := #[22, 3, 3, 3] }, 4, "", #[], some (34, false)⟩,
    ⟨some 44, .unOp .not 4 (.tmp 43), 4, "", #[], some (34, false)⟩,
    ⟨some 45, .pick (.tmp 34) (.const (.bool true)) (.tmp 44), 4, "", #[], none⟩] false)
  (.cond (.tmp 45)
    (.seq (.region 6 #[⟨some 6, .assign (.const (.bool false)), 4, "", #[], none⟩] false)
    .ret)
    .skip))
  (.seq (.region 7 #[⟨some 46, .move (.tmp 8), 22, "", #[], none⟩,
    ⟨some 47, .move (.tmp 2), 5, "", #[], none⟩,
    ⟨some 48, .convert 5 3 (.tmp 47), 3, "", #[], none⟩,
    ⟨some 49, .move (.tmp 8), 22, "", #[], none⟩,
    ⟨some 50, .call { callee := .builtin .len, args := #[.tmp 49], argTypes := #[22] }, 3, "", #[], none⟩,
    ⟨some 51, .binOp .rem 3 (.tmp 48) (.tmp 50) 3, 3, "", #[], none⟩,
    ⟨some 52, .slice 22 (.tmp 46) none (some (.tmp 51)) none, 22, "", #[], none⟩,
    ⟨some 53, .call { callee := .value (.func 18), args := #[.tmp 52, .const (.int .i64 0), .const (.int .i64 0), .const (.int .i64 7)], argTypes := #[22, 3, 3, 3] }, 4, "", #[], none⟩,
    ⟨some 54, .move (.tmp 53), 4, "", #[], none⟩,
    ⟨some 55, .call { callee := .value (.func 16), args := #[], argTypes := #[] }, 4, "", #[], some (54, true)⟩,
    ⟨some 56, .pick (.tmp 54) (.tmp 55) (.const (.bool false)), 4, "", #[], none⟩,
    ⟨some 6, .assign (.tmp 56), 4, "", #[], none⟩] false)
  .ret))))))
def fn4 : AFn := { ntmps := 57, results := [.tmp 6], body := c4, keep := fun | 0 => some [0, 1, 2, 25, 26, 27, 30, 31, 32, 35, 36, 37, 38, 39, 40, 41, 42, 43, 44, 55] | 1 => some [0, 1, 2, 12, 25, 26, 27, 30, 31, 32, 35, 36, 37, 38, 39, 40, 41, 42, 43, 44, 55] | 2 => some [6] | 3 => some [1, 2, 7, 25, 26, 27, 30, 31, 32, 35, 36, 37, 38, 39, 40, 41, 42, 43, 44, 55] | 4 => some [1, 2, 7, 8, 9, 25, 26, 27, 30, 31, 32, 35, 36, 37, 38, 39, 40, 41, 42, 43, 44, 55] | 5 => some [2, 8, 45, 55] | 6 => some [6] | 7 => some [6] | _ => none, head := fun  | _ => none }
/-- vidimus/vidimuslaw03.LengthsGet -/
def c5 : Code :=
  (.seq (.region 0 #[⟨some 2, .assign (.const (.bool false)), 4, "", #[], none⟩] false)
  (.seq (.seq (.region 1 #[⟨some 8, .move (.tmp 0), 22, "", #[], none⟩,
    ⟨some 9, .call { callee := .builtin .len, args := #[.tmp 8], argTypes := #[22] }, 3, "", #[], none⟩,
    ⟨some 10, .binOp .gtr 3 (.tmp 9) (.const (.int .i64 10)) 3, 4, "", #[], none⟩] false)
  (.cond (.tmp 10)
    (.seq (.region 2 #[⟨some 11, .call { callee := .value (.func 16), args := #[], argTypes := #[] }, 4, "", #[], none⟩,
      ⟨some 2, .assign (.tmp 11), 4, "", #[], none⟩] false)
    .ret)
    .skip))
  (.seq (.region 3 #[⟨some 13, .move (.tmp 0), 22, "", #[], none⟩,
    ⟨some 14, .call { callee := .value (.func 19), args := #[.tmp 13], argTypes := #[22] }, 34, "", #[], none⟩,
    ⟨some 12, .move (.tmp 14), 34, "", #[], none⟩,
    ⟨some 15, .extract (.tmp 12) 0, 3, "", #[], none⟩,
    ⟨some 16, .extract (.tmp 12) 1, 3, "", #[], none⟩,
    ⟨some 17, .extract (.tmp 12) 2, 3, "", #[], none⟩,
    ⟨some 3, .assign (.tmp 15), 3, "", #[], none⟩,
    ⟨some 4, .assign (.tmp 16), 3, "", #[], none⟩,
    ⟨some 5, .assign (.tmp 17), 3, "", #[], none⟩] false)
  (.seq (.seq (.region 4 #[⟨some 18, .move (.tmp 0), 22, "", #[], none⟩,
    ⟨some 19, .move (.tmp 3), 3, "", #[], none⟩,
    ⟨some 20, .move (.tmp 4), 3, "", #[], none⟩,
    ⟨some 21, .move (.tmp 5), 3, "", #[], none⟩,
    ⟨some 22, .call { callee := .value (.func 18), args := #[.tmp 18, .tmp 19, .tmp 20, .tmp 21], argTypes := #[22, 3, 3, 3] }, 4, "", #[], none⟩,
    ⟨some 23, .unOp .not 4 (.tmp 22), 4, "", #[], none⟩] false)
  (.cond (.tmp 23)
    (.seq (.region 5 #[⟨some 2, .assign (.const (.bool false)), 4, "", #[], none⟩] false)
    .ret)
    .skip))
  (.seq (.seq (.region 6 #[⟨some 24, .move (.tmp 5), 3, "", #[], none⟩,
    ⟨some 25, .binOp .neq 3 (.tmp 24) (.const (.int .i64 0)) 3, 4, "", #[], none⟩] false)
  (.cond (.tmp 25)
    (.seq (.region 7 #[⟨some 26, .call { callee := .value (.func 16), args := #[], argTypes := #[] }, 4, "", #[], none⟩,
      ⟨some 2, .assign (.tmp 26), 4, "", #[], none⟩] false)
    .ret)
    .skip))
  (.seq (.region 8 #[⟨some 28, .move (.tmp 3), 3, "", #[], none⟩,
    ⟨some 29, .call { callee := .value (.func 13), args := #[.tmp 28], argTypes := #[3] }, 24, "", #[], none⟩,
    ⟨some 27, .move (.tmp 29), 24, "", #[], none⟩,
    ⟨some 30, .extract (.tmp 27) 0, 22, "", #[], none⟩,
    ⟨some 31, .extract (.tmp 27) 1, 23, "", #[], none⟩,
    ⟨some 6, .assign (.tmp 30), 22, "", #[], none⟩,
    ⟨some 7, .assign (.tmp 31), 23, "", #[], none⟩] false)
  (.seq (.region 9 #[⟨some 32, .move (.tmp 6), 22, "", #[], none⟩,
    ⟨some 33, .move (.tmp 7), 23, "", #[], none⟩,
    ⟨some 34, .move (.tmp 0), 22, "", #[], none⟩,
    ⟨some 35, .move (.tmp 4), 3, "", #[], none⟩,
    ⟨some 36, .slice 22 (.tmp 34) none (some (.tmp 35)) none, 22, "", #[], none⟩,
    ⟨some 37, .call { callee := .value (.func 14), args := #[.tmp 32, .tmp 33, .tmp 36, .const (.int .i64 0)], argTypes := #[22, 23, 22, 3] }, 4, "", #[], none⟩,
    ⟨some 38, .move (.tmp 37), 4, "", #[], none⟩,
    ⟨some 39, .call { callee := .value (.func 16), args := #[], argTypes := #[] }, 4, "", #[], some (38, true)⟩,
    ⟨some 40, .pick (.tmp 38) (.tmp 39) (.const (.bool false)), 4, "", #[], none⟩,
    ⟨some 2, .assign (.tmp 40), 4, "", #[], none⟩] false)
  .ret)))))))
def fn5 : AFn := { ntmps := 41, results := [.tmp 2], body := c5, keep := fun | 0 => some [0, 39] | 1 => some [0, 10, 39] | 2 => some [2] | 3 => some [0, 3, 4, 5, 39] | 4 => some [0, 3, 4, 5, 23, 39] | 5 => some [2] | 6 => some [0, 3, 4, 25, 39] | 7 => some [2] | 8 => some [0, 4, 6, 7, 39] | 9 => some [2] | _ => none, head := fun  | _ => none }
/-- vidimus/vidimuslaw03.LengthsOrder -/
def c6 : Code :=
  (.seq (.region 0 #[⟨some 6, .assign (.const (.bool false)), 4, "", #[], none⟩] false)
  (.seq (.region 1 #[⟨some 11, .move (.tmp 0), 31, "", #[], none⟩,
    ⟨some 12, .binOp .rem 31 (.tmp 11) (.const (.int .u32 16777216)) 31, 31, "", #[], none⟩,
    ⟨some 13, .convert 31 3 (.tmp 12), 3, "", #[], none⟩,
    ⟨some 14, .move (.tmp 1), 31, "", #[], none⟩,
    ⟨some 15, .binOp .rem 31 (.tmp 14) (.const (.int .u32 16777216)) 31, 31, "", #[], none⟩,
    ⟨some 16, .convert 31 3 (.tmp 15), 3, "", #[], none⟩,
    ⟨some 7, .assign (.tmp 13), 3, "", #[], none⟩,
    ⟨some 8, .assign (.tmp 16), 3, "", #[], none⟩] false)
  (.seq (.seq (.region 2 #[⟨some 17, .move (.tmp 7), 3, "", #[], none⟩,
    ⟨some 18, .move (.tmp 8), 3, "", #[], none⟩,
    ⟨some 19, .binOp .gtr 3 (.tmp 17) (.tmp 18) 3, 4, "", #[], none⟩] false)
  (.cond (.tmp 19)
    (.region 3 #[⟨some 20, .move (.tmp 8), 3, "", #[], none⟩,
      ⟨some 21, .move (.tmp 7), 3, "", #[], none⟩,
      ⟨some 7, .assign (.tmp 20), 3, "", #[], none⟩,
      ⟨some 8, .assign (.tmp 21), 3, "", #[], none⟩] false)
    .skip))
  (.seq (.region 4 #[⟨some 22, .move (.tmp 2), 3, "", #[], none⟩,
    ⟨some 23, .move (.tmp 7), 3, "", #[], none⟩,
    ⟨some 24, .call { callee := .value (.func 20), args := #[.tmp 22, .tmp 23], argTypes := #[3, 3] }, 3, "", #[], none⟩,
    ⟨some 25, .move (.tmp 2), 3, "", #[], none⟩,
    ⟨some 26, .move (.tmp 8), 3, "", #[], none⟩,
    ⟨some 27, .call { callee := .value (.func 20), args := #[.tmp 25, .tmp 26], argTypes := #[3, 3] }, 3, "", #[], none⟩,
    ⟨some 9, .assign (.tmp 24), 3, "", #[], none⟩,
    ⟨some 10, .assign (.tmp 27), 3, "", #[], none⟩] false)
  (.seq (.seq (.region 5 #[⟨some 28, .move (.tmp 2), 3, "", #[], none⟩,
    ⟨some 29, .binOp .lss 3 (.tmp 28) (.const (.int .i64 1)) 3, 4, "", #[], none⟩,
    ⟨some 30, .move (.tmp 29), 4, "", #[], none⟩,
    ⟨some 31, .move (.tmp 2), 3, "", #[], some (30, false)⟩,
    ⟨some 32, .binOp .gtr 3 (.tmp 31) (.const (.int .i64 5)) 3, 4, "", #[], some (30, false)⟩,
    ⟨some 33, .pick (.tmp 30) (.const (.bool true)) (.tmp 32), 4, "", #[], none⟩] false)
  (.cond (.tmp 33)
    (.seq (.region 6 #[⟨some 34, .move (.tmp 9), 3, "", #[], none⟩,
      ⟨some 35, .binOp .eql 3 (.tmp 34) (.const (.int .i64 0)) 3, 4, "", #[], none⟩,
      ⟨some 36, .move (.tmp 35), 4, "", #[], none⟩,
      ⟨some 37, .move (.tmp 10), 3, "", #[], some (36, true)⟩,
      ⟨some 38, .binOp .eql 3 (.tmp 37) (.const (.int .i64 0)) 3, 4, "", #[], some (36, true)⟩,
      ⟨some 39, .pick (.tmp 36) (.tmp 38) (.const (.bool false)), 4, "", #[], none⟩,
      ⟨some 40, .move (.tmp 39), 4, "", #[], none⟩,
      ⟨some 41, .call { callee := .value (.func 16), args := #[], argTypes := #[] }, 4, "", #[], some (40, true)⟩,
      ⟨some 42, .pick (.tmp 40) (.tmp 41) (.const (.bool false)), 4, "", #[], none⟩,
      ⟨some 6, .assign (.tmp 42), 4, "", #[], none⟩] false)
    .ret)
    .skip))
  (.seq (.region 7 #[⟨some 43, .move (.tmp 7), 3, "", #[], none⟩,
    ⟨some 44, .call { callee := .value (.func 15), args := #[.tmp 43], argTypes := #[3] }, 3, "", #[], none⟩,
    ⟨some 45, .move (.tmp 8), 3, "", #[], none⟩,
    ⟨some 46, .call { callee := .value (.func 15), args := #[.tmp 45], argTypes := #[3] }, 3, "", #[], none⟩,
    ⟨some 47, .binOp .leq 3 (.tmp 44) (.tmp 46) 3, 4, "", #[], none⟩,
    ⟨some 48, .move (.tmp 47), 4, "", #[], none⟩,
    ⟨some 49, .move (.tmp 9), 3, "", #[], some (48, true)⟩,
    ⟨some 50, .move (.tmp 2), 3, "", #[], some (48, true)⟩,
    ⟨some 51, .move (.tmp 7), 3, "", #[], some (48, true)⟩,
    ⟨some 52, .call { callee := .value (.func 15), args := #[.tmp 51], argTypes := #[3] }, 3, "", #[], some (48, true)⟩,
    ⟨some 53, .binOp .add 3 (.tmp 50) (.tmp 52) 3, 3, "", #[], some (48, true)⟩,
    ⟨some 54, .move (.tmp 7), 3, "", #[], some (48, true)⟩,
    ⟨some 55, .binOp .add 3 (.tmp 53) (.tmp 54) 3, 3, "", #[], some (48, true)⟩,
    ⟨some 56, .binOp .eql 3 (.tmp 49) (.tmp 55) 3, 4, "", #[], some (48, true)⟩,
    ⟨some 57, .pick (.tmp 48) (.tmp 56) (.const (.bool false)), 4, "", #[], none⟩,
    ⟨some 58, .move (.tmp 57), 4, "", #[], none⟩,
    ⟨some 59, .move (.tmp 7), 3, "", #[], some (58, true)⟩,
    ⟨some 60, .move (.tmp 8), 3, "", #[], some (58, true)⟩,
    ⟨some 61, .binOp .eql 3 (.tmp 59) (.tmp 60) 3, 4, "", #[], some (58, true)⟩,
    ⟨some 62, .move (.tmp 9), 3, "", #[], some (58, true)⟩,
    ⟨some 63, .move (.tmp 10), 3, "", #[], some (58, true)⟩,
    ⟨some 64, .binOp .eql 3 (.tmp 62) (.tmp 63) 3, 4, "", #[], some (58, true)⟩,
    ⟨some 65, .binOp .eql 4 (.tmp 61) (.tmp 64) 4, 4, "", #[], some (58, true)⟩,
    ⟨some 66, .pick (.tmp 58) (.tmp 65) (.const (.bool false)), 4, "", #[], none⟩,
    ⟨some 67, .move (.tmp 66), 4, "", #[], none⟩,
    ⟨some 68, .move (.tmp 9), 3, "", #[], some (67, true)⟩,
    ⟨some 69, .move (.tmp 10), 3, "", #[], some (67, true)⟩,
    ⟨some 70, .binOp .leq 3 (.tmp 68) (.tmp 69) 3, 4, "", #[], some (67, true)⟩,
    ⟨some 71, .pick (.tmp 67) (.tmp 70) (.const (.bool false)), 4, "", #[], none⟩,
    ⟨some 72, .move (.tmp 71), 4, "", #[], none⟩,
    ⟨some 73, .move (.tmp 2), 3, "", #[], some (72, true)⟩,
    ⟨some 74, .move (.tmp 7), 3, "", #[], some (72, true)⟩,
    ⟨some 75, .binOp .sub 3 (.const (.int .i64 (-1))) (.tmp 74) 3, 3, "", #[], some (72, true)⟩,
    ⟨some 76, .call { callee := .value (.func 20), args := #[.tmp 73, .tmp 75], argTypes := #[3, 3] }, 3, "", #[], some (72, true)⟩,
    ⟨some 77, .binOp .eql 3 (.tmp 76) (.const (.int .i64 0)) 3, 4, "", #[], some (72, true)⟩,
    ⟨some 78, .pick (.tmp 72) (.tmp 77) (.const (.bool false)), 4, "", #[], none⟩,
    ⟨some 79, .move (.tmp 78), 4, "", #[], none⟩,
    ⟨some 80, .call { callee := .value (.func 16), args := #[], argTypes := #[] }, 4, "", #[], some (79, true)⟩,
    ⟨some 81, .pick (.tmp 79) (.tmp 80) (.const (.bool false)), 4, "", #[], none⟩,
    ⟨some 6, .assign (.tmp 81), 4, "", #[], none⟩] false)
  .ret))))))
def fn6 : AFn := { ntmps := 82, results := [.tmp 6], body := c6, keep := fun | 0 => some [0, 1, 2, 31, 32, 37, 38, 41, 49, 50, 51, 52, 53, 54, 55, 56, 59, 60, 61, 62, 63, 64, 65, 68, 69, 70, 73, 74, 75, 76, 77, 80] | 1 => some [2, 7, 8, 31, 32, 37, 38, 41, 49, 50, 51, 52, 53, 54, 55, 56, 59, 60, 61, 62, 63, 64, 65, 68, 69, 70, 73, 74, 75, 76, 77, 80] | 2 => some [2, 7, 8, 19, 31, 32, 37, 38, 41, 49, 50, 51, 52, 53, 54, 55, 56, 59, 60, 61, 62, 63, 64, 65, 68, 69, 70, 73, 74, 75, 76, 77, 80] | 3 => some [2, 7, 8, 31, 32, 37, 38, 41, 49, 50, 51, 52, 53, 54, 55, 56, 59, 60, 61, 62, 63, 64, 65, 68, 69, 70, 73, 74, 75, 76, 77, 80] | 4 => some [2, 7, 8, 9, 10, 31, 32, 37, 38, 41, 49, 50, 51, 52, 53, 54, 55, 56, 59, 60, 61, 62, 63, 64, 65, 68, 69, 70, 73, 74, 75, 76, 77, 80] | 5 => some [2, 7, 8, 9, 10, 33, 37, 38, 41, 49, 50, 51, 52, 53, 54, 55, 56, 59, 60, 61, 62, 63, 64, 65, 68, 69, 70, 73, 74, 75, 76, 77, 80] | 6 => some [6] | 7 => some [6] | _ => none, head := fun  | _ => none }
/-- vidimus/vidimuslaw03.LengthsKnown -/
def c7 : Code :=
  (.seq (.region 0 #[⟨some 0, .assign (.const (.bool false)), 4, "", #[], none⟩] false)
  (.seq (.region 1 #[⟨some 5, .buildSlice 39 8 #[(0, .const (.int .i64 0)), (1, .const (.int .i64 127)), (2, .const (.int .i64 128)), (3, .const (.int .i64 255)), (4, .const (.int .i64 256)), (5, .const (.int .i64 65535)), (6, .const (.int .i64 65536)), (7, .const (.int .i64 16777215))], 39, "", #[], none⟩,
    ⟨some 1, .assign (.tmp 5), 39, "", #[], none⟩] false)
  (.seq (.region 2 #[⟨some 6, .buildSlice 39 8 #[(0, .const (.int .i64 1)), (1, .const (.int .i64 1)), (2, .const (.int .i64 2)), (3, .const (.int .i64 2)), (4, .const (.int .i64 3)), (5, .const (.int .i64 3)), (6, .const (.int .i64 4)), (7, .const (.int .i64 4))], 39, "", #[], none⟩,
    ⟨some 2, .assign (.tmp 6), 39, "", #[], none⟩] false)
  (.seq (.seq (.region 3 #[⟨some 3, .assign (.const (.int .i64 0)), 3, "", #[], none⟩] false)
  (.block 0 (.loop (.seq (.seq (.region 4 #[⟨some 7, .move (.tmp 3), 3, "", #[], none⟩,
    ⟨some 8, .move (.tmp 1), 39, "", #[], none⟩,
    ⟨some 9, .call { callee := .builtin .len, args := #[.tmp 8], argTypes := #[39] }, 3, "", #[], none⟩,
    ⟨some 10, .binOp .lss 3 (.tmp 7) (.tmp 9) 3, 4, "", #[], none⟩] false)
  (.cond (.tmp 10)
    .skip
    (.exit 0)))
  (.seq (.block 1 (.seq (.region 6 #[⟨some 13, .move (.tmp 1), 39, "", #[], none⟩,
    ⟨some 14, .move (.tmp 3), 3, "", #[], none⟩,
    ⟨some 15, .indexAddr 39 (.tmp 13) (.tmp 14), 0, "", #[], none⟩,
    ⟨some 16, .load 3 (.tmp 15), 3, "", #[], none⟩,
    ⟨some 17, .call { callee := .value (.func 15), args := #[.tmp 16], argTypes := #[3] }, 3, "", #[], none⟩,
    ⟨some 18, .move (.tmp 2), 39, "", #[], none⟩,
    ⟨some 19, .move (.tmp 3), 3, "", #[], none⟩,
    ⟨some 20, .indexAddr 39 (.tmp 18) (.tmp 19), 0, "", #[], none⟩,
    ⟨some 21, .load 3 (.tmp 20), 3, "", #[], none⟩,
    ⟨some 22, .binOp .neq 3 (.tmp 17) (.tmp 21) 3, 4, "", #[], none⟩,
    ⟨some 23, .move (.tmp 22), 4, "", #[], none⟩,
    ⟨some 24, .move (.tmp 1), 39, "", #[], some (23, false)⟩,
    ⟨some 25, .move (.tmp 3), 3, "", #[], some (23, false)⟩,
    ⟨some 26, .indexAddr 39 (.tmp 24) (.tmp 25), 0, "", #[], some (23, false)⟩,
    ⟨some 27, .load 3 (.tmp 26), 3, "", #[], some (23, false)⟩,
    ⟨some 28, .call { callee := .value (.func 20), args := #[.const (.int .i64 5), .tmp 27], argTypes := #[3, 3] }, 3, "", #[], some (23, false)⟩,
    ⟨some 29, .move (.tmp 2), 39, "", #[], some (23, false)⟩,
    ⟨some 30, .move (.tmp 3), 3, "", #[], some (23, false)⟩,
    ⟨some 31, .indexAddr 39 (.tmp 29) (.tmp 30), 0, "", #[], some (23, false)⟩,
    ⟨some 32, .load 3 (.tmp 31), 3, "", #[], some (23, false)⟩,
    ⟨some 33, .binOp .add 3 (.const (.int .i64 5)) (.tmp 32) 3, 3, "", #[], some (23, false)⟩,
    ⟨some 34, .move (.tmp 1), 39, "", #[], some (23, false)⟩,
    ⟨some 35, .move (.tmp 3), 3, "", #[], some (23, false)⟩,
    ⟨some 36, .indexAddr 39 (.tmp 34) (.tmp 35), 0, "", #[], some (23, false)⟩,
    ⟨some 37, .load 3 (.tmp 36), 3, "", #[], some (23, false)⟩,
    ⟨some 38, .binOp .add 3 (.tmp 33) (.tmp 37) 3, 3, "", #[], some (23, false)⟩,
    ⟨some 39, .binOp .neq 3 (.tmp 28) (.tmp 38) 3, 4, "", #[], some (23, false)⟩,
    ⟨some 40, .pick (.tmp 23) (.const (.bool true)) (.tmp 39), 4, "", #[], none⟩,
    ⟨some 41, .move (.tmp 40), 4, "", #[], none⟩,
    ⟨some 42, .move (.tmp 1), 39, "", #[], some (41, false)⟩,
    ⟨some 43, .move (.tmp 3), 3, "", #[], some (41, false)⟩,
    ⟨some 44, .indexAddr 39 (.tmp 42) (.tmp 43), 0, "", #[], some (41, false)⟩,
    ⟨some 45, .load 3 (.tmp 44), 3, "", #[], some (41, false)⟩,
    ⟨some 46, .call { callee := .value (.func 3), args := #[.tmp 45], argTypes := #[3] }, 4, "", #[], some (41, false)⟩,
    ⟨some 47, .unOp .not 4 (.tmp 46), 4, "", #[], some (41, false)⟩,
    ⟨some 48, .pick (.tmp 41) (.const (.bool true)) (.tmp 47), 4, "", #[], none⟩,
    ⟨some 49, .move (.tmp 48), 4, "", #[], none⟩,
    ⟨some 50, .move (.tmp 1), 39, "", #[], some (49, false)⟩,
    ⟨some 51, .move (.tmp 3), 3, "", #[], some (49, false)⟩,
    ⟨some 52, .indexAddr 39 (.tmp 50) (.tmp 51), 0, "", #[], some (49, false)⟩,
    ⟨some 53, .load 3 (.tmp 52), 3, "", #[], some (49, false)⟩,
    ⟨some 54, .convert 3 31 (.tmp 53), 31, "", #[], some (49, false)⟩,
    ⟨some 55, .call { callee := .value (.func 4), args := #[.tmp 54, .const (.slice none 0 0), .const (.int .u8 0)], argTypes := #[31, 22, 5] }, 4, "", #[], some (49, false)⟩,
    ⟨some 56, .unOp .not 4 (.tmp 55), 4, "", #[], some (49, false)⟩,
    ⟨some 57, .pick (.tmp 49) (.const (.bool true)) (.tmp 56), 4, "", #[], none⟩] true)
  (.cond (.tmp 57)
    (.seq (.region 7 #[⟨some 0, .assign (.const (.bool false)), 4, "", #[], none⟩] false)
    .ret)
    .skip)))
  (.region 5 #[⟨some 11, .move (.tmp 3), 3, "", #[], none⟩,
    ⟨some 12, .binOp .add 3 (.tmp 11) (.const (.int .i64 1)) 3, 3, "", #[], none⟩,
    ⟨some 3, .assign (.tmp 12), 3, "", #[], none⟩] false))))))
  (.seq (.seq (.region 8 #[⟨some 4, .assign (.const (.int .i64 0)), 3, "", #[], none⟩] false)
  (.block 2 (.loop (.seq (.seq (.region 9 #[⟨some 58, .move (.tmp 4), 3, "", #[], none⟩,
    ⟨some 59, .binOp .lss 3 (.tmp 58) (.const (.int .i64 256)) 3, 4, "", #[], none⟩] false)
  (.cond (.tmp 59)
    .skip
    (.exit 2)))
  (.seq (.block 3 (.seq (.region 11 #[⟨some 62, .move (.tmp 4), 3, "", #[], none⟩,
    ⟨some 63, .convert 3 5 (.tmp 62), 5, "", #[], none⟩,
    ⟨some 64, .buildSlice 22 1 #[(0, .tmp 63)], 22, "", #[], none⟩,
    ⟨some 65, .call { callee := .value (.func 5), args := #[.tmp 64], argTypes := #[22] }, 4, "", #[], none⟩,
    ⟨some 66, .unOp .not 4 (.tmp 65), 4, "", #[], none⟩,
    ⟨some 67, .move (.tmp 66), 4, "", #[], none⟩,
    ⟨some 68, .move (.tmp 4), 3, "", #[], some (67, false)⟩,
    ⟨some 69, .convert 3 5 (.tmp 68), 5, "", #[], some (67, false)⟩,
    ⟨some 70, .buildSlice 22 4 #[(0, .tmp 69), (1, .const (.int .u8 0)), (2, .const (.int .u8 1)), (3, .const (.int .u8 2))], 22, "", #[], some (67, false)⟩,
    ⟨some 71, .call { callee := .value (.func 5), args := #[.tmp 70], argTypes := #[22] }, 4, "", #[], some (67, false)⟩,
    ⟨some 72, .unOp .not 4 (.tmp 71), 4, "", #[], some (67, false)⟩,
    ⟨some 73, .pick (.tmp 67) (.const (.bool true)) (.tmp 72), 4, "", #[], none⟩,
    ⟨some 74, .move (.tmp 73), 4, "", #[], none⟩,
    ⟨some 75, .move (.tmp 4), 3, "", #[], some (74, false)⟩,
    ⟨some 76, .convert 3 5 (.tmp 75), 5, "", #[], some (74, false)⟩,
    ⟨some 77, .buildSlice 22 5 #[(0, .tmp 76), (1, .const (.int .u8 200)), (2, .const (.int .u8 1)), (3, .const (.int .u8 2)), (4, .const (.int .u8 3))], 22, "", #[], some (74, false)⟩,
    ⟨some 78, .call { callee := .value (.func 5), args := #[.tmp 77], argTypes := #[22] }, 4, "", #[], some (74, false)⟩,
    ⟨some 79, .unOp .not 4 (.tmp 78), 4, "", #[], some (74, false)⟩,
    ⟨some 80, .pick (.tmp 74) (.const (.bool true)) (.tmp 79), 4, "", #[], none⟩] false)
  (.cond (.tmp 80)
    (.seq (.region 12 #[⟨some 0, .assign (.const (.bool false)), 4, "", #[], none⟩] false)
    .ret)
    .skip)))
  (.region 10 #[⟨some 60, .move (.tmp 4), 3, "", #[], none⟩,
    ⟨some 61, .binOp .add 3 (.tmp 60) (.const (.int .i64 1)) 3, 3, "", #[], none⟩,
    ⟨some 4, .assign (.tmp 61), 3, "", #[], none⟩] false))))))
  (.seq (.region 13 #[⟨some 81, .call { callee := .value (.func 15), args := #[.const (.int .i64 (-1))], argTypes := #[3] }, 3, "", #[], none⟩,
    ⟨some 82, .binOp .eql 3 (.tmp 81) (.const (.int .i64 0)) 3, 4, "", #[], none⟩,
    ⟨some 83, .move (.tmp 82), 4, "", #[], none⟩,
    ⟨some 84, .call { callee := .value (.func 15), args := #[.const (.int .i64 16777216)], argTypes := #[3] }, 3, "", #[], some (83, true)⟩,
    ⟨some 85, .binOp .eql 3 (.tmp 84) (.const (.int .i64 0)) 3, 4, "", #[], some (83, true)⟩,
    ⟨some 86, .pick (.tmp 83) (.tmp 85) (.const (.bool false)), 4, "", #[], none⟩,
    ⟨some 87, .move (.tmp 86), 4, "", #[], none⟩,
    ⟨some 88, .call { callee := .value (.func 20), args := #[.const (.int .i64 1), .const (.int .i64 16777216)], argTypes := #[3, 3] }, 3, "", #[], some (87, true)⟩,
    ⟨some 89, .binOp .eql 3 (.tmp 88) (.const (.int .i64 0)) 3, 4, "", #[], some (87, true)⟩,
    ⟨some 90, .pick (.tmp 87) (.tmp 89) (.const (.bool false)), 4, "", #[], none⟩,
    ⟨some 91, .move (.tmp 90), 4, "", #[], none⟩,
    ⟨some 92, .call { callee := .value (.func 16), args := #[], argTypes := #[] }, 4, "", #[], some (91, true)⟩,
    ⟨some 93, .pick (.tmp 91) (.tmp 92) (.const (.bool false)), 4, "", #[], none⟩,
    ⟨some 0, .assign (.tmp 93), 4, "", #[], none⟩] false)
  .ret))))))
def fn7 : AFn := { ntmps := 94, results := [.tmp 0], body := c7, keep := fun | 0 => some [24, 25, 26, 27, 28, 29, 30, 31, 32, 33, 34, 35, 36, 37, 38, 39, 42, 43, 44, 45, 46, 47, 50, 51, 52, 53, 54, 55, 56, 68, 69, 70, 71, 72, 75, 76, 77, 78, 79, 84, 85, 88, 89, 92] | 1 => some [1, 24, 25, 26, 27, 28, 29, 30, 31, 32, 33, 34, 35, 36, 37, 38, 39, 42, 43, 44, 45, 46, 47, 50, 51, 52, 53, 54, 55, 56, 68, 69, 70, 71, 72, 75, 76, 77, 78, 79, 84, 85, 88, 89, 92] | 2 => some [1, 2, 24, 25, 26, 27, 28, 29, 30, 31, 32, 33, 34, 35, 36, 37, 38, 39, 42, 43, 44, 45, 46, 47, 50, 51, 52, 53, 54, 55, 56, 68, 69, 70, 71, 72, 75, 76, 77, 78, 79, 84, 85, 88, 89, 92] | 3 => some [1, 2, 3, 24, 25, 26, 27, 28, 29, 30, 31, 32, 33, 34, 35, 36, 37, 38, 39, 42, 43, 44, 45, 46, 47, 50, 51, 52, 53, 54, 55, 56, 68, 69, 70, 71, 72, 75, 76, 77, 78, 79, 84, 85, 88, 89, 92] | 4 => some [1, 2, 3, 10, 24, 25, 26, 27, 28, 29, 30, 31, 32, 33, 34, 35, 36, 37, 38, 39, 42, 43, 44, 45, 46, 47, 50, 51, 52, 53, 54, 55, 56, 68, 69, 70, 71, 72, 75, 76, 77, 78, 79, 84, 85, 88, 89, 92] | 5 => some [1, 2, 3, 24, 25, 26, 27, 28, 29, 30, 31, 32, 33, 34, 35, 36, 37, 38, 39, 42, 43, 44, 45, 46, 47, 50, 51, 52, 53, 54, 55, 56, 68, 69, 70, 71, 72, 75, 76, 77, 78, 79, 84, 85, 88, 89, 92] | 6 => some [1, 2, 3, 24, 25, 26, 27, 28, 29, 30, 31, 32, 33, 34, 35, 36, 37, 38, 39, 42, 43, 44, 45, 46, 47, 50, 51, 52, 53, 54, 55, 56, 57, 68, 69, 70, 71, 72, 75, 76, 77, 78, 79, 84, 85, 88, 89, 92] | 7 => some [0] | 8 => some [4, 68, 69, 70, 71, 72, 75, 76, 77, 78, 79, 84, 85, 88, 89, 92] | 9 => some [4, 59, 68, 69, 70, 71, 72, 75, 76, 77, 78, 79, 84, 85, 88, 89, 92] | 10 => some [4, 68, 69, 70, 71, 72, 75, 76, 77, 78, 79, 84, 85, 88, 89, 92] | 11 => some [4, 68, 69, 70, 71, 72, 75, 76, 77, 78, 79, 80, 84, 85, 88, 89, 92] | 12 => some [0] | 13 => some [0] | _ => none, head := fun | 4 => some [1, 2, 3, 24, 25, 26, 27, 28, 29, 30, 31, 32, 33, 34, 35, 36, 37, 38, 39, 42, 43, 44, 45, 46, 47, 50, 51, 52, 53, 54, 55, 56, 68, 69, 70, 71, 72, 75, 76, 77, 78, 79, 84, 85, 88, 89, 92] | 9 => some [4, 68, 69, 70, 71, 72, 75, 76, 77, 78, 79, 84, 85, 88, 89, 92] | _ => none }
/-- vidimus/lengths.Put -/
def c13 : Code :=
  (.seq (.region 0 #[⟨some 2, .assign (.const (.slice none 0 0)), 22, "", #[], none⟩,
    ⟨some 3, .assign (.const (.int .i64 0)), 23, "", #[], none⟩] false)
  (.seq (.block 0 (.seq (.region 1 #[⟨some 6, .move (.tmp 0), 3, "", #[], none⟩,
    ⟨some 7, .binOp .lss 3 (.tmp 6) (.const (.int .i64 0)) 3, 4, "", #[], none⟩,
    ⟨some 5, .assign (.tmp 7), 4, "", #[], none⟩] false)
  (.cond (.tmp 5)
    (.seq (.region 2 #[⟨some 2, .assign (.const (.slice none 0 0)), 22, "", #[], none⟩,
      ⟨some 3, .assign (.const (.int .i64 1)), 23, "", #[], none⟩] false)
    .ret)
    (.seq (.region 3 #[⟨some 9, .move (.tmp 0), 3, "", #[], none⟩,
      ⟨some 10, .binOp .gtr 3 (.tmp 9) (.const (.int .i64 16777215)) 3, 4, "", #[], none⟩,
      ⟨some 8, .assign (.tmp 10), 4, "", #[], none⟩] false)
    (.cond (.tmp 8)
      (.seq (.region 4 #[⟨some 2, .assign (.const (.slice none 0 0)), 22, "", #[], none⟩,
        ⟨some 3, .assign (.const (.int .i64 3)), 23, "", #[], none⟩] false)
      .ret)
      (.seq (.region 5 #[⟨some 12, .move (.tmp 0), 3, "", #[], none⟩,
        ⟨some 13, .binOp .leq 3 (.tmp 12) (.const (.int .i64 127)) 3, 4, "", #[], none⟩,
        ⟨some 11, .assign (.tmp 13), 4, "", #[], none⟩] false)
      (.cond (.tmp 11)
        (.seq (.region 6 #[⟨some 14, .move (.tmp 0), 3, "", #[], none⟩,
          ⟨some 15, .convert 3 5 (.tmp 14), 5, "", #[], none⟩,
          ⟨some 16, .buildSlice 22 1 #[(0, .tmp 15)], 22, "", #[], none⟩,
          ⟨some 2, .assign (.tmp 16), 22, "", #[], none⟩,
          ⟨some 3, .assign (.const (.int .i64 0)), 23, "", #[], none⟩] false)
        .ret)
        .skip)))))))
  (.seq (.region 7 #[⟨some 17, .buildSlice 22 1 #[(0, .const (.int .u8 0))], 22, "", #[], none⟩,
    ⟨some 4, .assign (.tmp 17), 22, "", #[], none⟩] false)
  (.seq (.block 1 (.seq (.block 4 (.seq (.block 3 (.seq (.block 2 (.seq (.seq (.seq (.region 8 #[⟨some 19, .move (.tmp 0), 3, "", #[], none⟩,
    ⟨some 20, .binOp .gtr 3 (.tmp 19) (.const (.int .i64 65535)) 3, 4, "", #[], none⟩,
    ⟨some 18, .assign (.tmp 20), 4, "", #[], none⟩] false)
  (.cond (.tmp 18)
    (.exit 2)
    .skip))
  (.seq (.region 9 #[⟨some 22, .move (.tmp 0), 3, "", #[], none⟩,
    ⟨some 23, .binOp .gtr 3 (.tmp 22) (.const (.int .i64 255)) 3, 4, "", #[], none⟩,
    ⟨some 21, .assign (.tmp 23), 4, "", #[], none⟩] false)
  (.cond (.tmp 21)
    (.exit 3)
    .skip)))
  (.exit 4)))
  (.region 10 #[⟨some 24, .move (.tmp 4), 22, "", #[], none⟩,
    ⟨some 25, .move (.tmp 0), 3, "", #[], none⟩,
    ⟨some 26, .binOp .shr 3 (.tmp 25) (.const (.int .u64 16)) 51, 3, "", #[], none⟩,
    ⟨some 27, .convert 3 5 (.tmp 26), 5, "", #[], none⟩,
    ⟨some 28, .buildSlice 22 1 #[(0, .tmp 27)], 22, "", #[], none⟩,
    ⟨some 29, .call { callee := .builtin .append, args := #[.tmp 24, .tmp 28], argTypes := #[22, 22] }, 22, "", #[], none⟩,
    ⟨some 4, .assign (.tmp 29), 22, "", #[], none⟩] false)))
  (.region 11 #[⟨some 30, .move (.tmp 4), 22, "", #[], none⟩,
    ⟨some 31, .move (.tmp 0), 3, "", #[], none⟩,
    ⟨some 32, .binOp .shr 3 (.tmp 31) (.const (.int .u64 8)) 51, 3, "", #[], none⟩,
    ⟨some 33, .convert 3 5 (.tmp 32), 5, "", #[], none⟩,
    ⟨some 34, .buildSlice 22 1 #[(0, .tmp 33)], 22, "", #[], none⟩,
    ⟨some 35, .call { callee := .builtin .append, args := #[.tmp 30, .tmp 34], argTypes := #[22, 22] }, 22, "", #[], none⟩,
    ⟨some 4, .assign (.tmp 35), 22, "", #[], none⟩] false)))
  (.seq (.region 12 #[⟨some 36, .move (.tmp 4), 22, "", #[], none⟩,
    ⟨some 37, .move (.tmp 0), 3, "", #[], none⟩,
    ⟨some 38, .convert 3 5 (.tmp 37), 5, "", #[], none⟩,
    ⟨some 39, .buildSlice 22 1 #[(0, .tmp 38)], 22, "", #[], none⟩,
    ⟨some 40, .call { callee := .builtin .append, args := #[.tmp 36, .tmp 39], argTypes := #[22, 22] }, 22, "", #[], none⟩,
    ⟨some 4, .assign (.tmp 40), 22, "", #[], none⟩] false)
  (.exit 1))))
  (.seq (.region 13 #[⟨some 41, .move (.tmp 4), 22, "", #[], none⟩,
    ⟨some 42, .move (.tmp 4), 22, "", #[], none⟩,
    ⟨some 43, .call { callee := .builtin .len, args := #[.tmp 42], argTypes := #[22] }, 3, "", #[], none⟩,
    ⟨some 44, .binOp .sub 3 (.tmp 43) (.const (.int .i64 1)) 3, 3, "", #[], none⟩,
    ⟨some 45, .convert 3 5 (.tmp 44), 5, "", #[], none⟩,
    ⟨some 46, .binOp .add 5 (.const (.int .u8 128)) (.tmp 45) 5, 5, "", #[], none⟩,
    ⟨some 47, .indexAddr 22 (.tmp 41) (.const (.int .i64 0)), 0, "", #[], none⟩,
    ⟨none, .store 5 (.tmp 47) (.tmp 46), 0, "", #[], none⟩] false)
  (.seq (.region 14 #[⟨some 48, .move (.tmp 4), 22, "", #[], none⟩,
    ⟨some 49, .call { callee := .value (.func 42), args := #[.tmp 48], argTypes := #[22] }, 22, "", #[], none⟩,
    ⟨some 2, .assign (.tmp 49), 22, "", #[], none⟩,
    ⟨some 3, .assign (.const (.int .i64 0)), 23, "", #[], none⟩] false)
  .ret))))))
def fn13 : AFn := { ntmps := 50, results := [.tmp 2, .tmp 3], body := c13, keep := fun | 0 => some [0] | 1 => some [0, 5] | 2 => some [2, 3] | 3 => some [0, 8] | 4 => some [2, 3] | 5 => some [0, 11] | 6 => some [2, 3] | 7 => some [0, 4] | 8 => some [0, 4, 18] | 9 => some [0, 4, 21] | 10 => some [0, 4] | 11 => some [0, 4] | 12 => some [4] | 13 => some [4] | 14 => some [2, 3] | _ => none, head := fun  | _ => none }
/-- vidimus/vidimuslaw03.same -/
def c14 : Code :=
  (.seq (.region 0 #[⟨some 8, .assign (.const (.bool false)), 4, "", #[], none⟩] false)
  (.seq (.region 1 #[⟨some 9, .move (.tmp 1), 23, "", #[], none⟩,
    ⟨some 10, .move (.tmp 3), 3, "", #[], none⟩,
    ⟨some 11, .binOp .eql 3 (.tmp 9) (.tmp 10) 3, 4, "", #[], none⟩,
    ⟨some 12, .move (.tmp 11), 4, "", #[], none⟩,
    ⟨some 13, .move (.tmp 0), 22, "", #[], some (12, true)⟩,
    ⟨some 14, .convert 22 9 (.tmp 13), 9, "", #[], some (12, true)⟩,
    ⟨some 15, .move (.tmp 2), 22, "", #[], some (12, true)⟩,
    ⟨some 16, .convert 22 9 (.tmp 15), 9, "", #[], some (12, true)⟩,
    ⟨some 17, .binOp .eql 9 (.tmp 14) (.tmp 16) 9, 4, "", #[], some (12, true)⟩,
    ⟨some 18, .pick (.tmp 12) (.tmp 17) (.const (.bool false)), 4, "", #[], none⟩,
    ⟨some 19, .move (.tmp 18), 4, "", #[], none⟩,
    ⟨some 20, .move (.tmp 0), 22, "", #[], some (19, true)⟩,
    ⟨some 21, .call { callee := .builtin .cap, args := #[.tmp 20], argTypes := #[22] }, 3, "", #[], some (19, true)⟩,
    ⟨some 22, .move (.tmp 0), 22, "", #[], some (19, true)⟩,
    ⟨some 23, .call { callee := .builtin .len, args := #[.tmp 22], argTypes := #[22] }, 3, "", #[], some (19, true)⟩,
    ⟨some 24, .binOp .eql 3 (.tmp 21) (.tmp 23) 3, 4, "", #[], some (19, true)⟩,
    ⟨some 25, .pick (.tmp 19) (.tmp 24) (.const (.bool false)), 4, "", #[], none⟩,
    ⟨some 8, .assign (.tmp 25), 4, "", #[], none⟩] false)
  .ret))
def fn14 : AFn := { ntmps := 26, results := [.tmp 8], body := c14, keep := fun | 0 => some [0, 1, 2, 3, 13, 14, 15, 16, 17, 20, 21, 22, 23, 24] | 1 => some [8] | _ => none, head := fun  | _ => none }
/-- vidimus/lengths.Size -/
def c15 : Code :=
  (.seq (.region 0 #[⟨some 2, .assign (.const (.int .i64 0)), 3, "", #[], none⟩] false)
  (.seq (.region 1 #[⟨some 6, .move (.tmp 0), 3, "", #[], none⟩,
    ⟨some 7, .call { callee := .value (.func 13), args := #[.tmp 6], argTypes := #[3] }, 24, "", #[], none⟩,
    ⟨some 5, .move (.tmp 7), 24, "", #[], none⟩,
    ⟨some 8, .extract (.tmp 5) 0, 22, "", #[], none⟩,
    ⟨some 9, .extract (.tmp 5) 1, 23, "", #[], none⟩,
    ⟨some 3, .assign (.tmp 8), 22, "", #[], none⟩,
    ⟨some 4, .assign (.tmp 9), 23, "", #[], none⟩] false)
  (.seq (.region 2 #[⟨some 10, .move (.tmp 3), 22, "", #[], none⟩,
    ⟨some 11, .call { callee := .builtin .len, args := #[.tmp 10], argTypes := #[22] }, 3, "", #[], none⟩,
    ⟨some 2, .assign (.tmp 11), 3, "", #[], none⟩] false)
  .ret)))
def fn15 : AFn := { ntmps := 12, results := [.tmp 2], body := c15, keep := fun | 0 => some [0] | 1 => some [3] | 2 => some [2] | _ => none, head := fun  | _ => none }
/-- vidimus/vidimuslaw03.lives -/
def c16 : Code :=
  (.seq (.region 0 #[⟨some 0, .assign (.const (.bool false)), 4, "", #[], none⟩] false)
  (.seq (.region 1 #[⟨some 6, .call { callee := .value (.func 13), args := #[.const (.int .i64 (-1))], argTypes := #[3] }, 24, "", #[], none⟩,
    ⟨some 5, .move (.tmp 6), 24, "", #[], none⟩,
    ⟨some 7, .extract (.tmp 5) 0, 22, "", #[], none⟩,
    ⟨some 8, .extract (.tmp 5) 1, 23, "", #[], none⟩,
    ⟨some 1, .assign (.tmp 7), 22, "", #[], none⟩,
    ⟨some 2, .assign (.tmp 8), 23, "", #[], none⟩] false)
  (.seq (.region 2 #[⟨some 10, .call { callee := .value (.func 13), args := #[.const (.int .i64 16777216)], argTypes := #[3] }, 24, "", #[], none⟩,
    ⟨some 9, .move (.tmp 10), 24, "", #[], none⟩,
    ⟨some 11, .extract (.tmp 9) 0, 22, "", #[], none⟩,
    ⟨some 12, .extract (.tmp 9) 1, 23, "", #[], none⟩,
    ⟨some 3, .assign (.tmp 11), 22, "", #[], none⟩,
    ⟨some 4, .assign (.tmp 12), 23, "", #[], none⟩] false)
  (.seq (.seq (.region 3 #[⟨some 13, .call { callee := .value (.func 43), args := #[.const (.int .i64 0), .const (.string { data := #[0] })], argTypes := #[3, 9] }, 4, "", #[], none⟩,
    ⟨some 14, .unOp .not 4 (.tmp 13), 4, "", #[], none⟩,
    ⟨some 15, .move (.tmp 14), 4, "", #[], none⟩,
    ⟨some 16, .call { callee := .value (.func 43), args := #[.const (.int .i64 127), .const (.string { data := #[127] })], argTypes := #[3, 9] }, 4, "", #[], some (15, false)⟩,
    ⟨some 17, .unOp .not 4 (.tmp 16), 4, "", #[], some (15, false)⟩,
    ⟨some 18, .pick (.tmp 15) (.const (.bool true)) (.tmp 17), 4, "", #[], none⟩,
    ⟨some 19, .move (.tmp 18), 4, "", #[], none⟩,
    ⟨some 20, .call { callee := .value (.func 43), args := #[.const (.int .i64 128), .const (.string { data := #[129, 128] })], argTypes := #[3, 9] }, 4, "", #[], some (19, false)⟩,
    ⟨some 21, .unOp .not 4 (.tmp 20), 4, "", #[], some (19, false)⟩,
    ⟨some 22, .pick (.tmp 19) (.const (.bool true)) (.tmp 21), 4, "", #[], none⟩,
    ⟨some 23, .move (.tmp 22), 4, "", #[], none⟩,
    ⟨some 24, .call { callee := .value (.func 43), args := #[.const (.int .i64 300), .const (.string { data := #[130, 1, 44] })], argTypes := #[3, 9] }, 4, "", #[], some (23, false)⟩,
    ⟨some 25, .unOp .not 4 (.tmp 24), 4, "", #[], some (23, false)⟩,
    ⟨some 26, .pick (.tmp 23) (.const (.bool true)) (.tmp 25), 4, "", #[], none⟩,
    ⟨some 27, .move (.tmp 26), 4, "", #[], none⟩,
    ⟨some 28, .call { callee := .value (.func 43), args := #[.const (.int .i64 65536), .const (.string { data := #[131, 1, 0, 0] })], argTypes := #[3, 9] }, 4, "", #[], some (27, false)⟩,
    ⟨some 29, .unOp .not 4 (.tmp 28), 4, "", #[], some (27, false)⟩,
    ⟨some 30, .pick (.tmp 27) (.const (.bool true)) (.tmp 29), 4, "", #[], none⟩,
    ⟨some 31, .move (.tmp 30), 4, "", #[], none⟩,
    ⟨some 32, .move (.tmp 2), 23, "", #[], some (31, false)⟩,
    ⟨some 33, .binOp .neq 23 (.tmp 32) (.const (.int .i64 1)) 23, 4, "", #[], some (31, false)⟩,
    ⟨some 34, .pick (.tmp 31) (.const (.bool true)) (.tmp 33), 4, "", #[], none⟩,
    ⟨some 35, .move (.tmp 34), 4, "", #[], none⟩,
    ⟨some 36, .move (.tmp 4), 23, "", #[], some (35, false)⟩,
    ⟨some 37, .binOp .neq 23 (.tmp 36) (.const (.int .i64 3)) 23, 4, "", #[], some (35, false)⟩,
    ⟨some 38, .pick (.tmp 35) (.const (.bool true)) (.tmp 37), 4, "", #[], none⟩,
    ⟨some 39, .move (.tmp 38), 4, "", #[], none⟩,
    ⟨some 40, .call { callee := .value (.func 15), args := #[.const (.int .i64 255)], argTypes := #[3] }, 3, "", #[], some (39, false)⟩,
    ⟨some 41, .binOp .neq 3 (.tmp 40) (.const (.int .i64 2)) 3, 4, "", #[], some (39, false)⟩,
    ⟨some 42, .pick (.tmp 39) (.const (.bool true)) (.tmp 41), 4, "", #[], none⟩,
    ⟨some 43, .move (.tmp 42), 4, "", #[], none⟩,
    ⟨some 44, .call { callee := .value (.func 20), args := #[.const (.int .i64 1), .const (.int .i64 255)], argTypes := #[3, 3] }, 3, "", #[], some (43, false)⟩,
    ⟨some 45, .binOp .neq 3 (.tmp 44) (.const (.int .i64 258)) 3, 4, "", #[], some (43, false)⟩,
    ⟨some 46, .pick (.tmp 43) (.const (.bool true)) (.tmp 45), 4, "", #[], none⟩] false)
  (.cond (.tmp 46)
    (.seq (.region 4 #[⟨some 0, .assign (.const (.bool false)), 4, "", #[], none⟩] false)
    .ret)
    .skip))
  (.seq (.seq (.region 5 #[⟨some 47, .buildSlice 22 2 #[(0, .const (.int .u8 5)), (1, .const (.int .u8 255))], 22, "", #[], none⟩,
    ⟨some 48, .call { callee := .value (.func 18), args := #[.tmp 47, .const (.int .i64 5), .const (.int .i64 1), .const (.int .i64 0)], argTypes := #[22, 3, 3, 3] }, 4, "", #[], none⟩,
    ⟨some 49, .unOp .not 4 (.tmp 48), 4, "", #[], none⟩,
    ⟨some 50, .move (.tmp 49), 4, "", #[], none⟩,
    ⟨some 51, .buildSlice 22 2 #[(0, .const (.int .u8 129)), (1, .const (.int .u8 128))], 22, "", #[], some (50, false)⟩,
    ⟨some 52, .call { callee := .value (.func 18), args := #[.tmp 51, .const (.int .i64 128), .const (.int .i64 2), .const (.int .i64 0)], argTypes := #[22, 3, 3, 3] }, 4, "", #[], some (50, false)⟩,
    ⟨some 53, .unOp .not 4 (.tmp 52), 4, "", #[], some (50, false)⟩,
    ⟨some 54, .pick (.tmp 50) (.const (.bool true)) (.tmp 53), 4, "", #[], none⟩,
    ⟨some 55, .move (.tmp 54), 4, "", #[], none⟩,
    ⟨some 56, .buildSlice 22 4 #[(0, .const (.int .u8 130)), (1, .const (.int .u8 1)), (2, .const (.int .u8 44)), (3, .const (.int .u8 0))], 22, "", #[], some (55, false)⟩,
    ⟨some 57, .call { callee := .value (.func 18), args := #[.tmp 56, .const (.int .i64 300), .const (.int .i64 3), .const (.int .i64 0)], argTypes := #[22, 3, 3, 3] }, 4, "", #[], some (55, false)⟩,
    ⟨some 58, .unOp .not 4 (.tmp 57), 4, "", #[], some (55, false)⟩,
    ⟨some 59, .pick (.tmp 55) (.const (.bool true)) (.tmp 58), 4, "", #[], none⟩] false)
  (.cond (.tmp 59)
    (.seq (.region 6 #[⟨some 0, .assign (.const (.bool false)), 4, "", #[], none⟩] false)
    .ret)
    .skip))
  (.seq (.region 7 #[⟨some 60, .call { callee := .value (.func 18), args := #[.const (.slice none 0 0), .const (.int .i64 0), .const (.int .i64 0), .const (.int .i64 7)], argTypes := #[22, 3, 3, 3] }, 4, "", #[], none⟩,
    ⟨some 61, .move (.tmp 60), 4, "", #[], none⟩,
    ⟨some 62, .buildSlice 22 1 #[(0, .const (.int .u8 128))], 22, "", #[], some (61, true)⟩,
    ⟨some 63, .call { callee := .value (.func 18), args := #[.tmp 62, .const (.int .i64 0), .const (.int .i64 0), .const (.int .i64 10)], argTypes := #[22, 3, 3, 3] }, 4, "", #[], some (61, true)⟩,
    ⟨some 64, .pick (.tmp 61) (.tmp 63) (.const (.bool false)), 4, "", #[], none⟩,
    ⟨some 65, .move (.tmp 64), 4, "", #[], none⟩,
    ⟨some 66, .buildSlice 22 5 #[(0, .const (.int .u8 132)), (1, .const (.int .u8 0)), (2, .const (.int .u8 0)), (3, .const (.int .u8 0)), (4, .const (.int .u8 1))], 22, "", #[], some (65, true)⟩,
    ⟨some 67, .call { callee := .value (.func 18), args := #[.tmp 66, .const (.int .i64 0), .const (.int .i64 0), .const (.int .i64 10)], argTypes := #[22, 3, 3, 3] }, 4, "", #[], some (65, true)⟩,
    ⟨some 68, .pick (.tmp 65) (.tmp 67) (.const (.bool false)), 4, "", #[], none⟩,
    ⟨some 69, .move (.tmp 68), 4, "", #[], none⟩,
    ⟨some 70, .buildSlice 22 2 #[(0, .const (.int .u8 130)), (1, .const (.int .u8 1))], 22, "", #[], some (69, true)⟩,
    ⟨some 71, .call { callee := .value (.func 18), args := #[.tmp 70, .const (.int .i64 0), .const (.int .i64 0), .const (.int .i64 7)], argTypes := #[22, 3, 3, 3] }, 4, "", #[], some (69, true)⟩,
    ⟨some 72, .pick (.tmp 69) (.tmp 71) (.const (.bool false)), 4, "", #[], none⟩,
    ⟨some 73, .move (.tmp 72), 4, "", #[], none⟩,
    ⟨some 74, .buildSlice 22 2 #[(0, .const (.int .u8 129)), (1, .const (.int .u8 127))], 22, "", #[], some (73, true)⟩,
    ⟨some 75, .call { callee := .value (.func 18), args := #[.tmp 74, .const (.int .i64 0), .const (.int .i64 0), .const (.int .i64 10)], argTypes := #[22, 3, 3, 3] }, 4, "", #[], some (73, true)⟩,
    ⟨some 76, .pick (.tmp 73) (.tmp 75) (.const (.bool false)), 4, "", #[], none⟩,
    ⟨some 77, .move (.tmp 76), 4, "", #[], none⟩,
    ⟨some 78, .buildSlice 22 3 #[(0, .const (.int .u8 130)), (1, .const (.int .u8 0)), (2, .const (.int .u8 255))], 22, "", #[], some (77, true)⟩,
    ⟨some 79, .call { callee := .value (.func 18), args := #[.tmp 78, .const (.int .i64 0), .const (.int .i64 0), .const (.int .i64 10)], argTypes := #[22, 3, 3, 3] }, 4, "", #[], some (77, true)⟩,
    ⟨some 80, .pick (.tmp 77) (.tmp 79) (.const (.bool false)), 4, "", #[], none⟩,
    ⟨some 0, .assign (.tmp 80), 4, "", #[], none⟩] false)
  .ret))))))
def fn16 : AFn := { ntmps := 81, results := [.tmp 0], body := c16, keep := fun | 0 => some [16, 17, 20, 21, 24, 25, 28, 29, 32, 33, 36, 37, 40, 41, 44, 45, 51, 52, 53, 56, 57, 58, 62, 63, 66, 67, 70, 71, 74, 75, 78, 79] | 1 => some [2, 16, 17, 20, 21, 24, 25, 28, 29, 32, 33, 36, 37, 40, 41, 44, 45, 51, 52, 53, 56, 57, 58, 62, 63, 66, 67, 70, 71, 74, 75, 78, 79] | 2 => some [2, 4, 16, 17, 20, 21, 24, 25, 28, 29, 32, 33, 36, 37, 40, 41, 44, 45, 51, 52, 53, 56, 57, 58, 62, 63, 66, 67, 70, 71, 74, 75, 78, 79] | 3 => some [46, 51, 52, 53, 56, 57, 58, 62, 63, 66, 67, 70, 71, 74, 75, 78, 79] | 4 => some [0] | 5 => some [59, 62, 63, 66, 67, 70, 71, 74, 75, 78, 79] | 6 => some [0] | 7 => some [0] | _ => none, head := fun  | _ => none }
/-- vidimus/vidimusref03.Put -/
def c17 : Code :=
  (.seq (.region 0 #[⟨some 2, .assign (.const (.slice none 0 0)), 22, "", #[], none⟩] false)
  (.seq (.seq (.region 1 #[⟨some 4, .move (.tmp 0), 3, "", #[], none⟩,
    ⟨some 5, .binOp .lss 3 (.tmp 4) (.const (.int .i64 128)) 3, 4, "", #[], none⟩] false)
  (.cond (.tmp 5)
    (.seq (.region 2 #[⟨some 6, .move (.tmp 0), 3, "", #[], none⟩,
      ⟨some 7, .convert 3 5 (.tmp 6), 5, "", #[], none⟩,
      ⟨some 8, .buildSlice 22 1 #[(0, .tmp 7)], 22, "", #[], none⟩,
      ⟨some 2, .assign (.tmp 8), 22, "", #[], none⟩] false)
    .ret)
    .skip))
  (.seq (.region 3 #[⟨some 3, .assign (.const (.slice none 0 0)), 22, "", #[], none⟩] false)
  (.seq (.block 0 (.loop (.seq (.seq (.region 4 #[⟨some 9, .move (.tmp 0), 3, "", #[], none⟩,
    ⟨some 10, .binOp .gtr 3 (.tmp 9) (.const (.int .i64 0)) 3, 4, "", #[], none⟩] false)
  (.cond (.tmp 10)
    .skip
    (.exit 0)))
  (.block 1 (.seq (.region 5 #[⟨some 11, .move (.tmp 0), 3, "", #[], none⟩,
    ⟨some 12, .binOp .rem 3 (.tmp 11) (.const (.int .i64 256)) 3, 3, "", #[], none⟩,
    ⟨some 13, .convert 3 5 (.tmp 12), 5, "", #[], none⟩,
    ⟨some 14, .buildSlice 22 1 #[(0, .tmp 13)], 22, "", #[], none⟩,
    ⟨some 15, .move (.tmp 3), 22, "", #[], none⟩,
    ⟨some 16, .call { callee := .builtin .append, args := #[.tmp 14, .tmp 15], argTypes := #[22, 22] }, 22, "", #[], none⟩,
    ⟨some 3, .assign (.tmp 16), 22, "", #[], none⟩] false)
  (.region 6 #[⟨some 17, .move (.tmp 0), 3, "", #[], none⟩,
    ⟨some 18, .binOp .quo 3 (.tmp 17) (.const (.int .i64 256)) 3, 3, "", #[], none⟩,
    ⟨some 0, .assign (.tmp 18), 3, "", #[], none⟩] false))))))
  (.seq (.region 7 #[⟨some 19, .move (.tmp 3), 22, "", #[], none⟩,
    ⟨some 20, .call { callee := .builtin .len, args := #[.tmp 19], argTypes := #[22] }, 3, "", #[], none⟩,
    ⟨some 21, .binOp .add 3 (.const (.int .i64 128)) (.tmp 20) 3, 3, "", #[], none⟩,
    ⟨some 22, .convert 3 5 (.tmp 21), 5, "", #[], none⟩,
    ⟨some 23, .buildSlice 22 1 #[(0, .tmp 22)], 22, "", #[], none⟩,
    ⟨some 24, .move (.tmp 3), 22, "", #[], none⟩,
    ⟨some 25, .call { callee := .builtin .append, args := #[.tmp 23, .tmp 24], argTypes := #[22, 22] }, 22, "", #[], none⟩,
    ⟨some 2, .assign (.tmp 25), 22, "", #[], none⟩] false)
  .ret)))))
def fn17 : AFn := { ntmps := 26, results := [.tmp 2], body := c17, keep := fun | 0 => some [0] | 1 => some [0, 5] | 2 => some [2] | 3 => some [0, 3] | 4 => some [0, 3, 10] | 5 => some [0, 3] | 6 => some [0, 3] | 7 => some [2] | _ => none, head := fun | 4 => some [0, 3] | _ => none }
/-- vidimus/vidimuslaw03.read -/
def c18 : Code :=
  (.seq (.region 0 #[⟨some 8, .assign (.const (.bool false)), 4, "", #[], none⟩] false)
  (.seq (.region 1 #[⟨some 13, .move (.tmp 0), 22, "", #[], none⟩,
    ⟨some 14, .call { callee := .value (.func 44), args := #[.tmp 13], argTypes := #[22] }, 76, "", #[], none⟩,
    ⟨some 12, .move (.tmp 14), 76, "", #[], none⟩,
    ⟨some 15, .extract (.tmp 12) 0, 3, "", #[], none⟩,
    ⟨some 16, .extract (.tmp 12) 1, 3, "", #[], none⟩,
    ⟨some 17, .extract (.tmp 12) 2, 23, "", #[], none⟩,
    ⟨some 9, .assign (.tmp 15), 3, "", #[], none⟩,
    ⟨some 10, .assign (.tmp 16), 3, "", #[], none⟩,
    ⟨some 11, .assign (.tmp 17), 23, "", #[], none⟩] false)
  (.seq (.region 2 #[⟨some 18, .move (.tmp 9), 3, "", #[], none⟩,
    ⟨some 19, .move (.tmp 1), 3, "", #[], none⟩,
    ⟨some 20, .binOp .eql 3 (.tmp 18) (.tmp 19) 3, 4, "", #[], none⟩,
    ⟨some 21, .move (.tmp 20), 4, "", #[], none⟩,
    ⟨some 22, .move (.tmp 10), 3, "", #[], some (21, true)⟩,
    ⟨some 23, .move (.tmp 2), 3, "", #[], some (21, true)⟩,
    ⟨some 24, .binOp .eql 3 (.tmp 22) (.tmp 23) 3, 4, "", #[], some (21, true)⟩,
    ⟨some 25, .pick (.tmp 21) (.tmp 24) (.const (.bool false)), 4, "", #[], none⟩,
    ⟨some 26, .move (.tmp 25), 4, "", #[], none⟩,
    ⟨some 27, .move (.tmp 11), 23, "", #[], some (26, true)⟩,
    ⟨some 28, .move (.tmp 3), 3, "", #[], some (26, true)⟩,
    ⟨some 29, .binOp .eql 3 (.tmp 27) (.tmp 28) 3, 4, "", #[], some (26, true)⟩,
    ⟨some 30, .pick (.tmp 26) (.tmp 29) (.const (.bool false)), 4, "", #[], none⟩,
    ⟨some 8, .assign (.tmp 30), 4, "", #[], none⟩] false)
  .ret)))
def fn18 : AFn := { ntmps := 31, results := [.tmp 8], body := c18, keep := fun | 0 => some [0, 1, 2, 3, 22, 23, 24, 27, 28, 29] | 1 => some [1, 2, 3, 9, 10, 11, 22, 23, 24, 27, 28, 29] | 2 => some [8] | _ => none, head := fun  | _ => none }
/-- vidimus/vidimusref03.Get -/
def c19 : Code :=
  (.seq (.region 0 #[⟨some 2, .assign (.const (.int .i64 0)), 3, "", #[], none⟩,
    ⟨some 3, .assign (.const (.int .i64 0)), 3, "", #[], none⟩,
    ⟨some 4, .assign (.const (.int .i64 0)), 3, "", #[], none⟩] false)
  (.seq (.seq (.region 1 #[⟨some 8, .move (.tmp 0), 22, "", #[], none⟩,
    ⟨some 9, .call { callee := .builtin .len, args := #[.tmp 8], argTypes := #[22] }, 3, "", #[], none⟩,
    ⟨some 10, .binOp .eql 3 (.tmp 9) (.const (.int .i64 0)) 3, 4, "", #[], none⟩] false)
  (.cond (.tmp 10)
    (.seq (.region 2 #[⟨some 2, .assign (.const (.int .i64 0)), 3, "", #[], none⟩,
      ⟨some 3, .assign (.const (.int .i64 0)), 3, "", #[], none⟩,
      ⟨some 4, .assign (.const (.int .i64 7)), 3, "", #[], none⟩] false)
    .ret)
    .skip))
  (.seq (.seq (.region 3 #[⟨some 11, .move (.tmp 0), 22, "", #[], none⟩,
    ⟨some 12, .indexAddr 22 (.tmp 11) (.const (.int .i64 0)), 0, "", #[], none⟩,
    ⟨some 13, .load 5 (.tmp 12), 5, "", #[], none⟩,
    ⟨some 14, .binOp .lss 5 (.tmp 13) (.const (.int .u8 128)) 5, 4, "", #[], none⟩] false)
  (.cond (.tmp 14)
    (.seq (.region 4 #[⟨some 15, .move (.tmp 0), 22, "", #[], none⟩,
      ⟨some 16, .indexAddr 22 (.tmp 15) (.const (.int .i64 0)), 0, "", #[], none⟩,
      ⟨some 17, .load 5 (.tmp 16), 5, "", #[], none⟩,
      ⟨some 18, .convert 5 3 (.tmp 17), 3, "", #[], none⟩,
      ⟨some 2, .assign (.tmp 18), 3, "", #[], none⟩,
      ⟨some 3, .assign (.const (.int .i64 1)), 3, "", #[], none⟩,
      ⟨some 4, .assign (.const (.int .i64 0)), 3, "", #[], none⟩] false)
    .ret)
    .skip))
  (.seq (.region 5 #[⟨some 19, .move (.tmp 0), 22, "", #[], none⟩,
    ⟨some 20, .indexAddr 22 (.tmp 19) (.const (.int .i64 0)), 0, "", #[], none⟩,
    ⟨some 21, .load 5 (.tmp 20), 5, "", #[], none⟩,
    ⟨some 22, .convert 5 3 (.tmp 21), 3, "", #[], none⟩,
    ⟨some 23, .binOp .sub 3 (.tmp 22) (.const (.int .i64 128)) 3, 3, "", #[], none⟩,
    ⟨some 5, .assign (.tmp 23), 3, "", #[], none⟩] false)
  (.seq (.seq (.region 6 #[⟨some 24, .move (.tmp 5), 3, "", #[], none⟩,
    ⟨some 25, .binOp .lss 3 (.tmp 24) (.const (.int .i64 1)) 3, 4, "", #[], none⟩,
    ⟨some 26, .move (.tmp 25), 4, "", #[], none⟩,
    ⟨some 27, .move (.tmp 5), 3, "", #[], some (26, false)⟩,
    ⟨some 28, .binOp .gtr 3 (.tmp 27) (.const (.int .i64 3)) 3, 4, "", #[], some (26, false)⟩,
    ⟨some 29, .pick (.tmp 26) (.const (.bool true)) (.tmp 28), 4, "", #[], none⟩] false)
  (.cond (.tmp 29)
    (.seq (.region 7 #[⟨some 2, .assign (.const (.int .i64 0)), 3, "", #[], none⟩,
      ⟨some 3, .assign (.const (.int .i64 0)), 3, "", #[], none⟩,
      ⟨some 4, .assign (.const (.int .i64 10)), 3, "", #[], none⟩] false)
    .ret)
    .skip))
  (.seq (.seq (.region 8 #[⟨some 30, .move (.tmp 0), 22, "", #[], none⟩,
    ⟨some 31, .call { callee := .builtin .len, args := #[.tmp 30], argTypes := #[22] }, 3, "", #[], none⟩,
    ⟨some 32, .move (.tmp 5), 3, "", #[], none⟩,
    ⟨some 33, .binOp .add 3 (.tmp 32) (.const (.int .i64 1)) 3, 3, "", #[], none⟩,
    ⟨some 34, .binOp .lss 3 (.tmp 31) (.tmp 33) 3, 4, "", #[], none⟩] false)
  (.cond (.tmp 34)
    (.seq (.region 9 #[⟨some 2, .assign (.const (.int .i64 0)), 3, "", #[], none⟩,
      ⟨some 3, .assign (.const (.int .i64 0)), 3, "", #[], none⟩,
      ⟨some 4, .assign (.const (.int .i64 7)), 3, "", #[], none⟩] false)
    .ret)
    .skip))
  (.seq (.region 10 #[⟨some 6, .assign (.const (.int .i64 0)), 3, "", #[], none⟩] false)
  (.seq (.seq (.region 11 #[⟨some 7, .assign (.const (.int .i64 1)), 3, "", #[], none⟩] false)
  (.block 0 (.loop (.seq (.seq (.region 12 #[⟨some 35, .move (.tmp 7), 3, "", #[], none⟩,
    ⟨some 36, .move (.tmp 5), 3, "", #[], none⟩,
    ⟨some 37, .binOp .leq 3 (.tmp 35) (.tmp 36) 3, 4, "", #[], none⟩] false)
  (.cond (.tmp 37)
    .skip
    (.exit 0)))
  (.seq (.block 1 (.region 14 #[⟨some 40, .move (.tmp 6), 3, "", #[], none⟩,
    ⟨some 41, .binOp .mul 3 (.const (.int .i64 256)) (.tmp 40) 3, 3, "", #[], none⟩,
    ⟨some 42, .move (.tmp 0), 22, "", #[], none⟩,
    ⟨some 43, .move (.tmp 7), 3, "", #[], none⟩,
    ⟨some 44, .indexAddr 22 (.tmp 42) (.tmp 43), 0, "", #[], none⟩,
    ⟨some 45, .load 5 (.tmp 44), 5, "", #[], none⟩,
    ⟨some 46, .convert 5 3 (.tmp 45), 3, "", #[], none⟩,
    ⟨some 47, .binOp .add 3 (.tmp 41) (.tmp 46) 3, 3, "", #[], none⟩,
    ⟨some 6, .assign (.tmp 47), 3, "", #[], none⟩] false))
  (.region 13 #[⟨some 38, .move (.tmp 7), 3, "", #[], none⟩,
    ⟨some 39, .binOp .add 3 (.tmp 38) (.const (.int .i64 1)) 3, 3, "", #[], none⟩,
    ⟨some 7, .assign (.tmp 39), 3, "", #[], none⟩] false))))))
  (.seq (.seq (.region 15 #[⟨some 48, .move (.tmp 0), 22, "", #[], none⟩,
    ⟨some 49, .indexAddr 22 (.tmp 48) (.const (.int .i64 1)), 0, "", #[], none⟩,
    ⟨some 50, .load 5 (.tmp 49), 5, "", #[], none⟩,
    ⟨some 51, .binOp .eql 5 (.tmp 50) (.const (.int .u8 0)) 5, 4, "", #[], none⟩,
    ⟨some 52, .move (.tmp 51), 4, "", #[], none⟩,
    ⟨some 53, .move (.tmp 6), 3, "", #[], some (52, false)⟩,
    ⟨some 54, .binOp .lss 3 (.tmp 53) (.const (.int .i64 128)) 3, 4, "", #[], some (52, false)⟩,
    ⟨some 55, .pick (.tmp 52) (.const (.bool true)) (.tmp 54), 4, "", #[], none⟩] false)
  (.cond (.tmp 55)
    (.seq (.region 16 #[⟨some 2, .assign (.const (.int .i64 0)), 3, "", #[], none⟩,
      ⟨some 3, .assign (.const (.int .i64 0)), 3, "", #[], none⟩,
      ⟨some 4, .assign (.const (.int .i64 10)), 3, "", #[], none⟩] false)
    .ret)
    .skip))
  (.seq (.region 17 #[⟨some 56, .move (.tmp 6), 3, "", #[], none⟩,
    ⟨some 57, .move (.tmp 5), 3, "", #[], none⟩,
    ⟨some 58, .binOp .add 3 (.tmp 57) (.const (.int .i64 1)) 3, 3, "", #[], none⟩,
    ⟨some 2, .assign (.tmp 56), 3, "", #[], none⟩,
    ⟨some 3, .assign (.tmp 58), 3, "", #[], none⟩,
    ⟨some 4, .assign (.const (.int .i64 0)), 3, "", #[], none⟩] false)
  .ret))))))))))
def fn19 : AFn := { ntmps := 59, results := [.tmp 2, .tmp 3, .tmp 4], body := c19, keep := fun | 0 => some [0, 27, 28, 53, 54] | 1 => some [0, 10, 27, 28, 53, 54] | 2 => some [2, 3, 4] | 3 => some [0, 14, 27, 28, 53, 54] | 4 => some [2, 3, 4] | 5 => some [0, 5, 27, 28, 53, 54] | 6 => some [0, 5, 29, 53, 54] | 7 => some [2, 3, 4] | 8 => some [0, 5, 34, 53, 54] | 9 => some [2, 3, 4] | 10 => some [0, 5, 6, 53, 54] | 11 => some [0, 5, 6, 7, 53, 54] | 12 => some [0, 5, 6, 7, 37, 53, 54] | 13 => some [0, 5, 6, 7, 53, 54] | 14 => some [0, 5, 6, 7, 53, 54] | 15 => some [5, 6, 55] | 16 => some [2, 3, 4] | 17 => some [2, 3, 4] | _ => none, head := fun | 12 => some [0, 5, 6, 7, 53, 54] | _ => none }
/-- vidimus/lengths.Total -/
def c20 : Code :=
  (.seq (.region 0 #[⟨some 4, .assign (.const (.int .i64 0)), 3, "", #[], none⟩] false)
  (.seq (.seq (.region 1 #[⟨some 5, .move (.tmp 0), 3, "", #[], none⟩,
    ⟨some 6, .binOp .lss 3 (.tmp 5) (.const (.int .i64 1)) 3, 4, "", #[], none⟩,
    ⟨some 7, .move (.tmp 6), 4, "", #[], none⟩,
    ⟨some 8, .move (.tmp 0), 3, "", #[], some (7, false)⟩,
    ⟨some 9, .binOp .gtr 3 (.tmp 8) (.const (.int .i64 5)) 3, 4, "", #[], some (7, false)⟩,
    ⟨some 10, .pick (.tmp 7) (.const (.bool true)) (.tmp 9), 4, "", #[], none⟩,
    ⟨some 11, .move (.tmp 10), 4, "", #[], none⟩,
    ⟨some 12, .move (.tmp 1), 3, "", #[], some (11, false)⟩,
    ⟨some 13, .call { callee := .value (.func 15), args := #[.tmp 12], argTypes := #[3] }, 3, "", #[], some (11, false)⟩,
    ⟨some 14, .binOp .eql 3 (.tmp 13) (.const (.int .i64 0)) 3, 4, "", #[], some (11, false)⟩,
    ⟨some 15, .pick (.tmp 11) (.const (.bool true)) (.tmp 14), 4, "", #[], none⟩] false)
  (.cond (.tmp 15)
    (.seq (.region 2 #[⟨some 4, .assign (.const (.int .i64 0)), 3, "", #[], none⟩] false)
    .ret)
    .skip))
  (.seq (.region 3 #[⟨some 16, .move (.tmp 0), 3, "", #[], none⟩,
    ⟨some 17, .move (.tmp 1), 3, "", #[], none⟩,
    ⟨some 18, .call { callee := .value (.func 15), args := #[.tmp 17], argTypes := #[3] }, 3, "", #[], none⟩,
    ⟨some 19, .binOp .add 3 (.tmp 16) (.tmp 18) 3, 3, "", #[], none⟩,
    ⟨some 20, .move (.tmp 1), 3, "", #[], none⟩,
    ⟨some 21, .binOp .add 3 (.tmp 19) (.tmp 20) 3, 3, "", #[], none⟩,
    ⟨some 4, .assign (.tmp 21), 3, "", #[], none⟩] false)
  .ret)))
def fn20 : AFn := { ntmps := 22, results := [.tmp 4], body := c20, keep := fun | 0 => some [0, 1, 8, 9, 12, 13, 14] | 1 => some [0, 1, 15] | 2 => some [4] | 3 => some [4] | _ => none, head := fun  | _ => none }
/-- slices.Clip[[]byte,byte] -/
def c42 : Code :=
  (.seq (.region 0 #[⟨some 2, .assign (.const (.slice none 0 0)), 22, "", #[], none⟩] false)
  (.seq (.region 1 #[⟨some 3, .move (.tmp 0), 22, "", #[], none⟩,
    ⟨some 4, .move (.tmp 0), 22, "", #[], none⟩,
    ⟨some 5, .call { callee := .builtin .len, args := #[.tmp 4], argTypes := #[22] }, 3, "", #[], none⟩,
    ⟨some 6, .move (.tmp 0), 22, "", #[], none⟩,
    ⟨some 7, .call { callee := .builtin .len, args := #[.tmp 6], argTypes := #[22] }, 3, "", #[], none⟩,
    ⟨some 8, .slice 22 (.tmp 3) none (some (.tmp 5)) (some (.tmp 7)), 22, "", #[], none⟩,
    ⟨some 2, .assign (.tmp 8), 22, "", #[], none⟩] false)
  .ret))
def fn42 : AFn := { ntmps := 9, results := [.tmp 2], body := c42, keep := fun | 0 => some [0] | 1 => some [2] | _ => none, head := fun  | _ => none }
/-- vidimus/vidimuslaw03.put -/
def c43 : Code :=
  (.seq (.region 0 #[⟨some 4, .assign (.const (.bool false)), 4, "", #[], none⟩] false)
  (.seq (.region 1 #[⟨some 8, .move (.tmp 0), 3, "", #[], none⟩,
    ⟨some 9, .call { callee := .value (.func 13), args := #[.tmp 8], argTypes := #[3] }, 24, "", #[], none⟩,
    ⟨some 7, .move (.tmp 9), 24, "", #[], none⟩,
    ⟨some 10, .extract (.tmp 7) 0, 22, "", #[], none⟩,
    ⟨some 11, .extract (.tmp 7) 1, 23, "", #[], none⟩,
    ⟨some 5, .assign (.tmp 10), 22, "", #[], none⟩,
    ⟨some 6, .assign (.tmp 11), 23, "", #[], none⟩] false)
  (.seq (.region 2 #[⟨some 12, .move (.tmp 5), 22, "", #[], none⟩,
    ⟨some 13, .move (.tmp 6), 23, "", #[], none⟩,
    ⟨some 14, .move (.tmp 1), 9, "", #[], none⟩,
    ⟨some 15, .convert 9 22 (.tmp 14), 22, "", #[], none⟩,
    ⟨some 16, .call { callee := .value (.func 14), args := #[.tmp 12, .tmp 13, .tmp 15, .const (.int .i64 0)], argTypes := #[22, 23, 22, 3] }, 4, "", #[], none⟩,
    ⟨some 4, .assign (.tmp 16), 4, "", #[], none⟩] false)
  .ret)))
def fn43 : AFn := { ntmps := 17, results := [.tmp 4], body := c43, keep := fun | 0 => some [0, 1] | 1 => some [1, 5, 6] | 2 => some [4] | _ => none, head := fun  | _ => none }
/-- vidimus/lengths.Get -/
def c44 : Code :=
  (.seq (.region 0 #[⟨some 2, .assign (.const (.int .i64 0)), 3, "", #[], none⟩,
    ⟨some 3, .assign (.const (.int .i64 0)), 3, "", #[], none⟩,
    ⟨some 4, .assign (.const (.int .i64 0)), 23, "", #[], none⟩] false)
  (.seq (.seq (.region 1 #[⟨some 7, .move (.tmp 0), 22, "", #[], none⟩,
    ⟨some 8, .call { callee := .builtin .len, args := #[.tmp 7], argTypes := #[22] }, 3, "", #[], none⟩,
    ⟨some 9, .binOp .eql 3 (.tmp 8) (.const (.int .i64 0)) 3, 4, "", #[], none⟩] false)
  (.cond (.tmp 9)
    (.seq (.region 2 #[⟨some 2, .assign (.const (.int .i64 0)), 3, "", #[], none⟩,
      ⟨some 3, .assign (.const (.int .i64 0)), 3, "", #[], none⟩,
      ⟨some 4, .assign (.const (.int .i64 7)), 23, "", #[], none⟩] false)
    .ret)
    .skip))
  (.seq (.seq (.region 3 #[⟨some 10, .move (.tmp 0), 22, "", #[], none⟩,
    ⟨some 11, .indexAddr 22 (.tmp 10) (.const (.int .i64 0)), 0, "", #[], none⟩,
    ⟨some 12, .load 5 (.tmp 11), 5, "", #[], none⟩,
    ⟨some 13, .binOp .leq 5 (.tmp 12) (.const (.int .u8 127)) 5, 4, "", #[], none⟩] false)
  (.cond (.tmp 13)
    (.seq (.region 4 #[⟨some 14, .move (.tmp 0), 22, "", #[], none⟩,
      ⟨some 15, .indexAddr 22 (.tmp 14) (.const (.int .i64 0)), 0, "", #[], none⟩,
      ⟨some 16, .load 5 (.tmp 15), 5, "", #[], none⟩,
      ⟨some 17, .convert 5 3 (.tmp 16), 3, "", #[], none⟩,
      ⟨some 2, .assign (.tmp 17), 3, "", #[], none⟩,
      ⟨some 3, .assign (.const (.int .i64 1)), 3, "", #[], none⟩,
      ⟨some 4, .assign (.const (.int .i64 0)), 23, "", #[], none⟩] false)
    .ret)
    .skip))
  (.seq (.region 5 #[⟨some 5, .alloc 85, 0, "", #[], none⟩] false)
  (.seq (.region 6 #[⟨some 18, .move (.tmp 0), 22, "", #[], none⟩,
    ⟨some 19, .indexAddr 22 (.tmp 18) (.const (.int .i64 0)), 0, "", #[], none⟩,
    ⟨some 20, .load 5 (.tmp 19), 5, "", #[], none⟩,
    ⟨some 21, .convert 5 3 (.tmp 20), 3, "", #[], none⟩,
    ⟨some 22, .binOp .sub 3 (.tmp 21) (.const (.int .i64 128)) 3, 3, "", #[], none⟩,
    ⟨some 6, .assign (.tmp 22), 3, "", #[], none⟩] false)
  (.seq (.block 0 (.seq (.region 7 #[⟨some 24, .move (.tmp 6), 3, "", #[], none⟩,
    ⟨some 25, .binOp .eql 3 (.tmp 24) (.const (.int .i64 0)) 3, 4, "", #[], none⟩,
    ⟨some 26, .move (.tmp 25), 4, "", #[], none⟩,
    ⟨some 27, .move (.tmp 6), 3, "", #[], some (26, false)⟩,
    ⟨some 28, .binOp .gtr 3 (.tmp 27) (.const (.int .i64 3)) 3, 4, "", #[], some (26, false)⟩,
    ⟨some 29, .pick (.tmp 26) (.const (.bool true)) (.tmp 28), 4, "", #[], none⟩,
    ⟨some 23, .assign (.tmp 29), 4, "", #[], none⟩] false)
  (.cond (.tmp 23)
    (.seq (.region 8 #[⟨some 2, .assign (.const (.int .i64 0)), 3, "", #[], none⟩,
      ⟨some 3, .assign (.const (.int .i64 0)), 3, "", #[], none⟩,
      ⟨some 4, .assign (.const (.int .i64 10)), 23, "", #[], none⟩] false)
    .ret)
    (.seq (.region 9 #[⟨some 31, .move (.tmp 0), 22, "", #[], none⟩,
      ⟨some 32, .call { callee := .builtin .len, args := #[.tmp 31], argTypes := #[22] }, 3, "", #[], none⟩,
      ⟨some 33, .move (.tmp 6), 3, "", #[], none⟩,
      ⟨some 34, .binOp .leq 3 (.tmp 32) (.tmp 33) 3, 4, "", #[], none⟩,
      ⟨some 30, .assign (.tmp 34), 4, "", #[], none⟩] false)
    (.cond (.tmp 30)
      (.seq (.region 10 #[⟨some 2, .assign (.const (.int .i64 0)), 3, "", #[], none⟩,
        ⟨some 3, .assign (.const (.int .i64 0)), 3, "", #[], none⟩,
        ⟨some 4, .assign (.const (.int .i64 7)), 23, "", #[], none⟩] false)
      .ret)
      .skip)))))
  (.seq (.region 11 #[⟨some 35, .move (.tmp 6), 3, "", #[], none⟩,
    ⟨some 36, .binOp .sub 3 (.const (.int .i64 3)) (.tmp 35) 3, 3, "", #[], none⟩,
    ⟨some 37, .slice 85 (.tmp 5) (some (.tmp 36)) none none, 22, "", #[], none⟩,
    ⟨some 38, .move (.tmp 0), 22, "", #[], none⟩,
    ⟨some 39, .slice 22 (.tmp 38) (some (.const (.int .i64 1))) none none, 22, "", #[], none⟩,
    ⟨some 40, .call { callee := .builtin .copy, args := #[.tmp 37, .tmp 39], argTypes := #[22, 22] }, 3, "", #[], none⟩] true)
  (.seq (.region 12 #[⟨some 41, .indexAddr 85 (.tmp 5) (.const (.int .i64 0)), 0, "", #[], none⟩,
    ⟨some 42, .load 5 (.tmp 41), 5, "", #[], none⟩,
    ⟨some 43, .convert 5 3 (.tmp 42), 3, "", #[], none⟩,
    ⟨some 44, .binOp .shl 3 (.tmp 43) (.const (.int .u64 16)) 51, 3, "", #[], none⟩,
    ⟨some 45, .indexAddr 85 (.tmp 5) (.const (.int .i64 1)), 0, "", #[], none⟩,
    ⟨some 46, .load 5 (.tmp 45), 5, "", #[], none⟩,
    ⟨some 47, .convert 5 3 (.tmp 46), 3, "", #[], none⟩,
    ⟨some 48, .binOp .shl 3 (.tmp 47) (.const (.int .u64 8)) 51, 3, "", #[], none⟩,
    ⟨some 49, .binOp .or 3 (.tmp 44) (.tmp 48) 3, 3, "", #[], none⟩,
    ⟨some 50, .indexAddr 85 (.tmp 5) (.const (.int .i64 2)), 0, "", #[], none⟩,
    ⟨some 51, .load 5 (.tmp 50), 5, "", #[], none⟩,
    ⟨some 52, .convert 5 3 (.tmp 51), 3, "", #[], none⟩,
    ⟨some 53, .binOp .or 3 (.tmp 49) (.tmp 52) 3, 3, "", #[], none⟩,
    ⟨some 2, .assign (.tmp 53), 3, "", #[], none⟩] false)
  (.seq (.seq (.region 13 #[⟨some 54, .move (.tmp 0), 22, "", #[], none⟩,
    ⟨some 55, .indexAddr 22 (.tmp 54) (.const (.int .i64 1)), 0, "", #[], none⟩,
    ⟨some 56, .load 5 (.tmp 55), 5, "", #[], none⟩,
    ⟨some 57, .binOp .eql 5 (.tmp 56) (.const (.int .u8 0)) 5, 4, "", #[], none⟩,
    ⟨some 58, .move (.tmp 57), 4, "", #[], none⟩,
    ⟨some 59, .move (.tmp 2), 3, "", #[], some (58, false)⟩,
    ⟨some 60, .binOp .leq 3 (.tmp 59) (.const (.int .i64 127)) 3, 4, "", #[], some (58, false)⟩,
    ⟨some 61, .pick (.tmp 58) (.const (.bool true)) (.tmp 60), 4, "", #[], none⟩] false)
  (.cond (.tmp 61)
    (.seq (.region 14 #[⟨some 2, .assign (.const (.int .i64 0)), 3, "", #[], none⟩,
      ⟨some 3, .assign (.const (.int .i64 0)), 3, "", #[], none⟩,
      ⟨some 4, .assign (.const (.int .i64 10)), 23, "", #[], none⟩] false)
    .ret)
    .skip))
  (.seq (.region 15 #[⟨some 62, .move (.tmp 2), 3, "", #[], none⟩,
    ⟨some 63, .move (.tmp 6), 3, "", #[], none⟩,
    ⟨some 64, .binOp .add 3 (.tmp 63) (.const (.int .i64 1)) 3, 3, "", #[], none⟩,
    ⟨some 2, .assign (.tmp 62), 3, "", #[], none⟩,
    ⟨some 3, .assign (.tmp 64), 3, "", #[], none⟩,
    ⟨some 4, .assign (.const (.int .i64 0)), 23, "", #[], none⟩] false)
  .ret))))))))))
def fn44 : AFn := { ntmps := 65, results := [.tmp 2, .tmp 3, .tmp 4], body := c44, keep := fun | 0 => some [0, 27, 28, 59, 60] | 1 => some [0, 9, 27, 28, 59, 60] | 2 => some [2, 3, 4] | 3 => some [0, 13, 27, 28, 59, 60] | 4 => some [2, 3, 4] | 5 => some [0, 5, 27, 28, 59, 60] | 6 => some [0, 5, 6, 27, 28, 59, 60] | 7 => some [0, 5, 6, 23, 59, 60] | 8 => some [2, 3, 4] | 9 => some [0, 5, 6, 30, 59, 60] | 10 => some [2, 3, 4] | 11 => some [0, 5, 6, 59, 60] | 12 => some [0, 2, 6, 59, 60] | 13 => some [2, 6, 61] | 14 => some [2, 3, 4] | 15 => some [2, 3, 4] | _ => none, head := fun  | _ => none }
def fnTab : List (Option AFn) := [none, none, none, some fn3, some fn4, some fn5, some fn6, some fn7, none, none, none, none, none, some fn13, some fn14, some fn15, some fn16, some fn17, some fn18, some fn19, some fn20, none, none, none, none, none, none, none, none, none, none, none, none, none, none, none, none, none, none, none, none, none, some fn42, some fn43, some fn44]
def tyTab : List (Option TyI) := [
  none,
  some ⟨.func, 1, 8, [.nilf], false⟩,
  some ⟨.int .i64, 1, 8, [.int .i64 0], false⟩,
  some ⟨.int .i64, 1, 8, [.int .i64 0], false⟩,
  some ⟨.bool, 1, 1, [.bool false], false⟩,
  some ⟨.int .u8, 1, 1, [.int .u8 0], false⟩,
  some ⟨.int .u8, 1, 1, [.int .u8 0], false⟩,
  some ⟨.strct [(0, 2), (1, 3), (2, 4), (3, 6)], 4, 24, [.int .i64 0, .int .i64 0, .bool false, .int .u8 0], false⟩,
  some ⟨.strct [(0, 2), (1, 3), (2, 4), (3, 6)], 4, 24, [.int .i64 0, .int .i64 0, .bool false, .int .u8 0], false⟩,
  some ⟨.str, 1, 16, [.str []], false⟩,
  some ⟨.str, 1, 16, [.str []], false⟩,
  some ⟨.str, 1, 16, [.str []], false⟩,
  some ⟨.int .u64, 1, 8, [.int .u64 0], false⟩,
  some ⟨.strct [(0, 9), (1, 12)], 2, 24, [.str [], .int .u64 0], false⟩,
  some ⟨.strct [(0, 9), (1, 12)], 2, 24, [.str [], .int .u64 0], false⟩,
  some ⟨.ptr 88, 1, 8, [.nilp], false⟩,
  some ⟨.ptr 91, 1, 8, [.nilp], false⟩,
  some ⟨.ptr 100, 1, 8, [.nilp], false⟩,
  some ⟨.strct [(0, 17)], 1, 8, [.nilp], false⟩,
  some ⟨.strct [(0, 17)], 1, 8, [.nilp], false⟩,
  some ⟨.iface, 1, 16, [.nili], false⟩,
  some ⟨.int .i32, 1, 4, [.int .i32 0], false⟩,
  some ⟨.slice 5, 1, 24, [.sl true [] (some 0)], false⟩,
  some ⟨.int .i64, 1, 8, [.int .i64 0], false⟩,
  none,
  some ⟨.func, 1, 8, [.nilf], false⟩,
  some ⟨.func, 1, 8, [.nilf], false⟩,
  some ⟨.func, 1, 8, [.nilf], false⟩,
  some ⟨.func, 1, 8, [.nilf], false⟩,
  some ⟨.func, 1, 8, [.nilf], false⟩,
  some ⟨.func, 1, 8, [.nilf], false⟩,
  some ⟨.int .u32, 1, 4, [.int .u32 0], false⟩,
  some ⟨.func, 1, 8, [.nilf], false⟩,
  some ⟨.func, 1, 8, [.nilf], false⟩,
  none,
  some ⟨.func, 1, 8, [.nilf], false⟩,
  some ⟨.func, 1, 8, [.nilf], false⟩,
  some ⟨.func, 1, 8, [.nilf], false⟩,
  some ⟨.func, 1, 8, [.nilf], false⟩,
  some ⟨.slice 3, 1, 24, [.sl true [] (some 0)], false⟩,
  none,
  some ⟨.func, 1, 8, [.nilf], false⟩,
  some ⟨.func, 1, 8, [.nilf], false⟩,
  some ⟨.func, 1, 8, [.nilf], false⟩,
  some ⟨.func, 1, 8, [.nilf], false⟩,
  some ⟨.int .u64, 1, 8, [.int .u64 0], false⟩,
  none,
  some ⟨.func, 1, 8, [.nilf], false⟩,
  some ⟨.func, 1, 8, [.nilf], false⟩,
  some ⟨.func, 1, 8, [.nilf], false⟩,
  some ⟨.func, 1, 8, [.nilf], false⟩,
  some ⟨.int .u64, 1, 8, [.int .u64 0], false⟩,
  none,
  some ⟨.func, 1, 8, [.nilf], false⟩,
  some ⟨.int .u8, 1, 1, [.int .u8 0], false⟩,
  some ⟨.strct [(0, 54), (1, 4), (2, 31)], 3, 8, [.int .u8 0, .bool false, .int .u32 0], false⟩,
  some ⟨.strct [(0, 54), (1, 4), (2, 31)], 3, 8, [.int .u8 0, .bool false, .int .u32 0], false⟩,
  some ⟨.slice 59, 1, 24, [.sl true [] (some 0)], false⟩,
  some ⟨.strct [(0, 56), (3, 22), (4, 57)], 5, 56, [.int .u8 0, .bool false, .int .u32 0, .sl true [] (some 0), .sl true [] (some 0)], false⟩,
  some ⟨.strct [(0, 56), (3, 22), (4, 57)], 5, 56, [.int .u8 0, .bool false, .int .u32 0, .sl true [] (some 0), .sl true [] (some 0)], false⟩,
  none,
  some ⟨.func, 1, 8, [.nilf], false⟩,
  some ⟨.func, 1, 8, [.nilf], false⟩,
  some ⟨.strct [(0, 22)], 1, 24, [.sl true [] (some 0)], false⟩,
  some ⟨.strct [(0, 22)], 1, 24, [.sl true [] (some 0)], false⟩,
  some ⟨.func, 1, 8, [.nilf], false⟩,
  some ⟨.func, 1, 8, [.nilf], false⟩,
  some ⟨.func, 1, 8, [.nilf], false⟩,
  some ⟨.func, 1, 8, [.nilf], false⟩,
  some ⟨.func, 1, 8, [.nilf], false⟩,
  some ⟨.func, 1, 8, [.nilf], false⟩,
  some ⟨.func, 1, 8, [.nilf], false⟩,
  some ⟨.func, 1, 8, [.nilf], false⟩,
  some ⟨.func, 1, 8, [.nilf], false⟩,
  some ⟨.func, 1, 8, [.nilf], false⟩,
  some ⟨.func, 1, 8, [.nilf], false⟩,
  none,
  some ⟨.func, 1, 8, [.nilf], false⟩,
  some ⟨.func, 1, 8, [.nilf], false⟩,
  some ⟨.func, 1, 8, [.nilf], false⟩,
  none,
  some ⟨.func, 1, 8, [.nilf], false⟩,
  some ⟨.func, 1, 8, [.nilf], false⟩,
  some ⟨.func, 1, 8, [.nilf], false⟩,
  some ⟨.arr 3 5, 3, 3, [.int .u8 0, .int .u8 0, .int .u8 0], false⟩,
  some ⟨.arr 3 5, 3, 3, [.int .u8 0, .int .u8 0, .int .u8 0], false⟩,
  some ⟨.func, 1, 8, [.nilf], false⟩,
  some ⟨.strct [(0, 17), (1, 17), (2, 17), (3, 9)], 4, 40, [.nilp, .nilp, .nilp, .str []], false⟩,
  some ⟨.strct [(0, 17), (1, 17), (2, 17), (3, 9)], 4, 40, [.nilp, .nilp, .nilp, .str []], false⟩,
  some ⟨.arr 0 16, 0, 0, [], false⟩,
  some ⟨.strct [(0, 89)], 0, 0, [], false⟩,
  some ⟨.strct [(0, 89)], 0, 0, [], false⟩,
  some ⟨.func, 1, 8, [.nilf], false⟩,
  some ⟨.int .u8, 1, 1, [.int .u8 0], false⟩,
  some ⟨.int .u8, 1, 1, [.int .u8 0], false⟩,
  some ⟨.func, 1, 8, [.nilf], false⟩,
  some ⟨.ptr 5, 1, 8, [.nilp], false⟩,
  some ⟨.int .i32, 1, 4, [.int .i32 0], false⟩,
  some ⟨.int .i32, 1, 4, [.int .i32 0], false⟩,
  some ⟨.strct [(0, 12), (1, 12), (2, 31), (3, 93), (4, 5), (5, 5), (6, 94), (7, 95), (8, 96), (9, 97), (10, 98)], 11, 48, [.int .u64 0, .int .u64 0, .int .u32 0, .int .u8 0, .int .u8 0, .int .u8 0, .int .u8 0, .nilf, .nilp, .int .i32 0, .int .i32 0], false⟩,
  some ⟨.strct [(0, 12), (1, 12), (2, 31), (3, 93), (4, 5), (5, 5), (6, 94), (7, 95), (8, 96), (9, 97), (10, 98)], 11, 48, [.int .u64 0, .int .u64 0, .int .u32 0, .int .u8 0, .int .u8 0, .int .u8 0, .int .u8 0, .nilf, .nilp, .int .i32 0, .int .i32 0], false⟩,
  none]
def E : Env := { fn := getT fnTab, ty := getT tyTab, prim := fun _ => none, byRef := fun _ => false, glob := fun _ => none }
@[simp] theorem E_prim (i) : E.prim i = none := rfl
@[simp] theorem E_glob (i) : E.glob i = none := rfl
@[simp] theorem ntmps_3 : fn3.ntmps = 55 := rfl
@[simp] theorem results_3 : fn3.results = [.tmp 2] := rfl
theorem body_3 : fn3.body = c3 := rfl
@[simp] theorem keep_3_0 : fn3.keep 0 = some [0, 18, 19, 20, 23, 32, 33, 34, 37, 46, 47, 48, 49, 50, 53] := rfl
@[simp] theorem keep_3_1 : fn3.keep 1 = some [0, 3, 4, 18, 19, 20, 23, 32, 33, 34, 37, 46, 47, 48, 49, 50, 53] := rfl
@[simp] theorem keep_3_2 : fn3.keep 2 = some [0, 3, 4, 11, 18, 19, 20, 23, 32, 33, 34, 37, 46, 47, 48, 49, 50, 53] := rfl
@[simp] theorem keep_3_3 : fn3.keep 3 = some [2] := rfl
@[simp] theorem keep_3_4 : fn3.keep 4 = some [0, 3, 4, 25, 32, 33, 34, 37, 46, 47, 48, 49, 50, 53] := rfl
@[simp] theorem keep_3_5 : fn3.keep 5 = some [2] := rfl
@[simp] theorem keep_3_6 : fn3.keep 6 = some [0, 3, 4, 5, 46, 47, 48, 49, 50, 53] := rfl
@[simp] theorem keep_3_7 : fn3.keep 7 = some [2] := rfl
@[simp] theorem ntmps_4 : fn4.ntmps = 57 := rfl
@[simp] theorem results_4 : fn4.results = [.tmp 6] := rfl
theorem body_4 : fn4.body = c4 := rfl
@[simp] theorem keep_4_0 : fn4.keep 0 = some [0, 1, 2, 25, 26, 27, 30, 31, 32, 35, 36, 37, 38, 39, 40, 41, 42, 43, 44, 55] := rfl
@[simp] theorem keep_4_1 : fn4.keep 1 = some [0, 1, 2, 12, 25, 26, 27, 30, 31, 32, 35, 36, 37, 38, 39, 40, 41, 42, 43, 44, 55] := rfl
@[simp] theorem keep_4_2 : fn4.keep 2 = some [6] := rfl
@[simp] theorem keep_4_3 : fn4.keep 3 = some [1, 2, 7, 25, 26, 27, 30, 31, 32, 35, 36, 37, 38, 39, 40, 41, 42, 43, 44, 55] := rfl
@[simp] theorem keep_4_4 : fn4.keep 4 = some [1, 2, 7, 8, 9, 25, 26, 27, 30, 31, 32, 35, 36, 37, 38, 39, 40, 41, 42, 43, 44, 55] := rfl
@[simp] theorem keep_4_5 : fn4.keep 5 = some [2, 8, 45, 55] := rfl
@[simp] theorem keep_4_6 : fn4.keep 6 = some [6] := rfl
@[simp] theorem keep_4_7 : fn4.keep 7 = some [6] := rfl
@[simp] theorem ntmps_5 : fn5.ntmps = 41 := rfl
@[simp] theorem results_5 : fn5.results = [.tmp 2] := rfl
theorem body_5 : fn5.body = c5 := rfl
@[simp] theorem keep_5_0 : fn5.keep 0 = some [0, 39] := rfl
@[simp] theorem keep_5_1 : fn5.keep 1 = some [0, 10, 39] := rfl
@[simp] theorem keep_5_2 : fn5.keep 2 = some [2] := rfl
@[simp] theorem keep_5_3 : fn5.keep 3 = some [0, 3, 4, 5, 39] := rfl
@[simp] theorem keep_5_4 : fn5.keep 4 = some [0, 3, 4, 5, 23, 39] := rfl
@[simp] theorem keep_5_5 : fn5.keep 5 = some [2] := rfl
@[simp] theorem keep_5_6 : fn5.keep 6 = some [0, 3, 4, 25, 39] := rfl
@[simp] theorem keep_5_7 : fn5.keep 7 = some [2] := rfl
@[simp] theorem keep_5_8 : fn5.keep 8 = some [0, 4, 6, 7, 39] := rfl
@[simp] theorem keep_5_9 : fn5.keep 9 = some [2] := rfl
@[simp] theorem ntmps_6 : fn6.ntmps = 82 := rfl
@[simp] theorem results_6 : fn6.results = [.tmp 6] := rfl
theorem body_6 : fn6.body = c6 := rfl
@[simp] theorem keep_6_0 : fn6.keep 0 = some [0, 1, 2, 31, 32, 37, 38, 41, 49, 50, 51, 52, 53, 54, 55, 56, 59, 60, 61, 62, 63, 64, 65, 68, 69, 70, 73, 74, 75, 76, 77, 80] := rfl
@[simp] theorem keep_6_1 : fn6.keep 1 = some [2, 7, 8, 31, 32, 37, 38, 41, 49, 50, 51, 52, 53, 54, 55, 56, 59, 60, 61, 62, 63, 64, 65, 68, 69, 70, 73, 74, 75, 76, 77, 80] := rfl
@[simp] theorem keep_6_2 : fn6.keep 2 = some [2, 7, 8, 19, 31, 32, 37, 38, 41, 49, 50, 51, 52, 53, 54, 55, 56, 59, 60, 61, 62, 63, 64, 65, 68, 69, 70, 73, 74, 75, 76, 77, 80] := rfl
@[simp] theorem keep_6_3 : fn6.keep 3 = some [2, 7, 8, 31, 32, 37, 38, 41, 49, 50, 51, 52, 53, 54, 55, 56, 59, 60, 61, 62, 63, 64, 65, 68, 69, 70, 73, 74, 75, 76, 77, 80] := rfl
@[simp] theorem keep_6_4 : fn6.keep 4 = some [2, 7, 8, 9, 10, 31, 32, 37, 38, 41, 49, 50, 51, 52, 53, 54, 55, 56, 59, 60, 61, 62, 63, 64, 65, 68, 69, 70, 73, 74, 75, 76, 77, 80] := rfl
@[simp] theorem keep_6_5 : fn6.keep 5 = some [2, 7, 8, 9, 10, 33, 37, 38, 41, 49, 50, 51, 52, 53, 54, 55, 56, 59, 60, 61, 62, 63, 64, 65, 68, 69, 70, 73, 74, 75, 76, 77, 80] := rfl
@[simp] theorem keep_6_6 : fn6.keep 6 = some [6] := rfl
@[simp] theorem keep_6_7 : fn6.keep 7 = some [6] := rfl
@[simp] theorem ntmps_7 : fn7.ntmps = 94 := rfl
@[simp] theorem results_7 : fn7.results = [.tmp 0] := rfl
theorem body_7 : fn7.body = c7 := rfl
@[simp] theorem keep_7_0 : fn7.keep 0 = some [24, 25, 26, 27, 28, 29, 30, 31, 32, 33, 34, 35, 36, 37, 38, 39, 42, 43, 44, 45, 46, 47, 50, 51, 52, 53, 54, 55, 56, 68, 69, 70, 71, 72, 75, 76, 77, 78, 79, 84, 85, 88, 89, 92] := rfl
@[simp] theorem keep_7_1 : fn7.keep 1 = some [1, 24, 25, 26, 27, 28, 29, 30, 31, 32, 33, 34, 35, 36, 37, 38, 39, 42, 43, 44, 45, 46, 47, 50, 51, 52, 53, 54, 55, 56, 68, 69, 70, 71, 72, 75, 76, 77, 78, 79, 84, 85, 88, 89, 92] := rfl
@[simp] theorem keep_7_2 : fn7.keep 2 = some [1, 2, 24, 25, 26, 27, 28, 29, 30, 31, 32, 33, 34, 35, 36, 37, 38, 39, 42, 43, 44, 45, 46, 47, 50, 51, 52, 53, 54, 55, 56, 68, 69, 70, 71, 72, 75, 76, 77, 78, 79, 84, 85, 88, 89, 92] := rfl
@[simp] theorem keep_7_3 : fn7.keep 3 = some [1, 2, 3, 24, 25, 26, 27, 28, 29, 30, 31, 32, 33, 34, 35, 36, 37, 38, 39, 42, 43, 44, 45, 46, 47, 50, 51, 52, 53, 54, 55, 56, 68, 69, 70, 71, 72, 75, 76, 77, 78, 79, 84, 85, 88, 89, 92] := rfl
@[simp] theorem keep_7_4 : fn7.keep 4 = some [1, 2, 3, 10, 24, 25, 26, 27, 28, 29, 30, 31, 32, 33, 34, 35, 36, 37, 38, 39, 42, 43, 44, 45, 46, 47, 50, 51, 52, 53, 54, 55, 56, 68, 69, 70, 71, 72, 75, 76, 77, 78, 79, 84, 85, 88, 89, 92] := rfl
@[simp] theorem keep_7_5 : fn7.keep 5 = some [1, 2, 3, 24, 25, 26, 27, 28, 29, 30, 31, 32, 33, 34, 35, 36, 37, 38, 39, 42, 43, 44, 45, 46, 47, 50, 51, 52, 53, 54, 55, 56, 68, 69, 70, 71, 72, 75, 76, 77, 78, 79, 84, 85, 88, 89, 92] := rfl
@[simp] theorem keep_7_6 : fn7.keep 6 = some [1, 2, 3, 24, 25, 26, 27, 28, 29, 30, 31, 32, 33, 34, 35, 36, 37, 38, 39, 42, 43, 44, 45, 46, 47, 50, 51, 52, 53, 54, 55, 56, 57, 68, 69, 70, 71, 72, 75, 76, 77, 78, 79, 84, 85, 88, 89, 92] := rfl
@[simp] theorem keep_7_7 : fn7.keep 7 = some [0] := rfl
@[simp] theorem keep_7_8 : fn7.keep 8 = some [4, 68, 69, 70, 71, 72, 75, 76, 77, 78, 79, 84, 85, 88, 89, 92] := rfl
@[simp] theorem keep_7_9 : fn7.keep 9 = some [4, 59, 68, 69, 70, 71, 72, 75, 76, 77, 78, 79, 84, 85, 88, 89, 92] := rfl
@[simp] theorem keep_7_10 : fn7.keep 10 = some [4, 68, 69, 70, 71, 72, 75, 76, 77, 78, 79, 84, 85, 88, 89, 92] := rfl
@[simp] theorem keep_7_11 : fn7.keep 11 = some [4, 68, 69, 70, 71, 72, 75, 76, 77, 78, 79, 80, 84, 85, 88, 89, 92] := rfl
@[simp] theorem keep_7_12 : fn7.keep 12 = some [0] := rfl
@[simp] theorem keep_7_13 : fn7.keep 13 = some [0] := rfl
@[simp] theorem head_7_4 : fn7.head 4 = some [1, 2, 3, 24, 25, 26, 27, 28, 29, 30, 31, 32, 33, 34, 35, 36, 37, 38, 39, 42, 43, 44, 45, 46, 47, 50, 51, 52, 53, 54, 55, 56, 68, 69, 70, 71, 72, 75, 76, 77, 78, 79, 84, 85, 88, 89, 92] := rfl
@[simp] theorem head_7_9 : fn7.head 9 = some [4, 68, 69, 70, 71, 72, 75, 76, 77, 78, 79, 84, 85, 88, 89, 92] := rfl
@[simp] theorem ntmps_13 : fn13.ntmps = 50 := rfl
@[simp] theorem results_13 : fn13.results = [.tmp 2, .tmp 3] := rfl
theorem body_13 : fn13.body = c13 := rfl
@[simp] theorem keep_13_0 : fn13.keep 0 = some [0] := rfl
@[simp] theorem keep_13_1 : fn13.keep 1 = some [0, 5] := rfl
@[simp] theorem keep_13_2 : fn13.keep 2 = some [2, 3] := rfl
@[simp] theorem keep_13_3 : fn13.keep 3 = some [0, 8] := rfl
@[simp] theorem keep_13_4 : fn13.keep 4 = some [2, 3] := rfl
@[simp] theorem keep_13_5 : fn13.keep 5 = some [0, 11] := rfl
@[simp] theorem keep_13_6 : fn13.keep 6 = some [2, 3] := rfl
@[simp] theorem keep_13_7 : fn13.keep 7 = some [0, 4] := rfl
@[simp] theorem keep_13_8 : fn13.keep 8 = some [0, 4, 18] := rfl
@[simp] theorem keep_13_9 : fn13.keep 9 = some [0, 4, 21] := rfl
@[simp] theorem keep_13_10 : fn13.keep 10 = some [0, 4] := rfl
@[simp] theorem keep_13_11 : fn13.keep 11 = some [0, 4] := rfl
@[simp] theorem keep_13_12 : fn13.keep 12 = some [4] := rfl
@[simp] theorem keep_13_13 : fn13.keep 13 = some [4] := rfl
@[simp] theorem keep_13_14 : fn13.keep 14 = some [2, 3] := rfl
@[simp] theorem ntmps_14 : fn14.ntmps = 26 := rfl
@[simp] theorem results_14 : fn14.results = [.tmp 8] := rfl
theorem body_14 : fn14.body = c14 := rfl
@[simp] theorem keep_14_0 : fn14.keep 0 = some [0, 1, 2, 3, 13, 14, 15, 16, 17, 20, 21, 22, 23, 24] := rfl
@[simp] theorem keep_14_1 : fn14.keep 1 = some [8] := rfl
@[simp] theorem ntmps_15 : fn15.ntmps = 12 := rfl
@[simp] theorem results_15 : fn15.results = [.tmp 2] := rfl
theorem body_15 : fn15.body = c15 := rfl
@[simp] theorem keep_15_0 : fn15.keep 0 = some [0] := rfl
@[simp] theorem keep_15_1 : fn15.keep 1 = some [3] := rfl
@[simp] theorem keep_15_2 : fn15.keep 2 = some [2] := rfl
@[simp] theorem ntmps_16 : fn16.ntmps = 81 := rfl
@[simp] theorem results_16 : fn16.results = [.tmp 0] := rfl
theorem body_16 : fn16.body = c16 := rfl
@[simp] theorem keep_16_0 : fn16.keep 0 = some [16, 17, 20, 21, 24, 25, 28, 29, 32, 33, 36, 37, 40, 41, 44, 45, 51, 52, 53, 56, 57, 58, 62, 63, 66, 67, 70, 71, 74, 75, 78, 79] := rfl
@[simp] theorem keep_16_1 : fn16.keep 1 = some [2, 16, 17, 20, 21, 24, 25, 28, 29, 32, 33, 36, 37, 40, 41, 44, 45, 51, 52, 53, 56, 57, 58, 62, 63, 66, 67, 70, 71, 74, 75, 78, 79] := rfl
@[simp] theorem keep_16_2 : fn16.keep 2 = some [2, 4, 16, 17, 20, 21, 24, 25, 28, 29, 32, 33, 36, 37, 40, 41, 44, 45, 51, 52, 53, 56, 57, 58, 62, 63, 66, 67, 70, 71, 74, 75, 78, 79] := rfl
@[simp] theorem keep_16_3 : fn16.keep 3 = some [46, 51, 52, 53, 56, 57, 58, 62, 63, 66, 67, 70, 71, 74, 75, 78, 79] := rfl
@[simp] theorem keep_16_4 : fn16.keep 4 = some [0] := rfl
@[simp] theorem keep_16_5 : fn16.keep 5 = some [59, 62, 63, 66, 67, 70, 71, 74, 75, 78, 79] := rfl
@[simp] theorem keep_16_6 : fn16.keep 6 = some [0] := rfl
@[simp] theorem keep_16_7 : fn16.keep 7 = some [0] := rfl
@[simp] theorem ntmps_17 : fn17.ntmps = 26 := rfl
@[simp] theorem results_17 : fn17.results = [.tmp 2] := rfl
theorem body_17 : fn17.body = c17 := rfl
@[simp] theorem keep_17_0 : fn17.keep 0 = some [0] := rfl
@[simp] theorem keep_17_1 : fn17.keep 1 = some [0, 5] := rfl
@[simp] theorem keep_17_2 : fn17.keep 2 = some [2] := rfl
@[simp] theorem keep_17_3 : fn17.keep 3 = some [0, 3] := rfl
@[simp] theorem keep_17_4 : fn17.keep 4 = some [0, 3, 10] := rfl
@[simp] theorem keep_17_5 : fn17.keep 5 = some [0, 3] := rfl
@[simp] theorem keep_17_6 : fn17.keep 6 = some [0, 3] := rfl
@[simp] theorem keep_17_7 : fn17.keep 7 = some [2] := rfl
@[simp] theorem head_17_4 : fn17.head 4 = some [0, 3] := rfl
@[simp] theorem ntmps_18 : fn18.ntmps = 31 := rfl
@[simp] theorem results_18 : fn18.results = [.tmp 8] := rfl
theorem body_18 : fn18.body = c18 := rfl
@[simp] theorem keep_18_0 : fn18.keep 0 = some [0, 1, 2, 3, 22, 23, 24, 27, 28, 29] := rfl
@[simp] theorem keep_18_1 : fn18.keep 1 = some [1, 2, 3, 9, 10, 11, 22, 23, 24, 27, 28, 29] := rfl
@[simp] theorem keep_18_2 : fn18.keep 2 = some [8] := rfl
@[simp] theorem ntmps_19 : fn19.ntmps = 59 := rfl
@[simp] theorem results_19 : fn19.results = [.tmp 2, .tmp 3, .tmp 4] := rfl
theorem body_19 : fn19.body = c19 := rfl
@[simp] theorem keep_19_0 : fn19.keep 0 = some [0, 27, 28, 53, 54] := rfl
@[simp] theorem keep_19_1 : fn19.keep 1 = some [0, 10, 27, 28, 53, 54] := rfl
@[simp] theorem keep_19_2 : fn19.keep 2 = some [2, 3, 4] := rfl
@[simp] theorem keep_19_3 : fn19.keep 3 = some [0, 14, 27, 28, 53, 54] := rfl
@[simp] theorem keep_19_4 : fn19.keep 4 = some [2, 3, 4] := rfl
@[simp] theorem keep_19_5 : fn19.keep 5 = some [0, 5, 27, 28, 53, 54] := rfl
@[simp] theorem keep_19_6 : fn19.keep 6 = some [0, 5, 29, 53, 54] := rfl
@[simp] theorem keep_19_7 : fn19.keep 7 = some [2, 3, 4] := rfl
@[simp] theorem keep_19_8 : fn19.keep 8 = some [0, 5, 34, 53, 54] := rfl
@[simp] theorem keep_19_9 : fn19.keep 9 = some [2, 3, 4] := rfl
@[simp] theorem keep_19_10 : fn19.keep 10 = some [0, 5, 6, 53, 54] := rfl
@[simp] theorem keep_19_11 : fn19.keep 11 = some [0, 5, 6, 7, 53, 54] := rfl
@[simp] theorem keep_19_12 : fn19.keep 12 = some [0, 5, 6, 7, 37, 53, 54] := rfl
@[simp] theorem keep_19_13 : fn19.keep 13 = some [0, 5, 6, 7, 53, 54] := rfl
@[simp] theorem keep_19_14 : fn19.keep 14 = some [0, 5, 6, 7, 53, 54] := rfl
@[simp] theorem keep_19_15 : fn19.keep 15 = some [5, 6, 55] := rfl
@[simp] theorem keep_19_16 : fn19.keep 16 = some [2, 3, 4] := rfl
@[simp] theorem keep_19_17 : fn19.keep 17 = some [2, 3, 4] := rfl
@[simp] theorem head_19_12 : fn19.head 12 = some [0, 5, 6, 7, 53, 54] := rfl
@[simp] theorem ntmps_20 : fn20.ntmps = 22 := rfl
@[simp] theorem results_20 : fn20.results = [.tmp 4] := rfl
theorem body_20 : fn20.body = c20 := rfl
@[simp] theorem keep_20_0 : fn20.keep 0 = some [0, 1, 8, 9, 12, 13, 14] := rfl
@[simp] theorem keep_20_1 : fn20.keep 1 = some [0, 1, 15] := rfl
@[simp] theorem keep_20_2 : fn20.keep 2 = some [4] := rfl
@[simp] theorem keep_20_3 : fn20.keep 3 = some [4] := rfl
@[simp] theorem ntmps_42 : fn42.ntmps = 9 := rfl
@[simp] theorem results_42 : fn42.results = [.tmp 2] := rfl
theorem body_42 : fn42.body = c42 := rfl
@[simp] theorem keep_42_0 : fn42.keep 0 = some [0] := rfl
@[simp] theorem keep_42_1 : fn42.keep 1 = some [2] := rfl
@[simp] theorem ntmps_43 : fn43.ntmps = 17 := rfl
@[simp] theorem results_43 : fn43.results = [.tmp 4] := rfl
theorem body_43 : fn43.body = c43 := rfl
@[simp] theorem keep_43_0 : fn43.keep 0 = some [0, 1] := rfl
@[simp] theorem keep_43_1 : fn43.keep 1 = some [1, 5, 6] := rfl
@[simp] theorem keep_43_2 : fn43.keep 2 = some [4] := rfl
@[simp] theorem ntmps_44 : fn44.ntmps = 65 := rfl
@[simp] theorem results_44 : fn44.results = [.tmp 2, .tmp 3, .tmp 4] := rfl
theorem body_44 : fn44.body = c44 := rfl
@[simp] theorem keep_44_0 : fn44.keep 0 = some [0, 27, 28, 59, 60] := rfl
@[simp] theorem keep_44_1 : fn44.keep 1 = some [0, 9, 27, 28, 59, 60] := rfl
@[simp] theorem keep_44_2 : fn44.keep 2 = some [2, 3, 4] := rfl
@[simp] theorem keep_44_3 : fn44.keep 3 = some [0, 13, 27, 28, 59, 60] := rfl
@[simp] theorem keep_44_4 : fn44.keep 4 = some [2, 3, 4] := rfl
@[simp] theorem keep_44_5 : fn44.keep 5 = some [0, 5, 27, 28, 59, 60] := rfl
@[simp] theorem keep_44_6 : fn44.keep 6 = some [0, 5, 6, 27, 28, 59, 60] := rfl
@[simp] theorem keep_44_7 : fn44.keep 7 = some [0, 5, 6, 23, 59, 60] := rfl
@[simp] theorem keep_44_8 : fn44.keep 8 = some [2, 3, 4] := rfl
@[simp] theorem keep_44_9 : fn44.keep 9 = some [0, 5, 6, 30, 59, 60] := rfl
@[simp] theorem keep_44_10 : fn44.keep 10 = some [2, 3, 4] := rfl
@[simp] theorem keep_44_11 : fn44.keep 11 = some [0, 5, 6, 59, 60] := rfl
@[simp] theorem keep_44_12 : fn44.keep 12 = some [0, 2, 6, 59, 60] := rfl
@[simp] theorem keep_44_13 : fn44.keep 13 = some [2, 6, 61] := rfl
@[simp] theorem keep_44_14 : fn44.keep 14 = some [2, 3, 4] := rfl
@[simp] theorem keep_44_15 : fn44.keep 15 = some [2, 3, 4] := rfl
@[simp] theorem E_fn3 : E.fn 3 = some fn3 := rfl
@[simp] theorem E_fn4 : E.fn 4 = some fn4 := rfl
@[simp] theorem E_fn5 : E.fn 5 = some fn5 := rfl
@[simp] theorem E_fn6 : E.fn 6 = some fn6 := rfl
@[simp] theorem E_fn7 : E.fn 7 = some fn7 := rfl
@[simp] theorem E_fn13 : E.fn 13 = some fn13 := rfl
@[simp] theorem E_fn14 : E.fn 14 = some fn14 := rfl
@[simp] theorem E_fn15 : E.fn 15 = some fn15 := rfl
@[simp] theorem E_fn16 : E.fn 16 = some fn16 := rfl
@[simp] theorem E_fn17 : E.fn 17 = some fn17 := rfl
@[simp] theorem E_fn18 : E.fn 18 = some fn18 := rfl
@[simp] theorem E_fn19 : E.fn 19 = some fn19 := rfl
@[simp] theorem E_fn20 : E.fn 20 = some fn20 := rfl
@[simp] theorem E_fn42 : E.fn 42 = some fn42 := rfl
@[simp] theorem E_fn43 : E.fn 43 = some fn43 := rfl
@[simp] theorem E_fn44 : E.fn 44 = some fn44 := rfl
@[simp] theorem E_ty1 : E.ty 1 = some ⟨.func, 1, 8, [.nilf], false⟩ := rfl
@[simp] theorem E_ty2 : E.ty 2 = some ⟨.int .i64, 1, 8, [.int .i64 0], false⟩ := rfl
@[simp] theorem E_ty3 : E.ty 3 = some ⟨.int .i64, 1, 8, [.int .i64 0], false⟩ := rfl
@[simp] theorem E_ty4 : E.ty 4 = some ⟨.bool, 1, 1, [.bool false], false⟩ := rfl
@[simp] theorem E_ty5 : E.ty 5 = some ⟨.int .u8, 1, 1, [.int .u8 0], false⟩ := rfl
@[simp] theorem E_ty6 : E.ty 6 = some ⟨.int .u8, 1, 1, [.int .u8 0], false⟩ := rfl
@[simp] theorem E_ty7 : E.ty 7 = some ⟨.strct [(0, 2), (1, 3), (2, 4), (3, 6)], 4, 24, [.int .i64 0, .int .i64 0, .bool false, .int .u8 0], false⟩ := rfl
@[simp] theorem E_ty8 : E.ty 8 = some ⟨.strct [(0, 2), (1, 3), (2, 4), (3, 6)], 4, 24, [.int .i64 0, .int .i64 0, .bool false, .int .u8 0], false⟩ := rfl
@[simp] theorem E_ty9 : E.ty 9 = some ⟨.str, 1, 16, [.str []], false⟩ := rfl
@[simp] theorem E_ty10 : E.ty 10 = some ⟨.str, 1, 16, [.str []], false⟩ := rfl
@[simp] theorem E_ty11 : E.ty 11 = some ⟨.str, 1, 16, [.str []], false⟩ := rfl
@[simp] theorem E_ty12 : E.ty 12 = some ⟨.int .u64, 1, 8, [.int .u64 0], false⟩ := rfl
@[simp] theorem E_ty13 : E.ty 13 = some ⟨.strct [(0, 9), (1, 12)], 2, 24, [.str [], .int .u64 0], false⟩ := rfl
@[simp] theorem E_ty14 : E.ty 14 = some ⟨.strct [(0, 9), (1, 12)], 2, 24, [.str [], .int .u64 0], false⟩ := rfl
@[simp] theorem E_ty15 : E.ty 15 = some ⟨.ptr 88, 1, 8, [.nilp], false⟩ := rfl
@[simp] theorem E_ty16 : E.ty 16 = some ⟨.ptr 91, 1, 8, [.nilp], false⟩ := rfl
@[simp] theorem E_ty17 : E.ty 17 = some ⟨.ptr 100, 1, 8, [.nilp], false⟩ := rfl
@[simp] theorem E_ty18 : E.ty 18 = some ⟨.strct [(0, 17)], 1, 8, [.nilp], false⟩ := rfl
@[simp] theorem E_ty19 : E.ty 19 = some ⟨.strct [(0, 17)], 1, 8, [.nilp], false⟩ := rfl
@[simp] theorem E_ty20 : E.ty 20 = some ⟨.iface, 1, 16, [.nili], false⟩ := rfl
@[simp] theorem E_ty21 : E.ty 21 = some ⟨.int .i32, 1, 4, [.int .i32 0], false⟩ := rfl
@[simp] theorem E_ty22 : E.ty 22 = some ⟨.slice 5, 1, 24, [.sl true [] (some 0)], false⟩ := rfl
@[simp] theorem E_ty23 : E.ty 23 = some ⟨.int .i64, 1, 8, [.int .i64 0], false⟩ := rfl
@[simp] theorem E_ty25 : E.ty 25 = some ⟨.func, 1, 8, [.nilf], false⟩ := rfl
@[simp] theorem E_ty26 : E.ty 26 = some ⟨.func, 1, 8, [.nilf], false⟩ := rfl
@[simp] theorem E_ty27 : E.ty 27 = some ⟨.func, 1, 8, [.nilf], false⟩ := rfl
@[simp] theorem E_ty28 : E.ty 28 = some ⟨.func, 1, 8, [.nilf], false⟩ := rfl
@[simp] theorem E_ty29 : E.ty 29 = some ⟨.func, 1, 8, [.nilf], false⟩ := rfl
@[simp] theorem E_ty30 : E.ty 30 = some ⟨.func, 1, 8, [.nilf], false⟩ := rfl
@[simp] theorem E_ty31 : E.ty 31 = some ⟨.int .u32, 1, 4, [.int .u32 0], false⟩ := rfl
@[simp] theorem E_ty32 : E.ty 32 = some ⟨.func, 1, 8, [.nilf], false⟩ := rfl
@[simp] theorem E_ty33 : E.ty 33 = some ⟨.func, 1, 8, [.nilf], false⟩ := rfl
@[simp] theorem E_ty35 : E.ty 35 = some ⟨.func, 1, 8, [.nilf], false⟩ := rfl
@[simp] theorem E_ty36 : E.ty 36 = some ⟨.func, 1, 8, [.nilf], false⟩ := rfl
@[simp] theorem E_ty37 : E.ty 37 = some ⟨.func, 1, 8, [.nilf], false⟩ := rfl
@[simp] theorem E_ty38 : E.ty 38 = some ⟨.func, 1, 8, [.nilf], false⟩ := rfl
@[simp] theorem E_ty39 : E.ty 39 = some ⟨.slice 3, 1, 24, [.sl true [] (some 0)], false⟩ := rfl
@[simp] theorem E_ty41 : E.ty 41 = some ⟨.func, 1, 8, [.nilf], false⟩ := rfl
@[simp] theorem E_ty42 : E.ty 42 = some ⟨.func, 1, 8, [.nilf], false⟩ := rfl
@[simp] theorem E_ty43 : E.ty 43 = some ⟨.func, 1, 8, [.nilf], false⟩ := rfl
@[simp] theorem E_ty44 : E.ty 44 = some ⟨.func, 1, 8, [.nilf], false⟩ := rfl
@[simp] theorem E_ty45 : E.ty 45 = some ⟨.int .u64, 1, 8, [.int .u64 0], false⟩ := rfl
@[simp] theorem E_ty47 : E.ty 47 = some ⟨.func, 1, 8, [.nilf], false⟩ := rfl
@[simp] theorem E_ty48 : E.ty 48 = some ⟨.func, 1, 8, [.nilf], false⟩ := rfl
@[simp] theorem E_ty49 : E.ty 49 = some ⟨.func, 1, 8, [.nilf], false⟩ := rfl
@[simp] theorem E_ty50 : E.ty 50 = some ⟨.func, 1, 8, [.nilf], false⟩ := rfl
@[simp] theorem E_ty51 : E.ty 51 = some ⟨.int .u64, 1, 8, [.int .u64 0], false⟩ := rfl
@[simp] theorem E_ty53 : E.ty 53 = some ⟨.func, 1, 8, [.nilf], false⟩ := rfl
@[simp] theorem E_ty54 : E.ty 54 = some ⟨.int .u8, 1, 1, [.int .u8 0], false⟩ := rfl
@[simp] theorem E_ty55 : E.ty 55 = some ⟨.strct [(0, 54), (1, 4), (2, 31)], 3, 8, [.int .u8 0, .bool false, .int .u32 0], false⟩ := rfl
@[simp] theorem E_ty56 : E.ty 56 = some ⟨.strct [(0, 54), (1, 4), (2, 31)], 3, 8, [.int .u8 0, .bool false, .int .u32 0], false⟩ := rfl
@[simp] theorem E_ty57 : E.ty 57 = some ⟨.slice 59, 1, 24, [.sl true [] (some 0)], false⟩ := rfl
@[simp] theorem E_ty58 : E.ty 58 = some ⟨.strct [(0, 56), (3, 22), (4, 57)], 5, 56, [.int .u8 0, .bool false, .int .u32 0, .sl true [] (some 0), .sl true [] (some 0)], false⟩ := rfl
@[simp] theorem E_ty59 : E.ty 59 = some ⟨.strct [(0, 56), (3, 22), (4, 57)], 5, 56, [.int .u8 0, .bool false, .int .u32 0, .sl true [] (some 0), .sl true [] (some 0)], false⟩ := rfl
@[simp] theorem E_ty61 : E.ty 61 = some ⟨.func, 1, 8, [.nilf], false⟩ := rfl
@[simp] theorem E_ty62 : E.ty 62 = some ⟨.func, 1, 8, [.nilf], false⟩ := rfl
@[simp] theorem E_ty63 : E.ty 63 = some ⟨.strct [(0, 22)], 1, 24, [.sl true [] (some 0)], false⟩ := rfl
@[simp] theorem E_ty64 : E.ty 64 = some ⟨.strct [(0, 22)], 1, 24, [.sl true [] (some 0)], false⟩ := rfl
@[simp] theorem E_ty65 : E.ty 65 = some ⟨.func, 1, 8, [.nilf], false⟩ := rfl
@[simp] theorem E_ty66 : E.ty 66 = some ⟨.func, 1, 8, [.nilf], false⟩ := rfl
@[simp] theorem E_ty67 : E.ty 67 = some ⟨.func, 1, 8, [.nilf], false⟩ := rfl
@[simp] theorem E_ty68 : E.ty 68 = some ⟨.func, 1, 8, [.nilf], false⟩ := rfl
@[simp] theorem E_ty69 : E.ty 69 = some ⟨.func, 1, 8, [.nilf], false⟩ := rfl
@[simp] theorem E_ty70 : E.ty 70 = some ⟨.func, 1, 8, [.nilf], false⟩ := rfl
@[simp] theorem E_ty71 : E.ty 71 = some ⟨.func, 1, 8, [.nilf], false⟩ := rfl
@[simp] theorem E_ty72 : E.ty 72 = some ⟨.func, 1, 8, [.nilf], false⟩ := rfl
@[simp] theorem E_ty73 : E.ty 73 = some ⟨.func, 1, 8, [.nilf], false⟩ := rfl
@[simp] theorem E_ty74 : E.ty 74 = some ⟨.func, 1, 8, [.nilf], false⟩ := rfl
@[simp] theorem E_ty75 : E.ty 75 = some ⟨.func, 1, 8, [.nilf], false⟩ := rfl
@[simp] theorem E_ty77 : E.ty 77 = some ⟨.func, 1, 8, [.nilf], false⟩ := rfl
@[simp] theorem E_ty78 : E.ty 78 = some ⟨.func, 1, 8, [.nilf], false⟩ := rfl
@[simp] theorem E_ty79 : E.ty 79 = some ⟨.func, 1, 8, [.nilf], false⟩ := rfl
@[simp] theorem E_ty81 : E.ty 81 = some ⟨.func, 1, 8, [.nilf], false⟩ := rfl
@[simp] theorem E_ty82 : E.ty 82 = some ⟨.func, 1, 8, [.nilf], false⟩ := rfl
@[simp] theorem E_ty83 : E.ty 83 = some ⟨.func, 1, 8, [.nilf], false⟩ := rfl
@[simp] theorem E_ty84 : E.ty 84 = some ⟨.arr 3 5, 3, 3, [.int .u8 0, .int .u8 0, .int .u8 0], false⟩ := rfl
@[simp] theorem E_ty85 : E.ty 85 = some ⟨.arr 3 5, 3, 3, [.int .u8 0, .int .u8 0, .int .u8 0], false⟩ := rfl
@[simp] theorem E_ty86 : E.ty 86 = some ⟨.func, 1, 8, [.nilf], false⟩ := rfl
@[simp] theorem E_ty87 : E.ty 87 = some ⟨.strct [(0, 17), (1, 17), (2, 17), (3, 9)], 4, 40, [.nilp, .nilp, .nilp, .str []], false⟩ := rfl
@[simp] theorem E_ty88 : E.ty 88 = some ⟨.strct [(0, 17), (1, 17), (2, 17), (3, 9)], 4, 40, [.nilp, .nilp, .nilp, .str []], false⟩ := rfl
@[simp] theorem E_ty89 : E.ty 89 = some ⟨.arr 0 16, 0, 0, [], false⟩ := rfl
@[simp] theorem E_ty90 : E.ty 90 = some ⟨.strct [(0, 89)], 0, 0, [], false⟩ := rfl
@[simp] theorem E_ty91 : E.ty 91 = some ⟨.strct [(0, 89)], 0, 0, [], false⟩ := rfl
@[simp] theorem E_ty92 : E.ty 92 = some ⟨.func, 1, 8, [.nilf], false⟩ := rfl
@[simp] theorem E_ty93 : E.ty 93 = some ⟨.int .u8, 1, 1, [.int .u8 0], false⟩ := rfl
@[simp] theorem E_ty94 : E.ty 94 = some ⟨.int .u8, 1, 1, [.int .u8 0], false⟩ := rfl
@[simp] theorem E_ty95 : E.ty 95 = some ⟨.func, 1, 8, [.nilf], false⟩ := rfl
@[simp] theorem E_ty96 : E.ty 96 = some ⟨.ptr 5, 1, 8, [.nilp], false⟩ := rfl
@[simp] theorem E_ty97 : E.ty 97 = some ⟨.int .i32, 1, 4, [.int .i32 0], false⟩ := rfl
@[simp] theorem E_ty98 : E.ty 98 = some ⟨.int .i32, 1, 4, [.int .i32 0], false⟩ := rfl
@[simp] theorem E_ty99 : E.ty 99 = some ⟨.strct [(0, 12), (1, 12), (2, 31), (3, 93), (4, 5), (5, 5), (6, 94), (7, 95), (8, 96), (9, 97), (10, 98)], 11, 48, [.int .u64 0, .int .u64 0, .int .u32 0, .int .u8 0, .int .u8 0, .int .u8 0, .int .u8 0, .nilf, .nilp, .int .i32 0, .int .i32 0], false⟩ := rfl
@[simp] theorem E_ty100 : E.ty 100 = some ⟨.strct [(0, 12), (1, 12), (2, 31), (3, 93), (4, 5), (5, 5), (6, 94), (7, 95), (8, 96), (9, 97), (10, 98)], 11, 48, [.int .u64 0, .int .u64 0, .int .u32 0, .int .u8 0, .int .u8 0, .int .u8 0, .int .u8 0, .nilf, .nilp, .int .i32 0, .int .i32 0], false⟩ := rfl
end TabL
