/- The tables of this translation for the evaluator: written by gen2.py. No conditions. -/
import Derived.Test.YtbgmkcmailcciaaDoorTabCa
set_option linter.unusedVariables false
set_option maxRecDepth 100000
namespace TabC
open Go Ab
/-- (*vidimus/elements.reader).element -/
def c61 : Code :=
  (.seq (.region 0 #[⟨some 8, .alloc 33, 0, "", #[], none⟩,
    ⟨some 9, .assign (.const (.int .i64 0)), 3, "", #[], none⟩] false)
  (.seq (.region 1 #[⟨some 17, .move (.tmp 0), 116, "", #[], none⟩,
    ⟨some 18, .nilCheck (.tmp 17), 0, "", #[], none⟩,
    ⟨some 19, .fieldAddr 104 (.tmp 18) 0, 0, "", #[], none⟩,
    ⟨some 20, .load 30 (.tmp 19), 30, "", #[], none⟩,
    ⟨some 21, .move (.tmp 1), 3, "", #[], none⟩,
    ⟨some 22, .move (.tmp 2), 3, "", #[], none⟩,
    ⟨some 23, .slice 30 (.tmp 20) (some (.tmp 21)) (some (.tmp 22)) none, 30, "", #[], none⟩,
    ⟨some 24, .call { callee := .value (.func 73), args := #[.tmp 23], argTypes := #[30] }, 117, "", #[], none⟩,
    ⟨some 16, .move (.tmp 24), 117, "", #[], none⟩,
    ⟨some 25, .extract (.tmp 16) 0, 29, "", #[], none⟩,
    ⟨some 26, .extract (.tmp 16) 1, 3, "", #[], none⟩,
    ⟨some 27, .extract (.tmp 16) 2, 34, "", #[], none⟩,
    ⟨some 10, .alloc 29, 0, "", #[], none⟩,
    ⟨none, .store 29 (.tmp 10) (.tmp 25), 0, "", #[], none⟩,
    ⟨some 11, .assign (.tmp 26), 3, "", #[], none⟩,
    ⟨some 12, .assign (.tmp 27), 34, "", #[], none⟩] false)
  (.seq (.block 0 (.seq (.region 2 #[⟨some 29, .move (.tmp 12), 34, "", #[], none⟩,
    ⟨some 30, .binOp .eql 34 (.tmp 29) (.const (.int .i64 7)) 34, 4, "", #[], none⟩,
    ⟨some 28, .assign (.tmp 30), 4, "", #[], none⟩] false)
  (.cond (.tmp 28)
    (.region 3 #[⟨some 31, .move (.tmp 2), 3, "", #[], none⟩,
      ⟨some 32, .move (.tmp 12), 34, "", #[], none⟩,
      ⟨some 33, .build 101 #[(0, .tmp 31), (1, .tmp 32)], 101, "", #[], none⟩,
      ⟨some 34, .makeInterface 101 (.tmp 33), 20, "", #[], none⟩,
      ⟨none, .panic (.tmp 34), 0, "", #[], none⟩] false)
    (.seq (.region 4 #[⟨some 36, .move (.tmp 12), 34, "", #[], none⟩,
      ⟨some 37, .binOp .neq 34 (.tmp 36) (.const (.int .i64 0)) 34, 4, "", #[], none⟩,
      ⟨some 35, .assign (.tmp 37), 4, "", #[], none⟩] false)
    (.cond (.tmp 35)
      (.region 5 #[⟨some 38, .move (.tmp 1), 3, "", #[], none⟩,
        ⟨some 39, .move (.tmp 12), 34, "", #[], none⟩,
        ⟨some 40, .build 101 #[(0, .tmp 38), (1, .tmp 39)], 101, "", #[], none⟩,
        ⟨some 41, .makeInterface 101 (.tmp 40), 20, "", #[], none⟩,
        ⟨none, .panic (.tmp 41), 0, "", #[], none⟩] false)
      (.seq (.region 6 #[⟨some 43, .move (.tmp 3), 3, "", #[], none⟩,
        ⟨some 44, .binOp .gtr 3 (.tmp 43) (.const (.int .i64 16)) 3, 4, "", #[], none⟩,
        ⟨some 42, .assign (.tmp 44), 4, "", #[], none⟩] false)
      (.cond (.tmp 42)
        (.region 7 #[⟨some 45, .move (.tmp 1), 3, "", #[], none⟩,
          ⟨some 46, .build 101 #[(0, .tmp 45), (1, .const (.int .i64 12))], 101, "", #[], none⟩,
          ⟨some 47, .makeInterface 101 (.tmp 46), 20, "", #[], none⟩,
          ⟨none, .panic (.tmp 47), 0, "", #[], none⟩] false)
        (.seq (.region 8 #[⟨some 49, .move (.tmp 0), 116, "", #[], none⟩,
          ⟨some 50, .nilCheck (.tmp 49), 0, "", #[], none⟩,
          ⟨some 51, .fieldAddr 104 (.tmp 50) 1, 0, "", #[], none⟩,
          ⟨some 52, .load 3 (.tmp 51), 3, "", #[], none⟩,
          ⟨some 53, .binOp .eql 3 (.tmp 52) (.const (.int .i64 8192)) 3, 4, "", #[], none⟩,
          ⟨some 48, .assign (.tmp 53), 4, "", #[], none⟩] false)
        (.cond (.tmp 48)
          (.region 9 #[⟨some 54, .move (.tmp 1), 3, "", #[], none⟩,
            ⟨some 55, .build 101 #[(0, .tmp 54), (1, .const (.int .i64 3))], 101, "", #[], none⟩,
            ⟨some 56, .makeInterface 101 (.tmp 55), 20, "", #[], none⟩,
            ⟨none, .panic (.tmp 56), 0, "", #[], none⟩] false)
          .skip)))))))))
  (.seq (.region 10 #[⟨some 57, .move (.tmp 0), 116, "", #[], none⟩,
    ⟨some 58, .nilCheck (.tmp 57), 0, "", #[], none⟩,
    ⟨some 59, .fieldAddr 104 (.tmp 58) 1, 0, "", #[], none⟩,
    ⟨some 60, .load 3 (.tmp 59), 3, "", #[], none⟩,
    ⟨some 61, .binOp .add 3 (.tmp 60) (.const (.int .i64 1)) 3, 3, "", #[], none⟩,
    ⟨some 62, .nilCheck (.tmp 57), 0, "", #[], none⟩,
    ⟨some 63, .fieldAddr 104 (.tmp 62) 1, 0, "", #[], none⟩,
    ⟨none, .store 3 (.tmp 63) (.tmp 61), 0, "", #[], none⟩] false)
  (.seq (.region 11 #[⟨some 64, .move (.tmp 1), 3, "", #[], none⟩,
    ⟨some 65, .move (.tmp 11), 3, "", #[], none⟩,
    ⟨some 66, .binOp .add 3 (.tmp 64) (.tmp 65) 3, 3, "", #[], none⟩,
    ⟨some 1, .assign (.tmp 66), 3, "", #[], none⟩] false)
  (.seq (.region 12 #[⟨some 68, .move (.tmp 0), 116, "", #[], none⟩,
    ⟨some 69, .nilCheck (.tmp 68), 0, "", #[], none⟩,
    ⟨some 70, .fieldAddr 104 (.tmp 69) 0, 0, "", #[], none⟩,
    ⟨some 71, .load 30 (.tmp 70), 30, "", #[], none⟩,
    ⟨some 72, .move (.tmp 1), 3, "", #[], none⟩,
    ⟨some 73, .move (.tmp 2), 3, "", #[], none⟩,
    ⟨some 74, .slice 30 (.tmp 71) (some (.tmp 72)) (some (.tmp 73)) none, 30, "", #[], none⟩,
    ⟨some 75, .call { callee := .value (.func 74), args := #[.tmp 74], argTypes := #[30] }, 52, "", #[], none⟩,
    ⟨some 67, .move (.tmp 75), 52, "", #[], none⟩,
    ⟨some 76, .extract (.tmp 67) 0, 3, "", #[], none⟩,
    ⟨some 77, .extract (.tmp 67) 1, 3, "", #[], none⟩,
    ⟨some 78, .extract (.tmp 67) 2, 34, "", #[], none⟩,
    ⟨some 13, .assign (.tmp 76), 3, "", #[], none⟩,
    ⟨some 11, .assign (.tmp 77), 3, "", #[], none⟩,
    ⟨some 12, .assign (.tmp 78), 34, "", #[], none⟩] false)
  (.seq (.block 1 (.seq (.region 13 #[⟨some 80, .move (.tmp 12), 34, "", #[], none⟩,
    ⟨some 81, .binOp .eql 34 (.tmp 80) (.const (.int .i64 7)) 34, 4, "", #[], none⟩,
    ⟨some 79, .assign (.tmp 81), 4, "", #[], none⟩] false)
  (.cond (.tmp 79)
    (.region 14 #[⟨some 82, .move (.tmp 2), 3, "", #[], none⟩,
      ⟨some 83, .move (.tmp 12), 34, "", #[], none⟩,
      ⟨some 84, .build 101 #[(0, .tmp 82), (1, .tmp 83)], 101, "", #[], none⟩,
      ⟨some 85, .makeInterface 101 (.tmp 84), 20, "", #[], none⟩,
      ⟨none, .panic (.tmp 85), 0, "", #[], none⟩] false)
    (.seq (.region 15 #[⟨some 87, .move (.tmp 12), 34, "", #[], none⟩,
      ⟨some 88, .binOp .neq 34 (.tmp 87) (.const (.int .i64 0)) 34, 4, "", #[], none⟩,
      ⟨some 86, .assign (.tmp 88), 4, "", #[], none⟩] false)
    (.cond (.tmp 86)
      (.region 16 #[⟨some 89, .move (.tmp 1), 3, "", #[], none⟩,
        ⟨some 90, .move (.tmp 12), 34, "", #[], none⟩,
        ⟨some 91, .build 101 #[(0, .tmp 89), (1, .tmp 90)], 101, "", #[], none⟩,
        ⟨some 92, .makeInterface 101 (.tmp 91), 20, "", #[], none⟩,
        ⟨none, .panic (.tmp 92), 0, "", #[], none⟩] false)
      (.seq (.region 17 #[⟨some 94, .move (.tmp 13), 3, "", #[], none⟩,
        ⟨some 95, .move (.tmp 2), 3, "", #[], none⟩,
        ⟨some 96, .move (.tmp 1), 3, "", #[], none⟩,
        ⟨some 97, .binOp .sub 3 (.tmp 95) (.tmp 96) 3, 3, "", #[], none⟩,
        ⟨some 98, .move (.tmp 11), 3, "", #[], none⟩,
        ⟨some 99, .binOp .sub 3 (.tmp 97) (.tmp 98) 3, 3, "", #[], none⟩,
        ⟨some 100, .binOp .gtr 3 (.tmp 94) (.tmp 99) 3, 4, "", #[], none⟩,
        ⟨some 93, .assign (.tmp 100), 4, "", #[], none⟩] false)
      (.cond (.tmp 93)
        (.region 18 #[⟨some 101, .move (.tmp 2), 3, "", #[], none⟩,
          ⟨some 102, .build 101 #[(0, .tmp 101), (1, .const (.int .i64 7))], 101, "", #[], none⟩,
          ⟨some 103, .makeInterface 101 (.tmp 102), 20, "", #[], none⟩,
          ⟨none, .panic (.tmp 103), 0, "", #[], none⟩] false)
        .skip)))))))
  (.seq (.region 19 #[⟨some 104, .move (.tmp 1), 3, "", #[], none⟩,
    ⟨some 105, .move (.tmp 11), 3, "", #[], none⟩,
    ⟨some 106, .binOp .add 3 (.tmp 104) (.tmp 105) 3, 3, "", #[], none⟩,
    ⟨some 1, .assign (.tmp 106), 3, "", #[], none⟩] false)
  (.seq (.region 20 #[⟨some 107, .move (.tmp 1), 3, "", #[], none⟩,
    ⟨some 108, .move (.tmp 13), 3, "", #[], none⟩,
    ⟨some 109, .binOp .add 3 (.tmp 107) (.tmp 108) 3, 3, "", #[], none⟩,
    ⟨some 2, .assign (.tmp 109), 3, "", #[], none⟩] false)
  (.seq (.region 21 #[⟨some 110, .load 29 (.tmp 10), 29, "", #[], none⟩,
    ⟨some 111, .build 33 #[(0, .tmp 110)], 33, "", #[], none⟩,
    ⟨some 14, .alloc 33, 0, "", #[], none⟩,
    ⟨none, .store 33 (.tmp 14) (.tmp 111), 0, "", #[], none⟩] false)
  (.seq (.seq (.region 22 #[⟨some 112, .fieldAddr 29 (.tmp 10) 1, 0, "", #[], none⟩,
    ⟨some 113, .load 4 (.tmp 112), 4, "", #[], none⟩,
    ⟨some 114, .unOp .not 4 (.tmp 113), 4, "", #[], none⟩] false)
  (.cond (.tmp 114)
    (.seq (.region 23 #[⟨some 115, .move (.tmp 0), 116, "", #[], none⟩,
      ⟨some 116, .nilCheck (.tmp 115), 0, "", #[], none⟩,
      ⟨some 117, .fieldAddr 104 (.tmp 116) 0, 0, "", #[], none⟩,
      ⟨some 118, .load 30 (.tmp 117), 30, "", #[], none⟩,
      ⟨some 119, .move (.tmp 1), 3, "", #[], none⟩,
      ⟨some 120, .move (.tmp 2), 3, "", #[], none⟩,
      ⟨some 121, .slice 30 (.tmp 118) (some (.tmp 119)) (some (.tmp 120)) none, 30, "", #[], none⟩,
      ⟨some 122, .call { callee := .value (.func 75), args := #[.tmp 121], argTypes := #[30] }, 30, "", #[], none⟩,
      ⟨some 123, .call { callee := .value (.func 52), args := #[.tmp 122], argTypes := #[30] }, 30, "", #[], none⟩,
      ⟨some 124, .fieldAddr 33 (.tmp 14) 1, 0, "", #[], none⟩,
      ⟨none, .store 30 (.tmp 124) (.tmp 123), 0, "", #[], none⟩] false)
    (.seq (.region 24 #[⟨some 125, .load 33 (.tmp 14), 33, "", #[], none⟩,
      ⟨some 126, .move (.tmp 2), 3, "", #[], none⟩,
      ⟨none, .store 33 (.tmp 8) (.tmp 125), 0, "", #[], none⟩,
      ⟨some 9, .assign (.tmp 126), 3, "", #[], none⟩] false)
    .ret))
    .skip))
  (.seq (.block 2 (.loop (.seq (.seq (.region 25 #[⟨some 127, .move (.tmp 1), 3, "", #[], none⟩,
    ⟨some 128, .move (.tmp 2), 3, "", #[], none⟩,
    ⟨some 129, .binOp .lss 3 (.tmp 127) (.tmp 128) 3, 4, "", #[], none⟩] false)
  (.cond (.tmp 129)
    .skip
    (.exit 2)))
  (.block 3 (.seq (.region 26 #[⟨some 15, .alloc 33, 0, "", #[], none⟩] false)
  (.seq (.region 27 #[⟨some 131, .move (.tmp 0), 116, "", #[], none⟩,
    ⟨some 132, .move (.tmp 1), 3, "", #[], none⟩,
    ⟨some 133, .move (.tmp 2), 3, "", #[], none⟩,
    ⟨some 134, .move (.tmp 3), 3, "", #[], none⟩,
    ⟨some 135, .binOp .add 3 (.tmp 134) (.const (.int .i64 1)) 3, 3, "", #[], none⟩,
    ⟨some 136, .call { callee := .value (.func 61), args := #[.tmp 131, .tmp 132, .tmp 133, .tmp 135], argTypes := #[116, 3, 3, 3] }, 105, "", #[], none⟩,
    ⟨some 130, .move (.tmp 136), 105, "", #[], none⟩,
    ⟨some 137, .extract (.tmp 130) 0, 33, "", #[], none⟩,
    ⟨some 138, .extract (.tmp 130) 1, 3, "", #[], none⟩,
    ⟨none, .store 33 (.tmp 15) (.tmp 137), 0, "", #[], none⟩,
    ⟨some 1, .assign (.tmp 138), 3, "", #[], none⟩] false)
  (.region 28 #[⟨some 139, .fieldAddr 33 (.tmp 14) 2, 0, "", #[], none⟩,
    ⟨some 140, .load 31 (.tmp 139), 31, "", #[], none⟩,
    ⟨some 141, .load 33 (.tmp 15), 33, "", #[], none⟩,
    ⟨some 142, .buildSlice 31 1 #[(0, .tmp 141)], 31, "", #[], none⟩,
    ⟨some 143, .call { callee := .builtin .append, args := #[.tmp 140, .tmp 142], argTypes := #[31, 31] }, 31, "", #[], none⟩,
    ⟨some 144, .fieldAddr 33 (.tmp 14) 2, 0, "", #[], none⟩,
    ⟨none, .store 31 (.tmp 144) (.tmp 143), 0, "", #[], none⟩] false)))))))
  (.seq (.region 29 #[⟨some 145, .fieldAddr 33 (.tmp 14) 2, 0, "", #[], none⟩,
    ⟨some 146, .load 31 (.tmp 145), 31, "", #[], none⟩,
    ⟨some 147, .call { callee := .value (.func 34), args := #[.tmp 146], argTypes := #[31] }, 31, "", #[], none⟩,
    ⟨some 148, .fieldAddr 33 (.tmp 14) 2, 0, "", #[], none⟩,
    ⟨none, .store 31 (.tmp 148) (.tmp 147), 0, "", #[], none⟩] false)
  (.seq (.region 30 #[⟨some 149, .load 33 (.tmp 14), 33, "", #[], none⟩,
    ⟨some 150, .move (.tmp 2), 3, "", #[], none⟩,
    ⟨none, .store 33 (.tmp 8) (.tmp 149), 0, "", #[], none⟩,
    ⟨some 9, .assign (.tmp 150), 3, "", #[], none⟩] false)
  .ret))))))))))))))
def fn61 : AFn := { ntmps := 151, results := [.cell 8 33, .tmp 9], body := c61, keep := fun | 0 => some [0, 1, 2, 3, 8] | 1 => some [0, 1, 2, 3, 8, 10, 11, 12] | 2 => some [0, 1, 2, 3, 8, 10, 11, 12, 28] | 3 => some [0, 1, 2, 3, 8, 10, 11] | 4 => some [0, 1, 2, 3, 8, 10, 11, 12, 35] | 5 => some [0, 1, 2, 3, 8, 10, 11] | 6 => some [0, 1, 2, 3, 8, 10, 11, 42] | 7 => some [0, 1, 2, 3, 8, 10, 11] | 8 => some [0, 1, 2, 3, 8, 10, 11, 48] | 9 => some [0, 1, 2, 3, 8, 10, 11] | 10 => some [0, 1, 2, 3, 8, 10, 11] | 11 => some [0, 1, 2, 3, 8, 10] | 12 => some [0, 1, 2, 3, 8, 10, 11, 12, 13] | 13 => some [0, 1, 2, 3, 8, 10, 11, 12, 13, 79] | 14 => some [0, 1, 3, 8, 10, 11, 13] | 15 => some [0, 1, 2, 3, 8, 10, 11, 12, 13, 86] | 16 => some [0, 1, 3, 8, 10, 11, 13] | 17 => some [0, 1, 2, 3, 8, 10, 11, 13, 93] | 18 => some [0, 1, 3, 8, 10, 11, 13] | 19 => some [0, 1, 3, 8, 10, 13] | 20 => some [0, 1, 2, 3, 8, 10] | 21 => some [0, 1, 2, 3, 8, 10, 14] | 22 => some [0, 1, 2, 3, 8, 14, 114] | 23 => some [2, 8, 14] | 24 => some [8, 9] | 25 => some [0, 1, 2, 3, 8, 14, 129] | 26 => some [0, 1, 2, 3, 8, 14, 15] | 27 => some [0, 1, 2, 3, 8, 14, 15] | 28 => some [0, 1, 2, 3, 8, 14] | 29 => some [2, 8, 14] | 30 => some [8, 9] | _ => none, head := fun | 25 => some [0, 1, 2, 3, 8, 14] | _ => none, opn := opnT, dyn := fun _ => [] }
/-- vidimus/vidimusref12.Digits -/
def c62 : Code :=
  (.seq (.region 0 #[⟨some 2, .assign (.const (.slice none 0 0)), 30, "", #[], none⟩] false)
  (.seq (.region 1 #[⟨some 4, .move (.tmp 0), 22, "", #[], none⟩,
    ⟨some 5, .binOp .rem 22 (.tmp 4) (.const (.int .u32 128)) 22, 22, "", #[], none⟩,
    ⟨some 6, .convert 22 5 (.tmp 5), 5, "", #[], none⟩,
    ⟨some 7, .buildSlice 30 1 #[(0, .tmp 6)], 30, "", #[], none⟩,
    ⟨some 3, .assign (.tmp 7), 30, "", #[], none⟩] false)
  (.seq (.seq (.region 2 #[⟨some 8, .move (.tmp 0), 22, "", #[], none⟩,
    ⟨some 9, .binOp .quo 22 (.tmp 8) (.const (.int .u32 128)) 22, 22, "", #[], none⟩,
    ⟨some 0, .assign (.tmp 9), 22, "", #[], none⟩] false)
  (.block 0 (.loop (.seq (.seq (.region 3 #[⟨some 10, .move (.tmp 0), 22, "", #[], none⟩,
    ⟨some 11, .binOp .gtr 22 (.tmp 10) (.const (.int .u32 0)) 22, 4, "", #[], none⟩] false)
  (.cond (.tmp 11)
    .skip
    (.exit 0)))
  (.seq (.block 1 (.region 5 #[⟨some 14, .move (.tmp 0), 22, "", #[], none⟩,
    ⟨some 15, .binOp .rem 22 (.tmp 14) (.const (.int .u32 128)) 22, 22, "", #[], none⟩,
    ⟨some 16, .binOp .add 22 (.const (.int .u32 128)) (.tmp 15) 22, 22, "", #[], none⟩,
    ⟨some 17, .convert 22 5 (.tmp 16), 5, "", #[], none⟩,
    ⟨some 18, .buildSlice 30 1 #[(0, .tmp 17)], 30, "", #[], none⟩,
    ⟨some 19, .move (.tmp 3), 30, "", #[], none⟩,
    ⟨some 20, .call { callee := .builtin .append, args := #[.tmp 18, .tmp 19], argTypes := #[30, 30] }, 30, "", #[], none⟩,
    ⟨some 3, .assign (.tmp 20), 30, "", #[], none⟩] false))
  (.region 4 #[⟨some 12, .move (.tmp 0), 22, "", #[], none⟩,
    ⟨some 13, .binOp .quo 22 (.tmp 12) (.const (.int .u32 128)) 22, 22, "", #[], none⟩,
    ⟨some 0, .assign (.tmp 13), 22, "", #[], none⟩] false))))))
  (.seq (.region 6 #[⟨some 21, .move (.tmp 3), 30, "", #[], none⟩,
    ⟨some 2, .assign (.tmp 21), 30, "", #[], none⟩] false)
  .ret))))
def fn62 : AFn := { ntmps := 22, results := [.tmp 2], body := c62, keep := fun | 0 => some [0] | 1 => some [0, 3] | 2 => some [0, 3] | 3 => some [0, 3, 11] | 4 => some [0, 3] | 5 => some [0, 3] | 6 => some [2] | _ => none, head := fun | 3 => some [0, 3] | _ => none, opn := fun _ => none, dyn := fun _ => [] }
/-- vidimus/elements.content -/
def c63 : Code :=
  (.seq (.region 0 #[⟨some 1, .box 33 (.tmp 0), 0, "", #[], none⟩,
    ⟨some 2, .assign (.const (.int .i64 0)), 3, "", #[], none⟩] false)
  (.seq (.seq (.region 1 #[⟨some 6, .fieldAddr 33 (.tmp 1) 0, 0, "", #[], none⟩,
    ⟨some 7, .fieldAddr 29 (.tmp 6) 1, 0, "", #[], none⟩,
    ⟨some 8, .load 4 (.tmp 7), 4, "", #[], none⟩,
    ⟨some 9, .unOp .not 4 (.tmp 8), 4, "", #[], none⟩] false)
  (.cond (.tmp 9)
    (.seq (.region 2 #[⟨some 10, .fieldAddr 33 (.tmp 1) 1, 0, "", #[], none⟩,
      ⟨some 11, .load 30 (.tmp 10), 30, "", #[], none⟩,
      ⟨some 12, .call { callee := .builtin .len, args := #[.tmp 11], argTypes := #[30] }, 3, "", #[], none⟩,
      ⟨some 2, .assign (.tmp 12), 3, "", #[], none⟩] false)
    .ret)
    .skip))
  (.seq (.region 3 #[⟨some 3, .assign (.const (.int .i64 0)), 3, "", #[], none⟩] false)
  (.seq (.seq (.region 4 #[⟨some 13, .fieldAddr 33 (.tmp 1) 2, 0, "", #[], none⟩,
    ⟨some 14, .load 31 (.tmp 13), 31, "", #[], none⟩,
    ⟨some 15, .call { callee := .builtin .len, args := #[.tmp 14], argTypes := #[31] }, 3, "", #[], none⟩,
    ⟨some 16, .move (.const (.int .i64 0)), 3, "", #[], none⟩] false)
  (.block 0 (.loop (.seq (.region 5 #[⟨some 17, .binOp .lss 3 (.tmp 16) (.tmp 15) 3, 0, "", #[], none⟩] false)
  (.seq (.cond (.tmp 17)
    .skip
    (.exit 0))
  (.seq (.block 1 (.seq (.region 6 #[⟨some 18, .indexAddr 31 (.tmp 14) (.tmp 16), 0, "", #[], none⟩,
    ⟨some 19, .load 33 (.tmp 18), 33, "", #[], none⟩,
    ⟨some 5, .alloc 33, 0, "", #[], none⟩,
    ⟨none, .store 33 (.tmp 5) (.tmp 19), 0, "", #[], none⟩] false)
  (.region 7 #[⟨some 20, .move (.tmp 3), 3, "", #[], none⟩,
    ⟨some 21, .load 33 (.tmp 5), 33, "", #[], none⟩,
    ⟨some 22, .call { callee := .value (.func 53), args := #[.tmp 21], argTypes := #[33] }, 3, "", #[], none⟩,
    ⟨some 23, .binOp .add 3 (.tmp 20) (.tmp 22) 3, 3, "", #[], none⟩,
    ⟨some 24, .call { callee := .builtin .min, args := #[.tmp 23, .const (.int .i64 1048577)], argTypes := #[3, 3] }, 3, "", #[], none⟩,
    ⟨some 3, .assign (.tmp 24), 3, "", #[], none⟩] false)))
  (.region 8 #[⟨some 25, .binOp .add 3 (.tmp 16) (.const (.int .i64 1)) 3, 3, "", #[], none⟩,
    ⟨some 16, .move (.tmp 25), 3, "", #[], none⟩] false)))))))
  (.seq (.region 9 #[⟨some 26, .move (.tmp 3), 3, "", #[], none⟩,
    ⟨some 2, .assign (.tmp 26), 3, "", #[], none⟩] false)
  .ret)))))
def fn63 : AFn := { ntmps := 27, results := [.tmp 2], body := c63, keep := fun | 0 => some [1] | 1 => some [1, 9] | 2 => some [2] | 3 => some [1, 3] | 4 => some [3, 14, 15, 16] | 5 => some [3, 14, 15, 16, 17] | 6 => some [3, 5, 14, 15, 16] | 7 => some [3, 14, 15, 16] | 8 => some [3, 14, 15, 16] | 9 => some [2] | _ => none, head := fun | 5 => some [3, 14, 15, 16] | _ => none, opn := fun _ => none, dyn := fun _ => [] }
/-- vidimus/lengths.Total -/
def c64 : Code :=
  (.seq (.region 0 #[⟨some 4, .assign (.const (.int .i64 0)), 3, "", #[], none⟩] false)
  (.seq (.seq (.region 1 #[⟨some 5, .move (.tmp 0), 3, "", #[], none⟩,
    ⟨some 6, .binOp .lss 3 (.tmp 5) (.const (.int .i64 1)) 3, 4, "", #[], none⟩,
    ⟨some 7, .move (.tmp 6), 4, "", #[], none⟩,
    ⟨some 8, .move (.tmp 0), 3, "", #[], some (7, false)⟩,
    ⟨some 9, .binOp .gtr 3 (.tmp 8) (.const (.int .i64 5)) 3, 4, "", #[], some (7, false)⟩,
    ⟨some 10, .pick (.tmp 7) (.const (.bool true)) (.tmp 9), 4, "", #[], none⟩,
    ⟨some 11, .move (.tmp 10), 4, "", #[], none⟩,
    ⟨some 12, .move (.tmp 1), 3, "", #[], some (11, false)⟩,
    ⟨some 13, .call { callee := .value (.func 76), args := #[.tmp 12], argTypes := #[3] }, 3, "", #[], some (11, false)⟩,
    ⟨some 14, .binOp .eql 3 (.tmp 13) (.const (.int .i64 0)) 3, 4, "", #[], some (11, false)⟩,
    ⟨some 15, .pick (.tmp 11) (.const (.bool true)) (.tmp 14), 4, "", #[], none⟩] false)
  (.cond (.tmp 15)
    (.seq (.region 2 #[⟨some 4, .assign (.const (.int .i64 0)), 3, "", #[], none⟩] false)
    .ret)
    .skip))
  (.seq (.region 3 #[⟨some 16, .move (.tmp 0), 3, "", #[], none⟩,
    ⟨some 17, .move (.tmp 1), 3, "", #[], none⟩,
    ⟨some 18, .call { callee := .value (.func 76), args := #[.tmp 17], argTypes := #[3] }, 3, "", #[], none⟩,
    ⟨some 19, .binOp .add 3 (.tmp 16) (.tmp 18) 3, 3, "", #[], none⟩,
    ⟨some 20, .move (.tmp 1), 3, "", #[], none⟩,
    ⟨some 21, .binOp .add 3 (.tmp 19) (.tmp 20) 3, 3, "", #[], none⟩,
    ⟨some 4, .assign (.tmp 21), 3, "", #[], none⟩] false)
  .ret)))
def fn64 : AFn := { ntmps := 22, results := [.tmp 4], body := c64, keep := fun | 0 => some [0, 1] | 1 => some [0, 1, 15] | 2 => some [4] | 3 => some [4] | _ => none, head := fun  | _ => none, opn := fun _ => none, dyn := fun _ => [] }
/-- vidimus/tags.Size -/
def c65 : Code :=
  (.seq (.region 0 #[⟨some 1, .box 29 (.tmp 0), 0, "", #[], none⟩,
    ⟨some 2, .assign (.const (.int .i64 0)), 3, "", #[], none⟩] false)
  (.seq (.region 1 #[⟨some 6, .load 29 (.tmp 1), 29, "", #[], none⟩,
    ⟨some 7, .call { callee := .value (.func 66), args := #[.tmp 6], argTypes := #[29] }, 37, "", #[], none⟩,
    ⟨some 5, .move (.tmp 7), 37, "", #[], none⟩,
    ⟨some 8, .extract (.tmp 5) 0, 30, "", #[], none⟩,
    ⟨some 9, .extract (.tmp 5) 1, 34, "", #[], none⟩,
    ⟨some 3, .assign (.tmp 8), 30, "", #[], none⟩,
    ⟨some 4, .assign (.tmp 9), 34, "", #[], none⟩] false)
  (.seq (.region 2 #[⟨some 10, .move (.tmp 3), 30, "", #[], none⟩,
    ⟨some 11, .call { callee := .builtin .len, args := #[.tmp 10], argTypes := #[30] }, 3, "", #[], none⟩,
    ⟨some 2, .assign (.tmp 11), 3, "", #[], none⟩] false)
  .ret)))
def fn65 : AFn := { ntmps := 12, results := [.tmp 2], body := c65, keep := fun | 0 => some [1] | 1 => some [3] | 2 => some [2] | _ => none, head := fun  | _ => none, opn := fun _ => none, dyn := fun _ => [] }
/-- vidimus/tags.Put -/
def c66 : Code :=
  (.seq (.region 0 #[⟨some 1, .box 29 (.tmp 0), 0, "", #[], none⟩,
    ⟨some 2, .assign (.const (.slice none 0 0)), 30, "", #[], none⟩,
    ⟨some 3, .assign (.const (.int .i64 0)), 34, "", #[], none⟩] false)
  (.seq (.seq (.region 1 #[⟨some 8, .load 29 (.tmp 1), 29, "", #[], none⟩,
    ⟨some 9, .call { callee := .value (.func 70), args := #[.tmp 8], argTypes := #[29] }, 34, "", #[], none⟩,
    ⟨some 4, .assign (.tmp 9), 34, "", #[], none⟩] false)
  (.seq (.region 2 #[⟨some 10, .move (.tmp 4), 34, "", #[], none⟩,
    ⟨some 11, .binOp .neq 34 (.tmp 10) (.const (.int .i64 0)) 34, 4, "", #[], none⟩] false)
  (.cond (.tmp 11)
    (.seq (.region 3 #[⟨some 12, .move (.tmp 4), 34, "", #[], none⟩,
      ⟨some 2, .assign (.const (.slice none 0 0)), 30, "", #[], none⟩,
      ⟨some 3, .assign (.tmp 12), 34, "", #[], none⟩] false)
    .ret)
    .skip)))
  (.seq (.region 4 #[⟨some 13, .fieldAddr 29 (.tmp 1) 0, 0, "", #[], none⟩,
    ⟨some 14, .load 27 (.tmp 13), 27, "", #[], none⟩,
    ⟨some 15, .binOp .shl 5 (.tmp 14) (.const (.int .u64 6)) 108, 5, "", #[], none⟩,
    ⟨some 5, .assign (.tmp 15), 5, "", #[], none⟩] false)
  (.seq (.seq (.region 5 #[⟨some 16, .fieldAddr 29 (.tmp 1) 1, 0, "", #[], none⟩,
    ⟨some 17, .load 4 (.tmp 16), 4, "", #[], none⟩] false)
  (.cond (.tmp 17)
    (.region 6 #[⟨some 18, .move (.tmp 5), 5, "", #[], none⟩,
      ⟨some 19, .binOp .or 5 (.tmp 18) (.const (.int .u8 32)) 5, 5, "", #[], none⟩,
      ⟨some 5, .assign (.tmp 19), 5, "", #[], none⟩] false)
    .skip))
  (.seq (.seq (.region 7 #[⟨some 20, .fieldAddr 29 (.tmp 1) 2, 0, "", #[], none⟩,
    ⟨some 21, .load 22 (.tmp 20), 22, "", #[], none⟩,
    ⟨some 22, .binOp .lss 22 (.tmp 21) (.const (.int .u32 31)) 22, 4, "", #[], none⟩] false)
  (.cond (.tmp 22)
    (.seq (.region 8 #[⟨some 23, .move (.tmp 5), 5, "", #[], none⟩,
      ⟨some 24, .fieldAddr 29 (.tmp 1) 2, 0, "", #[], none⟩,
      ⟨some 25, .load 22 (.tmp 24), 22, "", #[], none⟩,
      ⟨some 26, .convert 22 5 (.tmp 25), 5, "", #[], none⟩,
      ⟨some 27, .binOp .or 5 (.tmp 23) (.tmp 26) 5, 5, "", #[], none⟩,
      ⟨some 28, .buildSlice 30 1 #[(0, .tmp 27)], 30, "", #[], none⟩,
      ⟨some 2, .assign (.tmp 28), 30, "", #[], none⟩,
      ⟨some 3, .assign (.const (.int .i64 0)), 34, "", #[], none⟩] false)
    .ret)
    .skip))
  (.seq (.region 9 #[⟨some 29, .move (.tmp 5), 5, "", #[], none⟩,
    ⟨some 30, .binOp .or 5 (.tmp 29) (.const (.int .u8 31)) 5, 5, "", #[], none⟩,
    ⟨some 31, .buildSlice 30 1 #[(0, .tmp 30)], 30, "", #[], none⟩,
    ⟨some 6, .alloc 30, 0, "", #[], none⟩,
    ⟨none, .store 30 (.tmp 6) (.tmp 31), 0, "", #[], none⟩] false)
  (.seq (.seq (.region 10 #[⟨some 32, .fieldAddr 29 (.tmp 1) 2, 0, "", #[], none⟩,
    ⟨some 33, .load 22 (.tmp 32), 22, "", #[], none⟩,
    ⟨some 34, .call { callee := .value (.func 77), args := #[.tmp 33], argTypes := #[22] }, 121, "", #[], none⟩] false)
  (.block 0 (.refuse "")))
  (.seq (.region 13 #[⟨some 40, .load 30 (.tmp 6), 30, "", #[], none⟩,
    ⟨some 41, .call { callee := .value (.func 52), args := #[.tmp 40], argTypes := #[30] }, 30, "", #[], none⟩,
    ⟨some 2, .assign (.tmp 41), 30, "", #[], none⟩,
    ⟨some 3, .assign (.const (.int .i64 0)), 34, "", #[], none⟩] false)
  .ret))))))))
def fn66 : AFn := { ntmps := 42, results := [.tmp 2, .tmp 3], body := c66, keep := fun | 0 => some [1, 35] | 1 => some [1, 4, 35] | 2 => some [1, 4, 11, 35] | 3 => some [2, 3] | 4 => some [1, 5, 35] | 5 => some [1, 5, 17, 35] | 6 => some [1, 5, 35] | 7 => some [1, 5, 22, 35] | 8 => some [2, 3] | 9 => some [1, 6, 35] | 10 => some [6, 34, 35] | 11 => some [6, 7, 35] | 12 => some [6, 35] | 13 => some [2, 3] | _ => none, head := fun  | _ => none, opn := fun _ => none, dyn := fun _ => [] }
/-- vidimus/lengths.Put -/
def c67 : Code :=
  (.seq (.region 0 #[⟨some 2, .assign (.const (.slice none 0 0)), 30, "", #[], none⟩,
    ⟨some 3, .assign (.const (.int .i64 0)), 34, "", #[], none⟩] false)
  (.seq (.block 0 (.seq (.region 1 #[⟨some 6, .move (.tmp 0), 3, "", #[], none⟩,
    ⟨some 7, .binOp .lss 3 (.tmp 6) (.const (.int .i64 0)) 3, 4, "", #[], none⟩,
    ⟨some 5, .assign (.tmp 7), 4, "", #[], none⟩] false)
  (.cond (.tmp 5)
    (.seq (.region 2 #[⟨some 2, .assign (.const (.slice none 0 0)), 30, "", #[], none⟩,
      ⟨some 3, .assign (.const (.int .i64 1)), 34, "", #[], none⟩] false)
    .ret)
    (.seq (.region 3 #[⟨some 9, .move (.tmp 0), 3, "", #[], none⟩,
      ⟨some 10, .binOp .gtr 3 (.tmp 9) (.const (.int .i64 16777215)) 3, 4, "", #[], none⟩,
      ⟨some 8, .assign (.tmp 10), 4, "", #[], none⟩] false)
    (.cond (.tmp 8)
      (.seq (.region 4 #[⟨some 2, .assign (.const (.slice none 0 0)), 30, "", #[], none⟩,
        ⟨some 3, .assign (.const (.int .i64 3)), 34, "", #[], none⟩] false)
      .ret)
      (.seq (.region 5 #[⟨some 12, .move (.tmp 0), 3, "", #[], none⟩,
        ⟨some 13, .binOp .leq 3 (.tmp 12) (.const (.int .i64 127)) 3, 4, "", #[], none⟩,
        ⟨some 11, .assign (.tmp 13), 4, "", #[], none⟩] false)
      (.cond (.tmp 11)
        (.seq (.region 6 #[⟨some 14, .move (.tmp 0), 3, "", #[], none⟩,
          ⟨some 15, .convert 3 5 (.tmp 14), 5, "", #[], none⟩,
          ⟨some 16, .buildSlice 30 1 #[(0, .tmp 15)], 30, "", #[], none⟩,
          ⟨some 2, .assign (.tmp 16), 30, "", #[], none⟩,
          ⟨some 3, .assign (.const (.int .i64 0)), 34, "", #[], none⟩] false)
        .ret)
        .skip)))))))
  (.seq (.region 7 #[⟨some 17, .buildSlice 30 1 #[(0, .const (.int .u8 0))], 30, "", #[], none⟩,
    ⟨some 4, .assign (.tmp 17), 30, "", #[], none⟩] false)
  (.seq (.block 1 (.seq (.block 4 (.seq (.block 3 (.seq (.block 2 (.seq (.seq (.seq (.region 8 #[⟨some 19, .move (.tmp 0), 3, "", #[], none⟩,
    ⟨some 20, .binOp .gtr 3 (.tmp 19) (.const (.int .i64 65535)) 3, 4, "", #[], none⟩,
    ⟨some 18, .assign (.tmp 20), 4, "", #[], none⟩] false)
  (.cond (.tmp 18)
    (.exit 2)
    .skip))
  (.seq (.region 9 #[⟨some 22, .move (.tmp 0), 3, "", #[], none⟩,
    ⟨some 23, .binOp .gtr 3 (.tmp 22) (.const (.int .i64 255)) 3, 4, "", #[], none⟩,
    ⟨some 21, .assign (.tmp 23), 4, "", #[], none⟩] false)
  (.cond (.tmp 21)
    (.exit 3)
    .skip)))
  (.exit 4)))
  (.region 10 #[⟨some 24, .move (.tmp 4), 30, "", #[], none⟩,
    ⟨some 25, .move (.tmp 0), 3, "", #[], none⟩,
    ⟨some 26, .binOp .shr 3 (.tmp 25) (.const (.int .u64 16)) 108, 3, "", #[], none⟩,
    ⟨some 27, .convert 3 5 (.tmp 26), 5, "", #[], none⟩,
    ⟨some 28, .buildSlice 30 1 #[(0, .tmp 27)], 30, "", #[], none⟩,
    ⟨some 29, .call { callee := .builtin .append, args := #[.tmp 24, .tmp 28], argTypes := #[30, 30] }, 30, "", #[], none⟩,
    ⟨some 4, .assign (.tmp 29), 30, "", #[], none⟩] false)))
  (.region 11 #[⟨some 30, .move (.tmp 4), 30, "", #[], none⟩,
    ⟨some 31, .move (.tmp 0), 3, "", #[], none⟩,
    ⟨some 32, .binOp .shr 3 (.tmp 31) (.const (.int .u64 8)) 108, 3, "", #[], none⟩,
    ⟨some 33, .convert 3 5 (.tmp 32), 5, "", #[], none⟩,
    ⟨some 34, .buildSlice 30 1 #[(0, .tmp 33)], 30, "", #[], none⟩,
    ⟨some 35, .call { callee := .builtin .append, args := #[.tmp 30, .tmp 34], argTypes := #[30, 30] }, 30, "", #[], none⟩,
    ⟨some 4, .assign (.tmp 35), 30, "", #[], none⟩] false)))
  (.seq (.region 12 #[⟨some 36, .move (.tmp 4), 30, "", #[], none⟩,
    ⟨some 37, .move (.tmp 0), 3, "", #[], none⟩,
    ⟨some 38, .convert 3 5 (.tmp 37), 5, "", #[], none⟩,
    ⟨some 39, .buildSlice 30 1 #[(0, .tmp 38)], 30, "", #[], none⟩,
    ⟨some 40, .call { callee := .builtin .append, args := #[.tmp 36, .tmp 39], argTypes := #[30, 30] }, 30, "", #[], none⟩,
    ⟨some 4, .assign (.tmp 40), 30, "", #[], none⟩] false)
  (.exit 1))))
  (.seq (.region 13 #[⟨some 41, .move (.tmp 4), 30, "", #[], none⟩,
    ⟨some 42, .move (.tmp 4), 30, "", #[], none⟩,
    ⟨some 43, .call { callee := .builtin .len, args := #[.tmp 42], argTypes := #[30] }, 3, "", #[], none⟩,
    ⟨some 44, .binOp .sub 3 (.tmp 43) (.const (.int .i64 1)) 3, 3, "", #[], none⟩,
    ⟨some 45, .convert 3 5 (.tmp 44), 5, "", #[], none⟩,
    ⟨some 46, .binOp .add 5 (.const (.int .u8 128)) (.tmp 45) 5, 5, "", #[], none⟩,
    ⟨some 47, .indexAddr 30 (.tmp 41) (.const (.int .i64 0)), 0, "", #[], none⟩,
    ⟨none, .store 5 (.tmp 47) (.tmp 46), 0, "", #[], none⟩] false)
  (.seq (.region 14 #[⟨some 48, .move (.tmp 4), 30, "", #[], none⟩,
    ⟨some 49, .call { callee := .value (.func 52), args := #[.tmp 48], argTypes := #[30] }, 30, "", #[], none⟩,
    ⟨some 2, .assign (.tmp 49), 30, "", #[], none⟩,
    ⟨some 3, .assign (.const (.int .i64 0)), 34, "", #[], none⟩] false)
  .ret))))))
def fn67 : AFn := { ntmps := 50, results := [.tmp 2, .tmp 3], body := c67, keep := fun | 0 => some [0] | 1 => some [0, 5] | 2 => some [2, 3] | 3 => some [0, 8] | 4 => some [2, 3] | 5 => some [0, 11] | 6 => some [2, 3] | 7 => some [0, 4] | 8 => some [0, 4, 18] | 9 => some [0, 4, 21] | 10 => some [0, 4] | 11 => some [0, 4] | 12 => some [4] | 13 => some [4] | 14 => some [2, 3] | _ => none, head := fun  | _ => none, opn := fun _ => none, dyn := fun _ => [] }
/-- vidimus/elements.walk -/
def c68 : Code :=
  (.seq (.region 0 #[⟨some 2, .box 33 (.tmp 0), 0, "", #[], none⟩,
    ⟨some 3, .box 113 (.tmp 1), 0, "", #[], none⟩,
    ⟨some 4, .assign (.const (.int .i64 0)), 34, "", #[], none⟩] false)
  (.seq (.region 1 #[⟨some 5, .alloc 113, 0, "", #[], none⟩] false)
  (.seq (.region 2 #[⟨some 6, .makeFunc (.func 78) #[] #[.tmp 3, .tmp 5], 113, "", #[], none⟩,
    ⟨none, .store 113 (.tmp 5) (.tmp 6), 0, "", #[], none⟩] false)
  (.seq (.region 3 #[⟨some 7, .load 113 (.tmp 5), 113, "", #[], none⟩,
    ⟨some 8, .load 33 (.tmp 2), 33, "", #[], none⟩,
    ⟨some 9, .call { callee := .value (.tmp 7), args := #[.tmp 8, .const (.int .i64 1)], argTypes := #[33, 3] }, 34, "", #[], none⟩,
    ⟨some 4, .assign (.tmp 9), 34, "", #[], none⟩] false)
  .ret))))
def fn68 : AFn := { ntmps := 10, results := [.tmp 4], body := c68, keep := fun | 0 => some [2, 3] | 1 => some [2, 3, 5] | 2 => some [2, 5] | 3 => some [4] | _ => none, head := fun  | _ => none, opn := opnT, dyn := fun _ => [] }
/-- vidimus/elements.measure$1 -/
def c69 : Code :=
  (.seq (.region 0 #[⟨some 4, .box 33 (.tmp 0), 0, "", #[], none⟩,
    ⟨some 6, .assign (.const (.int .i64 0)), 34, "", #[], none⟩] false)
  (.seq (.seq (.region 1 #[⟨some 8, .fieldAddr 33 (.tmp 4) 0, 0, "", #[], none⟩,
    ⟨some 9, .load 29 (.tmp 8), 29, "", #[], none⟩,
    ⟨some 10, .call { callee := .value (.func 70), args := #[.tmp 9], argTypes := #[29] }, 34, "", #[], none⟩,
    ⟨some 7, .assign (.tmp 10), 34, "", #[], none⟩] false)
  (.seq (.region 2 #[⟨some 11, .move (.tmp 7), 34, "", #[], none⟩,
    ⟨some 12, .binOp .neq 34 (.tmp 11) (.const (.int .i64 0)) 34, 4, "", #[], none⟩] false)
  (.cond (.tmp 12)
    (.seq (.region 3 #[⟨some 13, .move (.tmp 7), 34, "", #[], none⟩,
      ⟨some 6, .assign (.tmp 13), 34, "", #[], none⟩] false)
    .ret)
    .skip)))
  (.seq (.block 0 (.seq (.region 4 #[⟨some 15, .fieldAddr 33 (.tmp 4) 0, 0, "", #[], none⟩,
    ⟨some 16, .fieldAddr 29 (.tmp 15) 1, 0, "", #[], none⟩,
    ⟨some 17, .load 4 (.tmp 16), 4, "", #[], none⟩,
    ⟨some 18, .move (.tmp 17), 4, "", #[], none⟩,
    ⟨some 19, .fieldAddr 33 (.tmp 4) 1, 0, "", #[], some (18, true)⟩,
    ⟨some 20, .load 30 (.tmp 19), 30, "", #[], some (18, true)⟩,
    ⟨some 21, .call { callee := .builtin .len, args := #[.tmp 20], argTypes := #[30] }, 3, "", #[], some (18, true)⟩,
    ⟨some 22, .binOp .gtr 3 (.tmp 21) (.const (.int .i64 0)) 3, 4, "", #[], some (18, true)⟩,
    ⟨some 23, .pick (.tmp 18) (.tmp 22) (.const (.bool false)), 4, "", #[], none⟩,
    ⟨some 24, .move (.tmp 23), 4, "", #[], none⟩,
    ⟨some 25, .fieldAddr 33 (.tmp 4) 0, 0, "", #[], some (24, false)⟩,
    ⟨some 26, .fieldAddr 29 (.tmp 25) 1, 0, "", #[], some (24, false)⟩,
    ⟨some 27, .load 4 (.tmp 26), 4, "", #[], some (24, false)⟩,
    ⟨some 28, .unOp .not 4 (.tmp 27), 4, "", #[], some (24, false)⟩,
    ⟨some 29, .move (.tmp 28), 4, "", #[], some (24, false)⟩,
    ⟨some 30, .fieldAddr 33 (.tmp 4) 2, 0, "", #[], some (29, true)⟩,
    ⟨some 31, .load 31 (.tmp 30), 31, "", #[], some (29, true)⟩,
    ⟨some 32, .call { callee := .builtin .len, args := #[.tmp 31], argTypes := #[31] }, 3, "", #[], some (29, true)⟩,
    ⟨some 33, .binOp .gtr 3 (.tmp 32) (.const (.int .i64 0)) 3, 4, "", #[], some (29, true)⟩,
    ⟨some 34, .pick (.tmp 29) (.tmp 33) (.const (.bool false)), 4, "", #[], some (24, false)⟩,
    ⟨some 35, .pick (.tmp 24) (.const (.bool true)) (.tmp 34), 4, "", #[], none⟩,
    ⟨some 14, .assign (.tmp 35), 4, "", #[], none⟩] false)
  (.cond (.tmp 14)
    (.seq (.region 5 #[⟨some 6, .assign (.const (.int .i64 1)), 34, "", #[], none⟩] false)
    .ret)
    (.seq (.region 6 #[⟨some 37, .move (.tmp 1), 3, "", #[], none⟩,
      ⟨some 38, .binOp .gtr 3 (.tmp 37) (.const (.int .i64 16)) 3, 4, "", #[], none⟩,
      ⟨some 36, .assign (.tmp 38), 4, "", #[], none⟩] false)
    (.cond (.tmp 36)
      (.seq (.region 7 #[⟨some 6, .assign (.const (.int .i64 12)), 34, "", #[], none⟩] false)
      .ret)
      (.seq (.region 8 #[⟨some 40, .load 3 (.tmp 2), 3, "", #[], none⟩,
        ⟨some 41, .binOp .eql 3 (.tmp 40) (.const (.int .i64 8192)) 3, 4, "", #[], none⟩,
        ⟨some 39, .assign (.tmp 41), 4, "", #[], none⟩] false)
      (.cond (.tmp 39)
        (.seq (.region 9 #[⟨some 6, .assign (.const (.int .i64 3)), 34, "", #[], none⟩] false)
        .ret)
        .skip)))))))
  (.seq (.region 10 #[⟨some 42, .load 3 (.tmp 2), 3, "", #[], none⟩,
    ⟨some 43, .binOp .add 3 (.tmp 42) (.const (.int .i64 1)) 3, 3, "", #[], none⟩,
    ⟨none, .store 3 (.tmp 2) (.tmp 43), 0, "", #[], none⟩] false)
  (.seq (.region 11 #[⟨some 44, .load 3 (.tmp 3), 3, "", #[], none⟩,
    ⟨some 45, .move (.tmp 1), 3, "", #[], none⟩,
    ⟨some 46, .call { callee := .builtin .max, args := #[.tmp 44, .tmp 45], argTypes := #[3, 3] }, 3, "", #[], none⟩,
    ⟨none, .store 3 (.tmp 3) (.tmp 46), 0, "", #[], none⟩] false)
  (.seq (.region 12 #[⟨some 6, .assign (.const (.int .i64 0)), 34, "", #[], none⟩] false)
  .ret))))))
def fn69 : AFn := { ntmps := 47, results := [.tmp 6], body := c69, keep := fun | 0 => some [1, 2, 3, 4] | 1 => some [1, 2, 3, 4, 7] | 2 => some [1, 2, 3, 4, 7, 12] | 3 => some [6] | 4 => some [1, 2, 3, 14] | 5 => some [6] | 6 => some [1, 2, 3, 36] | 7 => some [6] | 8 => some [1, 2, 3, 39] | 9 => some [6] | 10 => some [1, 3] | 11 => some [] | 12 => some [6] | _ => none, head := fun  | _ => none, opn := fun _ => none, dyn := fun _ => [] }
/-- vidimus/tags.Check -/
def c70 : Code :=
  (.seq (.region 0 #[⟨some 1, .box 29 (.tmp 0), 0, "", #[], none⟩,
    ⟨some 2, .assign (.const (.int .i64 0)), 34, "", #[], none⟩] false)
  (.seq (.seq (.region 1 #[⟨some 3, .fieldAddr 29 (.tmp 1) 0, 0, "", #[], none⟩,
    ⟨some 4, .load 27 (.tmp 3), 27, "", #[], none⟩,
    ⟨some 5, .binOp .gtr 27 (.tmp 4) (.const (.int .u8 3)) 27, 4, "", #[], none⟩,
    ⟨some 6, .move (.tmp 5), 4, "", #[], none⟩,
    ⟨some 7, .fieldAddr 29 (.tmp 1) 2, 0, "", #[], some (6, false)⟩,
    ⟨some 8, .load 22 (.tmp 7), 22, "", #[], some (6, false)⟩,
    ⟨some 9, .binOp .gtr 22 (.tmp 8) (.const (.int .u32 268435455)) 22, 4, "", #[], some (6, false)⟩,
    ⟨some 10, .pick (.tmp 6) (.const (.bool true)) (.tmp 9), 4, "", #[], none⟩] false)
  (.cond (.tmp 10)
    (.seq (.region 2 #[⟨some 2, .assign (.const (.int .i64 1)), 34, "", #[], none⟩] false)
    .ret)
    .skip))
  (.seq (.seq (.region 3 #[⟨some 11, .fieldAddr 29 (.tmp 1) 0, 0, "", #[], none⟩,
    ⟨some 12, .load 27 (.tmp 11), 27, "", #[], none⟩,
    ⟨some 13, .binOp .neq 27 (.tmp 12) (.const (.int .u8 0)) 27, 4, "", #[], none⟩] false)
  (.cond (.tmp 13)
    (.seq (.region 4 #[⟨some 2, .assign (.const (.int .i64 0)), 34, "", #[], none⟩] false)
    .ret)
    .skip))
  (.seq (.seq (.region 5 #[⟨some 14, .fieldAddr 29 (.tmp 1) 2, 0, "", #[], none⟩,
    ⟨some 15, .load 22 (.tmp 14), 22, "", #[], none⟩] false)
  (.block 0 (.seq (.region 6 #[⟨some 17, .binOp .eql 22 (.tmp 15) (.const (.int .u32 0)) 22, 4, "", #[], none⟩,
    ⟨some 16, .assign (.tmp 17), 4, "", #[], none⟩] false)
  (.cond (.tmp 16)
    (.seq (.region 7 #[⟨some 2, .assign (.const (.int .i64 9)), 34, "", #[], none⟩] false)
    .ret)
    (.seq (.seq (.region 8 #[⟨some 19, .binOp .eql 22 (.tmp 15) (.const (.int .u32 16)) 22, 4, "", #[], none⟩,
      ⟨some 18, .assign (.tmp 19), 4, "", #[], none⟩] false)
    (.cond (.tmp 18)
      .skip
      (.region 9 #[⟨some 20, .binOp .eql 22 (.tmp 15) (.const (.int .u32 17)) 22, 4, "", #[], none⟩,
        ⟨some 18, .assign (.tmp 20), 4, "", #[], none⟩] false)))
    (.cond (.tmp 18)
      (.seq (.region 10 #[⟨some 21, .fieldAddr 29 (.tmp 1) 1, 0, "", #[], none⟩,
        ⟨some 22, .load 4 (.tmp 21), 4, "", #[], none⟩,
        ⟨some 23, .unOp .not 4 (.tmp 22), 4, "", #[], none⟩] false)
      (.cond (.tmp 23)
        (.seq (.region 11 #[⟨some 2, .assign (.const (.int .i64 9)), 34, "", #[], none⟩] false)
        .ret)
        .skip))
      .skip))))))
  (.seq (.region 12 #[⟨some 2, .assign (.const (.int .i64 0)), 34, "", #[], none⟩] false)
  .ret)))))
def fn70 : AFn := { ntmps := 24, results := [.tmp 2], body := c70, keep := fun | 0 => some [1] | 1 => some [1, 10] | 2 => some [2] | 3 => some [1, 13] | 4 => some [2] | 5 => some [1, 15] | 6 => some [1, 15, 16] | 7 => some [2] | 8 => some [1, 15, 18] | 9 => some [1, 18] | 10 => some [23] | 11 => some [2] | 12 => some [2] | _ => none, head := fun  | _ => none, opn := fun _ => none, dyn := fun _ => [] }
/-- slices.Clip[[]int,int] -/
def c71 : Code :=
  (.seq (.region 0 #[⟨some 2, .assign (.const (.slice none 0 0)), 43, "", #[], none⟩] false)
  (.seq (.region 1 #[⟨some 3, .move (.tmp 0), 43, "", #[], none⟩,
    ⟨some 4, .move (.tmp 0), 43, "", #[], none⟩,
    ⟨some 5, .call { callee := .builtin .len, args := #[.tmp 4], argTypes := #[43] }, 3, "", #[], none⟩,
    ⟨some 6, .move (.tmp 0), 43, "", #[], none⟩,
    ⟨some 7, .call { callee := .builtin .len, args := #[.tmp 6], argTypes := #[43] }, 3, "", #[], none⟩,
    ⟨some 8, .slice 43 (.tmp 3) none (some (.tmp 5)) (some (.tmp 7)), 43, "", #[], none⟩,
    ⟨some 2, .assign (.tmp 8), 43, "", #[], none⟩] false)
  .ret))
def fn71 : AFn := { ntmps := 9, results := [.tmp 2], body := c71, keep := fun | 0 => some [0] | 1 => some [2] | _ => none, head := fun  | _ => none, opn := fun _ => none, dyn := fun _ => [] }
/-- vidimus/fields.Offset -/
def c72 : Code :=
  (.seq (.region 0 #[⟨some 2, .box 33 (.tmp 0), 0, "", #[], none⟩,
    ⟨some 4, .assign (.const (.int .i64 0)), 3, "", #[], none⟩,
    ⟨some 5, .assign (.const (.int .i64 0)), 34, "", #[], none⟩] false)
  (.seq (.seq (.region 1 #[⟨some 14, .load 33 (.tmp 2), 33, "", #[], none⟩,
    ⟨some 15, .call { callee := .value (.func 35), args := #[.tmp 14], argTypes := #[33] }, 37, "", #[], none⟩,
    ⟨some 13, .move (.tmp 15), 37, "", #[], none⟩,
    ⟨some 16, .extract (.tmp 13) 0, 30, "", #[], none⟩,
    ⟨some 17, .extract (.tmp 13) 1, 34, "", #[], none⟩,
    ⟨some 6, .assign (.tmp 16), 30, "", #[], none⟩,
    ⟨some 7, .assign (.tmp 17), 34, "", #[], none⟩] false)
  (.seq (.region 2 #[⟨some 18, .move (.tmp 7), 34, "", #[], none⟩,
    ⟨some 19, .binOp .neq 34 (.tmp 18) (.const (.int .i64 0)) 34, 4, "", #[], none⟩] false)
  (.cond (.tmp 19)
    (.seq (.region 3 #[⟨some 20, .move (.tmp 7), 34, "", #[], none⟩,
      ⟨some 4, .assign (.const (.int .i64 0)), 3, "", #[], none⟩,
      ⟨some 5, .assign (.tmp 20), 34, "", #[], none⟩] false)
    .ret)
    .skip)))
  (.seq (.region 4 #[⟨some 8, .assign (.const (.int .i64 0)), 3, "", #[], none⟩] false)
  (.seq (.seq (.region 5 #[⟨some 21, .move (.tmp 1), 43, "", #[], none⟩,
    ⟨some 22, .call { callee := .builtin .len, args := #[.tmp 21], argTypes := #[43] }, 3, "", #[], none⟩,
    ⟨some 23, .move (.const (.int .i64 0)), 3, "", #[], none⟩] false)
  (.block 0 (.loop (.seq (.region 6 #[⟨some 24, .binOp .lss 3 (.tmp 23) (.tmp 22) 3, 0, "", #[], none⟩] false)
  (.seq (.cond (.tmp 24)
    .skip
    (.exit 0))
  (.seq (.block 1 (.seq (.region 7 #[⟨some 25, .indexAddr 43 (.tmp 21) (.tmp 23), 0, "", #[], none⟩,
    ⟨some 26, .load 3 (.tmp 25), 3, "", #[], none⟩,
    ⟨some 10, .assign (.tmp 26), 3, "", #[], none⟩] false)
  (.seq (.region 8 #[⟨some 28, .load 33 (.tmp 2), 33, "", #[], none⟩,
    ⟨some 29, .move (.tmp 10), 3, "", #[], none⟩,
    ⟨some 30, .call { callee := .value (.func 79), args := #[.tmp 28, .tmp 29], argTypes := #[33, 3] }, 123, "", #[], none⟩,
    ⟨some 27, .move (.tmp 30), 123, "", #[], none⟩,
    ⟨some 31, .extract (.tmp 27) 0, 33, "", #[], none⟩,
    ⟨some 32, .extract (.tmp 27) 1, 4, "", #[], none⟩,
    ⟨some 11, .alloc 33, 0, "", #[], none⟩,
    ⟨none, .store 33 (.tmp 11) (.tmp 31), 0, "", #[], none⟩,
    ⟨some 12, .assign (.tmp 32), 4, "", #[], none⟩] false)
  (.seq (.seq (.region 9 #[⟨some 33, .move (.tmp 12), 4, "", #[], none⟩,
    ⟨some 34, .unOp .not 4 (.tmp 33), 4, "", #[], none⟩] false)
  (.cond (.tmp 34)
    (.seq (.region 10 #[⟨some 4, .assign (.const (.int .i64 0)), 3, "", #[], none⟩,
      ⟨some 5, .assign (.const (.int .i64 19)), 34, "", #[], none⟩] false)
    .ret)
    .skip))
  (.seq (.region 11 #[⟨some 35, .move (.tmp 8), 3, "", #[], none⟩,
    ⟨some 36, .load 33 (.tmp 2), 33, "", #[], none⟩,
    ⟨some 37, .buildSlice 31 1 #[(0, .tmp 36)], 31, "", fz, none⟩,
    ⟨some 38, .call { callee := .value (.func 80), args := #[.tmp 37], argTypes := #[31] }, 3, "", #[], none⟩,
    ⟨some 39, .fieldAddr 33 (.tmp 2) 2, 0, "", #[], none⟩,
    ⟨some 40, .load 31 (.tmp 39), 31, "", #[], none⟩,
    ⟨some 41, .move (.tmp 10), 3, "", #[], none⟩,
    ⟨some 42, .slice 31 (.tmp 40) (some (.tmp 41)) none none, 31, "", #[], none⟩,
    ⟨some 43, .call { callee := .value (.func 80), args := #[.tmp 42], argTypes := #[31] }, 3, "", #[], none⟩,
    ⟨some 44, .binOp .sub 3 (.tmp 38) (.tmp 43) 3, 3, "", #[], none⟩,
    ⟨some 45, .binOp .add 3 (.tmp 35) (.tmp 44) 3, 3, "", #[], none⟩,
    ⟨some 8, .assign (.tmp 45), 3, "", #[], none⟩] true)
  (.region 12 #[⟨some 46, .load 33 (.tmp 11), 33, "", #[], none⟩,
    ⟨none, .store 33 (.tmp 2) (.tmp 46), 0, "", #[], none⟩] false))))))
  (.region 13 #[⟨some 47, .binOp .add 3 (.tmp 23) (.const (.int .i64 1)) 3, 3, "", #[], none⟩,
    ⟨some 23, .move (.tmp 47), 3, "", #[], none⟩] false)))))))
  (.seq (.region 14 #[⟨some 48, .move (.tmp 8), 3, "", #[], none⟩,
    ⟨some 4, .assign (.tmp 48), 3, "", #[], none⟩,
    ⟨some 5, .assign (.const (.int .i64 0)), 34, "", #[], none⟩] false)
  .ret)))))
def fn72 : AFn := { ntmps := 49, results := [.tmp 4, .tmp 5], body := c72, keep := fun | 0 => some [1, 2] | 1 => some [1, 2, 7] | 2 => some [1, 2, 7, 19] | 3 => some [4, 5] | 4 => some [1, 2, 8] | 5 => some [2, 8, 21, 22, 23] | 6 => some [2, 8, 21, 22, 23, 24] | 7 => some [2, 8, 10, 21, 22, 23] | 8 => some [2, 8, 10, 11, 12, 21, 22, 23] | 9 => some [2, 8, 10, 11, 21, 22, 23, 34] | 10 => some [4, 5] | 11 => some [2, 8, 11, 21, 22, 23] | 12 => some [2, 8, 21, 22, 23] | 13 => some [2, 8, 21, 22, 23] | 14 => some [4, 5] | _ => none, head := fun | 6 => some [2, 8, 21, 22, 23] | _ => none, opn := fun _ => none, dyn := fun _ => [] }
/-- vidimus/tags.Get -/
def c73 : Code :=
  (.seq (.region 0 #[⟨some 2, .alloc 29, 0, "", #[], none⟩,
    ⟨some 3, .assign (.const (.int .i64 0)), 3, "", #[], none⟩,
    ⟨some 4, .assign (.const (.int .i64 0)), 34, "", #[], none⟩] false)
  (.seq (.seq (.region 1 #[⟨some 5, .move (.tmp 0), 30, "", #[], none⟩,
    ⟨some 6, .call { callee := .builtin .len, args := #[.tmp 5], argTypes := #[30] }, 3, "", #[], none⟩,
    ⟨some 7, .binOp .eql 3 (.tmp 6) (.const (.int .i64 0)) 3, 4, "", #[], none⟩] false)
  (.cond (.tmp 7)
    (.seq (.region 2 #[⟨some 8, .build 29 #[], 29, "", #[], none⟩,
      ⟨none, .store 29 (.tmp 2) (.tmp 8), 0, "", #[], none⟩,
      ⟨some 3, .assign (.const (.int .i64 0)), 3, "", #[], none⟩,
      ⟨some 4, .assign (.const (.int .i64 7)), 34, "", #[], none⟩] false)
    .ret)
    .skip))
  (.seq (.region 3 #[⟨some 9, .move (.tmp 0), 30, "", #[], none⟩,
    ⟨some 10, .indexAddr 30 (.tmp 9) (.const (.int .i64 0)), 0, "", #[], none⟩,
    ⟨some 11, .load 5 (.tmp 10), 5, "", #[], none⟩,
    ⟨some 12, .binOp .shr 5 (.tmp 11) (.const (.int .u64 6)) 108, 5, "", #[], none⟩,
    ⟨some 13, .move (.tmp 0), 30, "", #[], none⟩,
    ⟨some 14, .indexAddr 30 (.tmp 13) (.const (.int .i64 0)), 0, "", #[], none⟩,
    ⟨some 15, .load 5 (.tmp 14), 5, "", #[], none⟩,
    ⟨some 16, .binOp .and 5 (.tmp 15) (.const (.int .u8 32)) 5, 5, "", #[], none⟩,
    ⟨some 17, .binOp .neq 5 (.tmp 16) (.const (.int .u8 0)) 5, 4, "", #[], none⟩,
    ⟨some 18, .move (.tmp 0), 30, "", #[], none⟩,
    ⟨some 19, .indexAddr 30 (.tmp 18) (.const (.int .i64 0)), 0, "", #[], none⟩,
    ⟨some 20, .load 5 (.tmp 19), 5, "", #[], none⟩,
    ⟨some 21, .binOp .and 5 (.tmp 20) (.const (.int .u8 31)) 5, 5, "", #[], none⟩,
    ⟨some 22, .convert 5 22 (.tmp 21), 22, "", #[], none⟩,
    ⟨some 23, .build 29 #[(0, .tmp 12), (1, .tmp 17), (2, .tmp 22)], 29, "", #[], none⟩,
    ⟨none, .store 29 (.tmp 2) (.tmp 23), 0, "", #[], none⟩] true)
  (.seq (.region 4 #[⟨some 3, .assign (.const (.int .i64 1)), 3, "", #[], none⟩] false)
  (.seq (.seq (.region 5 #[⟨some 24, .fieldAddr 29 (.tmp 2) 2, 0, "", #[], none⟩,
    ⟨some 25, .load 22 (.tmp 24), 22, "", #[], none⟩,
    ⟨some 26, .binOp .eql 22 (.tmp 25) (.const (.int .u32 31)) 22, 4, "", #[], none⟩] false)
  (.cond (.tmp 26)
    (.region 6 #[⟨some 28, .move (.tmp 0), 30, "", #[], none⟩,
      ⟨some 29, .call { callee := .value (.func 81), args := #[.tmp 28], argTypes := #[30] }, 126, "", #[], none⟩,
      ⟨some 27, .move (.tmp 29), 126, "", #[], none⟩,
      ⟨some 30, .extract (.tmp 27) 0, 22, "", #[], none⟩,
      ⟨some 31, .extract (.tmp 27) 1, 3, "", #[], none⟩,
      ⟨some 32, .extract (.tmp 27) 2, 34, "", #[], none⟩,
      ⟨some 33, .fieldAddr 29 (.tmp 2) 2, 0, "", #[], none⟩,
      ⟨none, .store 22 (.tmp 33) (.tmp 30), 0, "", #[], none⟩,
      ⟨some 3, .assign (.tmp 31), 3, "", #[], none⟩,
      ⟨some 4, .assign (.tmp 32), 34, "", #[], none⟩] false)
    .skip))
  (.seq (.seq (.region 7 #[⟨some 34, .move (.tmp 4), 34, "", #[], none⟩,
    ⟨some 35, .binOp .eql 34 (.tmp 34) (.const (.int .i64 0)) 34, 4, "", #[], none⟩] false)
  (.cond (.tmp 35)
    (.region 8 #[⟨some 36, .load 29 (.tmp 2), 29, "", #[], none⟩,
      ⟨some 37, .call { callee := .value (.func 70), args := #[.tmp 36], argTypes := #[29] }, 34, "", #[], none⟩,
      ⟨some 4, .assign (.tmp 37), 34, "", #[], none⟩] false)
    .skip))
  (.seq (.seq (.region 9 #[⟨some 38, .move (.tmp 4), 34, "", #[], none⟩,
    ⟨some 39, .binOp .neq 34 (.tmp 38) (.const (.int .i64 0)) 34, 4, "", #[], none⟩] false)
  (.cond (.tmp 39)
    (.seq (.region 10 #[⟨some 40, .build 29 #[], 29, "", #[], none⟩,
      ⟨some 41, .move (.tmp 4), 34, "", #[], none⟩,
      ⟨none, .store 29 (.tmp 2) (.tmp 40), 0, "", #[], none⟩,
      ⟨some 3, .assign (.const (.int .i64 0)), 3, "", #[], none⟩,
      ⟨some 4, .assign (.tmp 41), 34, "", #[], none⟩] false)
    .ret)
    .skip))
  (.seq (.region 11 #[⟨some 42, .load 29 (.tmp 2), 29, "", #[], none⟩,
    ⟨some 43, .move (.tmp 3), 3, "", #[], none⟩,
    ⟨none, .store 29 (.tmp 2) (.tmp 42), 0, "", #[], none⟩,
    ⟨some 3, .assign (.tmp 43), 3, "", #[], none⟩,
    ⟨some 4, .assign (.const (.int .i64 0)), 34, "", #[], none⟩] false)
  .ret))))))))
def fn73 : AFn := { ntmps := 44, results := [.cell 2 29, .tmp 3, .tmp 4], body := c73, keep := fun | 0 => some [0, 2, 4] | 1 => some [0, 2, 4, 7] | 2 => some [2, 3, 4] | 3 => some [0, 2, 4] | 4 => some [0, 2, 3, 4] | 5 => some [0, 2, 3, 4, 26] | 6 => some [2, 3, 4] | 7 => some [2, 3, 4, 35] | 8 => some [2, 3, 4] | 9 => some [2, 3, 4, 39] | 10 => some [2, 3, 4] | 11 => some [2, 3, 4] | _ => none, head := fun  | _ => none, opn := fun _ => none, dyn := fun _ => [] }
/-- vidimus/lengths.Get -/
def c74 : Code :=
  (.seq (.region 0 #[⟨some 2, .assign (.const (.int .i64 0)), 3, "", #[], none⟩,
    ⟨some 3, .assign (.const (.int .i64 0)), 3, "", #[], none⟩,
    ⟨some 4, .assign (.const (.int .i64 0)), 34, "", #[], none⟩] false)
  (.seq (.seq (.region 1 #[⟨some 7, .move (.tmp 0), 30, "", #[], none⟩,
    ⟨some 8, .call { callee := .builtin .len, args := #[.tmp 7], argTypes := #[30] }, 3, "", #[], none⟩,
    ⟨some 9, .binOp .eql 3 (.tmp 8) (.const (.int .i64 0)) 3, 4, "", #[], none⟩] false)
  (.cond (.tmp 9)
    (.seq (.region 2 #[⟨some 2, .assign (.const (.int .i64 0)), 3, "", #[], none⟩,
      ⟨some 3, .assign (.const (.int .i64 0)), 3, "", #[], none⟩,
      ⟨some 4, .assign (.const (.int .i64 7)), 34, "", #[], none⟩] false)
    .ret)
    .skip))
  (.seq (.seq (.region 3 #[⟨some 10, .move (.tmp 0), 30, "", #[], none⟩,
    ⟨some 11, .indexAddr 30 (.tmp 10) (.const (.int .i64 0)), 0, "", #[], none⟩,
    ⟨some 12, .load 5 (.tmp 11), 5, "", #[], none⟩,
    ⟨some 13, .binOp .leq 5 (.tmp 12) (.const (.int .u8 127)) 5, 4, "", #[], none⟩] false)
  (.cond (.tmp 13)
    (.seq (.region 4 #[⟨some 14, .move (.tmp 0), 30, "", #[], none⟩,
      ⟨some 15, .indexAddr 30 (.tmp 14) (.const (.int .i64 0)), 0, "", #[], none⟩,
      ⟨some 16, .load 5 (.tmp 15), 5, "", #[], none⟩,
      ⟨some 17, .convert 5 3 (.tmp 16), 3, "", #[], none⟩,
      ⟨some 2, .assign (.tmp 17), 3, "", #[], none⟩,
      ⟨some 3, .assign (.const (.int .i64 1)), 3, "", #[], none⟩,
      ⟨some 4, .assign (.const (.int .i64 0)), 34, "", #[], none⟩] false)
    .ret)
    .skip))
  (.seq (.region 5 #[⟨some 5, .alloc 129, 0, "", #[], none⟩] false)
  (.seq (.region 6 #[⟨some 18, .move (.tmp 0), 30, "", #[], none⟩,
    ⟨some 19, .indexAddr 30 (.tmp 18) (.const (.int .i64 0)), 0, "", #[], none⟩,
    ⟨some 20, .load 5 (.tmp 19), 5, "", #[], none⟩,
    ⟨some 21, .convert 5 3 (.tmp 20), 3, "", #[], none⟩,
    ⟨some 22, .binOp .sub 3 (.tmp 21) (.const (.int .i64 128)) 3, 3, "", #[], none⟩,
    ⟨some 6, .assign (.tmp 22), 3, "", #[], none⟩] false)
  (.seq (.block 0 (.seq (.region 7 #[⟨some 24, .move (.tmp 6), 3, "", #[], none⟩,
    ⟨some 25, .binOp .eql 3 (.tmp 24) (.const (.int .i64 0)) 3, 4, "", #[], none⟩,
    ⟨some 26, .move (.tmp 25), 4, "", #[], none⟩,
    ⟨some 27, .move (.tmp 6), 3, "", #[], some (26, false)⟩,
    ⟨some 28, .binOp .gtr 3 (.tmp 27) (.const (.int .i64 3)) 3, 4, "", #[], some (26, false)⟩,
    ⟨some 29, .pick (.tmp 26) (.const (.bool true)) (.tmp 28), 4, "", #[], none⟩,
    ⟨some 23, .assign (.tmp 29), 4, "", #[], none⟩] false)
  (.cond (.tmp 23)
    (.seq (.region 8 #[⟨some 2, .assign (.const (.int .i64 0)), 3, "", #[], none⟩,
      ⟨some 3, .assign (.const (.int .i64 0)), 3, "", #[], none⟩,
      ⟨some 4, .assign (.const (.int .i64 10)), 34, "", #[], none⟩] false)
    .ret)
    (.seq (.region 9 #[⟨some 31, .move (.tmp 0), 30, "", #[], none⟩,
      ⟨some 32, .call { callee := .builtin .len, args := #[.tmp 31], argTypes := #[30] }, 3, "", #[], none⟩,
      ⟨some 33, .move (.tmp 6), 3, "", #[], none⟩,
      ⟨some 34, .binOp .leq 3 (.tmp 32) (.tmp 33) 3, 4, "", #[], none⟩,
      ⟨some 30, .assign (.tmp 34), 4, "", #[], none⟩] false)
    (.cond (.tmp 30)
      (.seq (.region 10 #[⟨some 2, .assign (.const (.int .i64 0)), 3, "", #[], none⟩,
        ⟨some 3, .assign (.const (.int .i64 0)), 3, "", #[], none⟩,
        ⟨some 4, .assign (.const (.int .i64 7)), 34, "", #[], none⟩] false)
      .ret)
      .skip)))))
  (.seq (.region 11 #[⟨some 35, .move (.tmp 6), 3, "", #[], none⟩,
    ⟨some 36, .binOp .sub 3 (.const (.int .i64 3)) (.tmp 35) 3, 3, "", #[], none⟩,
    ⟨some 37, .slice 129 (.tmp 5) (some (.tmp 36)) none none, 30, "", #[], none⟩,
    ⟨some 38, .move (.tmp 0), 30, "", #[], none⟩,
    ⟨some 39, .slice 30 (.tmp 38) (some (.const (.int .i64 1))) none none, 30, "", #[], none⟩,
    ⟨some 40, .call { callee := .builtin .copy, args := #[.tmp 37, .tmp 39], argTypes := #[30, 30] }, 3, "", #[], none⟩] true)
  (.seq (.region 12 #[⟨some 41, .indexAddr 129 (.tmp 5) (.const (.int .i64 0)), 0, "", #[], none⟩,
    ⟨some 42, .load 5 (.tmp 41), 5, "", #[], none⟩,
    ⟨some 43, .convert 5 3 (.tmp 42), 3, "", #[], none⟩,
    ⟨some 44, .binOp .shl 3 (.tmp 43) (.const (.int .u64 16)) 108, 3, "", #[], none⟩,
    ⟨some 45, .indexAddr 129 (.tmp 5) (.const (.int .i64 1)), 0, "", #[], none⟩,
    ⟨some 46, .load 5 (.tmp 45), 5, "", #[], none⟩,
    ⟨some 47, .convert 5 3 (.tmp 46), 3, "", #[], none⟩,
    ⟨some 48, .binOp .shl 3 (.tmp 47) (.const (.int .u64 8)) 108, 3, "", #[], none⟩,
    ⟨some 49, .binOp .or 3 (.tmp 44) (.tmp 48) 3, 3, "", #[], none⟩,
    ⟨some 50, .indexAddr 129 (.tmp 5) (.const (.int .i64 2)), 0, "", #[], none⟩,
    ⟨some 51, .load 5 (.tmp 50), 5, "", #[], none⟩,
    ⟨some 52, .convert 5 3 (.tmp 51), 3, "", #[], none⟩,
    ⟨some 53, .binOp .or 3 (.tmp 49) (.tmp 52) 3, 3, "", #[], none⟩,
    ⟨some 2, .assign (.tmp 53), 3, "", #[], none⟩] false)
  (.seq (.seq (.region 13 #[⟨some 54, .move (.tmp 0), 30, "", #[], none⟩,
    ⟨some 55, .indexAddr 30 (.tmp 54) (.const (.int .i64 1)), 0, "", #[], none⟩,
    ⟨some 56, .load 5 (.tmp 55), 5, "", #[], none⟩,
    ⟨some 57, .binOp .eql 5 (.tmp 56) (.const (.int .u8 0)) 5, 4, "", #[], none⟩,
    ⟨some 58, .move (.tmp 57), 4, "", #[], none⟩,
    ⟨some 59, .move (.tmp 2), 3, "", #[], some (58, false)⟩,
    ⟨some 60, .binOp .leq 3 (.tmp 59) (.const (.int .i64 127)) 3, 4, "", #[], some (58, false)⟩,
    ⟨some 61, .pick (.tmp 58) (.const (.bool true)) (.tmp 60), 4, "", #[], none⟩] false)
  (.cond (.tmp 61)
    (.seq (.region 14 #[⟨some 2, .assign (.const (.int .i64 0)), 3, "", #[], none⟩,
      ⟨some 3, .assign (.const (.int .i64 0)), 3, "", #[], none⟩,
      ⟨some 4, .assign (.const (.int .i64 10)), 34, "", #[], none⟩] false)
    .ret)
    .skip))
  (.seq (.region 15 #[⟨some 62, .move (.tmp 2), 3, "", #[], none⟩,
    ⟨some 63, .move (.tmp 6), 3, "", #[], none⟩,
    ⟨some 64, .binOp .add 3 (.tmp 63) (.const (.int .i64 1)) 3, 3, "", #[], none⟩,
    ⟨some 2, .assign (.tmp 62), 3, "", #[], none⟩,
    ⟨some 3, .assign (.tmp 64), 3, "", #[], none⟩,
    ⟨some 4, .assign (.const (.int .i64 0)), 34, "", #[], none⟩] false)
  .ret))))))))))
def fn74 : AFn := { ntmps := 65, results := [.tmp 2, .tmp 3, .tmp 4], body := c74, keep := fun | 0 => some [0] | 1 => some [0, 9] | 2 => some [2, 3, 4] | 3 => some [0, 13] | 4 => some [2, 3, 4] | 5 => some [0, 5] | 6 => some [0, 5, 6] | 7 => some [0, 5, 6, 23] | 8 => some [2, 3, 4] | 9 => some [0, 5, 6, 30] | 10 => some [2, 3, 4] | 11 => some [0, 5, 6] | 12 => some [0, 2, 6] | 13 => some [2, 6, 61] | 14 => some [2, 3, 4] | 15 => some [2, 3, 4] | _ => none, head := fun  | _ => none, opn := fun _ => none, dyn := fun _ => [] }
/-- bytes.Clone -/
def c75 : Code :=
  (.seq (.region 0 #[⟨some 2, .assign (.const (.slice none 0 0)), 30, "", #[], none⟩] false)
  (.seq (.seq (.region 1 #[⟨some 3, .move (.tmp 0), 30, "", #[], none⟩,
    ⟨some 4, .binOp .eql 30 (.tmp 3) (.const (.slice none 0 0)) 30, 4, "", #[], none⟩] false)
  (.cond (.tmp 4)
    (.seq (.region 2 #[⟨some 2, .assign (.const (.slice none 0 0)), 30, "", #[], none⟩] false)
    .ret)
    .skip))
  (.seq (.region 3 #[⟨some 5, .buildSlice 30 0 #[], 30, "", #[], none⟩,
    ⟨some 6, .move (.tmp 0), 30, "", #[], none⟩,
    ⟨some 7, .call { callee := .builtin .append, args := #[.tmp 5, .tmp 6], argTypes := #[30, 30] }, 30, "", #[], none⟩,
    ⟨some 2, .assign (.tmp 7), 30, "", #[], none⟩] false)
  .ret)))
def fn75 : AFn := { ntmps := 8, results := [.tmp 2], body := c75, keep := fun | 0 => some [0] | 1 => some [0, 4] | 2 => some [2] | 3 => some [2] | _ => none, head := fun  | _ => none, opn := fun _ => none, dyn := fun _ => [] }
/-- vidimus/lengths.Size -/
def c76 : Code :=
  (.seq (.region 0 #[⟨some 2, .assign (.const (.int .i64 0)), 3, "", #[], none⟩] false)
  (.seq (.region 1 #[⟨some 6, .move (.tmp 0), 3, "", #[], none⟩,
    ⟨some 7, .call { callee := .value (.func 67), args := #[.tmp 6], argTypes := #[3] }, 37, "", #[], none⟩,
    ⟨some 5, .move (.tmp 7), 37, "", #[], none⟩,
    ⟨some 8, .extract (.tmp 5) 0, 30, "", #[], none⟩,
    ⟨some 9, .extract (.tmp 5) 1, 34, "", #[], none⟩,
    ⟨some 3, .assign (.tmp 8), 30, "", #[], none⟩,
    ⟨some 4, .assign (.tmp 9), 34, "", #[], none⟩] false)
  (.seq (.region 2 #[⟨some 10, .move (.tmp 3), 30, "", #[], none⟩,
    ⟨some 11, .call { callee := .builtin .len, args := #[.tmp 10], argTypes := #[30] }, 3, "", #[], none⟩,
    ⟨some 2, .assign (.tmp 11), 3, "", #[], none⟩] false)
  .ret)))
def fn76 : AFn := { ntmps := 12, results := [.tmp 2], body := c76, keep := fun | 0 => some [0] | 1 => some [3] | 2 => some [2] | _ => none, head := fun  | _ => none, opn := fun _ => none, dyn := fun _ => [] }
/-- vidimus/tags.groups -/
def c77 : Code :=
  (.seq (.region 0 #[⟨some 1, .box 22 (.tmp 0), 0, "", #[], none⟩,
    ⟨some 2, .assign (.const .nilFunc), 121, "", #[], none⟩] false)
  (.seq (.region 1 #[⟨some 3, .makeFunc (.func 82) #[] #[.tmp 1], 120, "", #[], none⟩,
    ⟨some 2, .assign (.tmp 3), 121, "", #[], none⟩] false)
  .ret))
def fn77 : AFn := { ntmps := 4, results := [.tmp 2], body := c77, keep := fun | 0 => some [1] | 1 => some [2] | _ => none, head := fun  | _ => none, opn := fun _ => none, dyn := fun _ => [] }
/-- vidimus/elements.walk$1 -/
def c78 : Code :=
  (.seq (.region 0 #[⟨some 4, .box 33 (.tmp 0), 0, "", #[], none⟩,
    ⟨some 6, .assign (.const (.int .i64 0)), 34, "", #[], none⟩] false)
  (.seq (.seq (.region 1 #[⟨some 11, .load 113 (.tmp 2), 113, "", #[], none⟩,
    ⟨some 12, .load 33 (.tmp 4), 33, "", #[], none⟩,
    ⟨some 13, .move (.tmp 1), 3, "", #[], none⟩,
    ⟨some 14, .call { callee := .value (.tmp 11), args := #[.tmp 12, .tmp 13], argTypes := #[33, 3] }, 34, "", #[], none⟩,
    ⟨some 7, .assign (.tmp 14), 34, "", #[], none⟩] false)
  (.seq (.region 2 #[⟨some 15, .move (.tmp 7), 34, "", #[], none⟩,
    ⟨some 16, .binOp .neq 34 (.tmp 15) (.const (.int .i64 0)) 34, 4, "", #[], none⟩] false)
  (.cond (.tmp 16)
    (.seq (.region 3 #[⟨some 17, .move (.tmp 7), 34, "", #[], none⟩,
      ⟨some 6, .assign (.tmp 17), 34, "", #[], none⟩] false)
    .ret)
    .skip)))
  (.seq (.seq (.region 4 #[⟨some 18, .fieldAddr 33 (.tmp 4) 2, 0, "", #[], none⟩,
    ⟨some 19, .load 31 (.tmp 18), 31, "", #[], none⟩,
    ⟨some 20, .call { callee := .builtin .len, args := #[.tmp 19], argTypes := #[31] }, 3, "", #[], none⟩,
    ⟨some 21, .move (.const (.int .i64 0)), 3, "", #[], none⟩] false)
  (.block 0 (.loop (.seq (.region 5 #[⟨some 22, .binOp .lss 3 (.tmp 21) (.tmp 20) 3, 0, "", #[], none⟩] false)
  (.seq (.cond (.tmp 22)
    .skip
    (.exit 0))
  (.seq (.block 1 (.seq (.region 6 #[⟨some 23, .indexAddr 31 (.tmp 19) (.tmp 21), 0, "", #[], none⟩,
    ⟨some 24, .load 33 (.tmp 23), 33, "", #[], none⟩,
    ⟨some 9, .alloc 33, 0, "", #[], none⟩,
    ⟨none, .store 33 (.tmp 9) (.tmp 24), 0, "", #[], none⟩] false)
  (.seq (.region 7 #[⟨some 25, .load 113 (.tmp 3), 113, "", #[], none⟩,
    ⟨some 26, .load 33 (.tmp 9), 33, "", #[], none⟩,
    ⟨some 27, .move (.tmp 1), 3, "", #[], none⟩,
    ⟨some 28, .binOp .add 3 (.tmp 27) (.const (.int .i64 1)) 3, 3, "", #[], none⟩,
    ⟨some 29, .call { callee := .value (.tmp 25), args := #[.tmp 26, .tmp 28], argTypes := #[33, 3] }, 34, "", #[], none⟩,
    ⟨some 10, .assign (.tmp 29), 34, "", #[], none⟩] false)
  (.seq (.region 8 #[⟨some 30, .move (.tmp 10), 34, "", #[], none⟩,
    ⟨some 31, .binOp .neq 34 (.tmp 30) (.const (.int .i64 0)) 34, 4, "", #[], none⟩] false)
  (.cond (.tmp 31)
    (.seq (.region 9 #[⟨some 32, .move (.tmp 10), 34, "", #[], none⟩,
      ⟨some 6, .assign (.tmp 32), 34, "", #[], none⟩] false)
    .ret)
    .skip)))))
  (.region 10 #[⟨some 33, .binOp .add 3 (.tmp 21) (.const (.int .i64 1)) 3, 3, "", #[], none⟩,
    ⟨some 21, .move (.tmp 33), 3, "", #[], none⟩] false)))))))
  (.seq (.region 11 #[⟨some 6, .assign (.const (.int .i64 0)), 34, "", #[], none⟩] false)
  .ret))))
def fn78 : AFn := { ntmps := 34, results := [.tmp 6], body := c78, keep := fun | 0 => some [1, 2, 3, 4] | 1 => some [1, 3, 4, 7] | 2 => some [1, 3, 4, 7, 16] | 3 => some [6] | 4 => some [1, 3, 19, 20, 21] | 5 => some [1, 3, 19, 20, 21, 22] | 6 => some [1, 3, 9, 19, 20, 21] | 7 => some [1, 3, 10, 19, 20, 21] | 8 => some [1, 3, 10, 19, 20, 21, 31] | 9 => some [6] | 10 => some [1, 3, 19, 20, 21] | 11 => some [6] | _ => none, head := fun | 5 => some [1, 3, 19, 20, 21] | _ => none, opn := opnT, dyn := fun _ => [] }
/-- vidimus/fields.step -/
def c79 : Code :=
  (.seq (.region 0 #[⟨some 2, .box 33 (.tmp 0), 0, "", #[], none⟩,
    ⟨some 4, .alloc 33, 0, "", #[], none⟩,
    ⟨some 5, .assign (.const (.bool false)), 4, "", #[], none⟩] false)
  (.seq (.seq (.region 1 #[⟨some 6, .move (.tmp 1), 3, "", #[], none⟩,
    ⟨some 7, .binOp .lss 3 (.tmp 6) (.const (.int .i64 0)) 3, 4, "", #[], none⟩,
    ⟨some 8, .move (.tmp 7), 4, "", #[], none⟩,
    ⟨some 9, .move (.tmp 1), 3, "", #[], some (8, false)⟩,
    ⟨some 10, .fieldAddr 33 (.tmp 2) 2, 0, "", #[], some (8, false)⟩,
    ⟨some 11, .load 31 (.tmp 10), 31, "", #[], some (8, false)⟩,
    ⟨some 12, .call { callee := .builtin .len, args := #[.tmp 11], argTypes := #[31] }, 3, "", #[], some (8, false)⟩,
    ⟨some 13, .binOp .geq 3 (.tmp 9) (.tmp 12) 3, 4, "", #[], some (8, false)⟩,
    ⟨some 14, .pick (.tmp 8) (.const (.bool true)) (.tmp 13), 4, "", #[], none⟩] false)
  (.cond (.tmp 14)
    (.seq (.region 2 #[⟨some 15, .build 33 #[], 33, "", #[], none⟩,
      ⟨none, .store 33 (.tmp 4) (.tmp 15), 0, "", #[], none⟩,
      ⟨some 5, .assign (.const (.bool false)), 4, "", #[], none⟩] false)
    .ret)
    .skip))
  (.seq (.region 3 #[⟨some 16, .fieldAddr 33 (.tmp 2) 2, 0, "", #[], none⟩,
    ⟨some 17, .load 31 (.tmp 16), 31, "", #[], none⟩,
    ⟨some 18, .move (.tmp 1), 3, "", #[], none⟩,
    ⟨some 19, .indexAddr 31 (.tmp 17) (.tmp 18), 0, "", #[], none⟩,
    ⟨some 20, .load 33 (.tmp 19), 33, "", #[], none⟩,
    ⟨none, .store 33 (.tmp 4) (.tmp 20), 0, "", #[], none⟩,
    ⟨some 5, .assign (.const (.bool true)), 4, "", #[], none⟩] false)
  .ret)))
def fn79 : AFn := { ntmps := 21, results := [.cell 4 33, .tmp 5], body := c79, keep := fun | 0 => some [1, 2, 4] | 1 => some [1, 2, 4, 14] | 2 => some [4, 5] | 3 => some [4, 5] | _ => none, head := fun  | _ => none, opn := fun _ => none, dyn := fun _ => [] }
/-- vidimus/fields.size -/
def c80 : Code :=
  (.seq (.region 0 #[⟨some 2, .assign (.const (.int .i64 0)), 3, "", #[], none⟩] false)
  (.seq (.seq (.region 1 #[⟨some 7, .move (.tmp 0), 31, "", #[], none⟩,
    ⟨some 8, .call { callee := .builtin .len, args := #[.tmp 7], argTypes := #[31] }, 3, "", #[], none⟩,
    ⟨some 9, .move (.const (.int .i64 0)), 3, "", #[], none⟩] false)
  (.block 0 (.loop (.seq (.region 2 #[⟨some 10, .binOp .lss 3 (.tmp 9) (.tmp 8) 3, 0, "", #[], none⟩] false)
  (.seq (.cond (.tmp 10)
    .skip
    (.exit 0))
  (.seq (.block 1 (.seq (.region 3 #[⟨some 11, .indexAddr 31 (.tmp 7) (.tmp 9), 0, "", #[], none⟩,
    ⟨some 12, .load 33 (.tmp 11), 33, "", #[], none⟩,
    ⟨some 4, .alloc 33, 0, "", #[], none⟩,
    ⟨none, .store 33 (.tmp 4) (.tmp 12), 0, "", #[], none⟩] false)
  (.seq (.region 4 #[⟨some 14, .load 33 (.tmp 4), 33, "", #[], none⟩,
    ⟨some 15, .call { callee := .value (.func 35), args := #[.tmp 14], argTypes := #[33] }, 37, "", #[], none⟩,
    ⟨some 13, .move (.tmp 15), 37, "", #[], none⟩,
    ⟨some 16, .extract (.tmp 13) 0, 30, "", #[], none⟩,
    ⟨some 17, .extract (.tmp 13) 1, 34, "", #[], none⟩,
    ⟨some 5, .assign (.tmp 16), 30, "", #[], none⟩,
    ⟨some 6, .assign (.tmp 17), 34, "", #[], none⟩] false)
  (.region 5 #[⟨some 18, .move (.tmp 2), 3, "", #[], none⟩,
    ⟨some 19, .move (.tmp 5), 30, "", #[], none⟩,
    ⟨some 20, .call { callee := .builtin .len, args := #[.tmp 19], argTypes := #[30] }, 3, "", #[], none⟩,
    ⟨some 21, .binOp .add 3 (.tmp 18) (.tmp 20) 3, 3, "", #[], none⟩,
    ⟨some 2, .assign (.tmp 21), 3, "", #[], none⟩] false))))
  (.region 6 #[⟨some 22, .binOp .add 3 (.tmp 9) (.const (.int .i64 1)) 3, 3, "", #[], none⟩,
    ⟨some 9, .move (.tmp 22), 3, "", #[], none⟩] false)))))))
  (.seq (.region 7 #[⟨some 23, .move (.tmp 2), 3, "", #[], none⟩,
    ⟨some 2, .assign (.tmp 23), 3, "", #[], none⟩] false)
  .ret)))
def fn80 : AFn := { ntmps := 24, results := [.tmp 2], body := c80, keep := fun | 0 => some [0, 2] | 1 => some [2, 7, 8, 9] | 2 => some [2, 7, 8, 9, 10] | 3 => some [2, 4, 7, 8, 9] | 4 => some [2, 5, 7, 8, 9] | 5 => some [2, 7, 8, 9] | 6 => some [2, 7, 8, 9] | 7 => some [2] | _ => none, head := fun | 2 => some [2, 7, 8, 9] | _ => none, opn := fun _ => none, dyn := fun _ => [] }
/-- vidimus/tags.number -/
def c81 : Code :=
  (.seq (.region 0 #[⟨some 2, .assign (.const (.int .u32 0)), 22, "", #[], none⟩,
    ⟨some 3, .assign (.const (.int .i64 0)), 3, "", #[], none⟩,
    ⟨some 4, .assign (.const (.int .i64 0)), 34, "", #[], none⟩] false)
  (.seq (.seq (.region 1 #[⟨some 3, .assign (.const (.int .i64 1)), 3, "", #[], none⟩] false)
  (.block 0 (.loop (.seq (.block 1 (.seq (.seq (.region 3 #[⟨some 8, .move (.tmp 3), 3, "", #[], none⟩,
    ⟨some 9, .move (.tmp 0), 30, "", #[], none⟩,
    ⟨some 10, .call { callee := .builtin .len, args := #[.tmp 9], argTypes := #[30] }, 3, "", #[], none⟩,
    ⟨some 11, .binOp .eql 3 (.tmp 8) (.tmp 10) 3, 4, "", #[], none⟩] false)
  (.cond (.tmp 11)
    (.seq (.region 4 #[⟨some 2, .assign (.const (.int .u32 0)), 22, "", #[], none⟩,
      ⟨some 3, .assign (.const (.int .i64 0)), 3, "", #[], none⟩,
      ⟨some 4, .assign (.const (.int .i64 7)), 34, "", #[], none⟩] false)
    .ret)
    .skip))
  (.seq (.region 5 #[⟨some 12, .move (.tmp 0), 30, "", #[], none⟩,
    ⟨some 13, .move (.tmp 3), 3, "", #[], none⟩,
    ⟨some 14, .indexAddr 30 (.tmp 12) (.tmp 13), 0, "", #[], none⟩,
    ⟨some 15, .load 5 (.tmp 14), 5, "", #[], none⟩,
    ⟨some 5, .assign (.tmp 15), 5, "", #[], none⟩] false)
  (.seq (.seq (.region 6 #[⟨some 16, .move (.tmp 3), 3, "", #[], none⟩,
    ⟨some 17, .binOp .eql 3 (.tmp 16) (.const (.int .i64 1)) 3, 4, "", #[], none⟩,
    ⟨some 18, .move (.tmp 17), 4, "", #[], none⟩,
    ⟨some 19, .move (.tmp 5), 5, "", #[], some (18, true)⟩,
    ⟨some 20, .binOp .eql 5 (.tmp 19) (.const (.int .u8 128)) 5, 4, "", #[], some (18, true)⟩,
    ⟨some 21, .pick (.tmp 18) (.tmp 20) (.const (.bool false)), 4, "", #[], none⟩,
    ⟨some 22, .move (.tmp 21), 4, "", #[], none⟩,
    ⟨some 23, .move (.tmp 3), 3, "", #[], some (22, false)⟩,
    ⟨some 24, .binOp .eql 3 (.tmp 23) (.const (.int .i64 4)) 3, 4, "", #[], some (22, false)⟩,
    ⟨some 25, .move (.tmp 24), 4, "", #[], some (22, false)⟩,
    ⟨some 26, .move (.tmp 5), 5, "", #[], some (25, true)⟩,
    ⟨some 27, .binOp .geq 5 (.tmp 26) (.const (.int .u8 128)) 5, 4, "", #[], some (25, true)⟩,
    ⟨some 28, .pick (.tmp 25) (.tmp 27) (.const (.bool false)), 4, "", #[], some (22, false)⟩,
    ⟨some 29, .pick (.tmp 22) (.const (.bool true)) (.tmp 28), 4, "", #[], none⟩] false)
  (.cond (.tmp 29)
    (.seq (.region 7 #[⟨some 2, .assign (.const (.int .u32 0)), 22, "", #[], none⟩,
      ⟨some 3, .assign (.const (.int .i64 0)), 3, "", #[], none⟩,
      ⟨some 4, .assign (.const (.int .i64 9)), 34, "", #[], none⟩] false)
    .ret)
    .skip))
  (.seq (.region 8 #[⟨some 30, .move (.tmp 2), 22, "", #[], none⟩,
    ⟨some 31, .binOp .shl 22 (.tmp 30) (.const (.int .u64 7)) 108, 22, "", #[], none⟩,
    ⟨some 32, .move (.tmp 5), 5, "", #[], none⟩,
    ⟨some 33, .binOp .and 5 (.tmp 32) (.const (.int .u8 127)) 5, 5, "", #[], none⟩,
    ⟨some 34, .convert 5 22 (.tmp 33), 22, "", #[], none⟩,
    ⟨some 35, .binOp .or 22 (.tmp 31) (.tmp 34) 22, 22, "", #[], none⟩,
    ⟨some 2, .assign (.tmp 35), 22, "", #[], none⟩] false)
  (.seq (.region 9 #[⟨some 36, .move (.tmp 5), 5, "", #[], none⟩,
    ⟨some 37, .binOp .lss 5 (.tmp 36) (.const (.int .u8 128)) 5, 4, "", #[], none⟩] false)
  (.cond (.tmp 37)
    (.exit 0)
    .skip)))))))
  (.region 2 #[⟨some 6, .move (.tmp 3), 3, "", #[], none⟩,
    ⟨some 7, .binOp .add 3 (.tmp 6) (.const (.int .i64 1)) 3, 3, "", #[], none⟩,
    ⟨some 3, .assign (.tmp 7), 3, "", #[], none⟩] false)))))
  (.seq (.seq (.region 10 #[⟨some 38, .move (.tmp 2), 22, "", #[], none⟩,
    ⟨some 39, .binOp .lss 22 (.tmp 38) (.const (.int .u32 31)) 22, 4, "", #[], none⟩] false)
  (.cond (.tmp 39)
    (.seq (.region 11 #[⟨some 2, .assign (.const (.int .u32 0)), 22, "", #[], none⟩,
      ⟨some 3, .assign (.const (.int .i64 0)), 3, "", #[], none⟩,
      ⟨some 4, .assign (.const (.int .i64 9)), 34, "", #[], none⟩] false)
    .ret)
    .skip))
  (.seq (.region 12 #[⟨some 40, .move (.tmp 2), 22, "", #[], none⟩,
    ⟨some 41, .move (.tmp 3), 3, "", #[], none⟩,
    ⟨some 42, .binOp .add 3 (.tmp 41) (.const (.int .i64 1)) 3, 3, "", #[], none⟩,
    ⟨some 2, .assign (.tmp 40), 22, "", #[], none⟩,
    ⟨some 3, .assign (.tmp 42), 3, "", #[], none⟩,
    ⟨some 4, .assign (.const (.int .i64 0)), 34, "", #[], none⟩] false)
  .ret))))
def fn81 : AFn := { ntmps := 43, results := [.tmp 2, .tmp 3, .tmp 4], body := c81, keep := fun | 0 => some [0, 2] | 1 => some [0, 2, 3] | 2 => some [0, 2, 3] | 3 => some [0, 2, 3, 11] | 4 => some [2, 3, 4] | 5 => some [0, 2, 3, 5] | 6 => some [0, 2, 3, 5, 29] | 7 => some [2, 3, 4] | 8 => some [0, 2, 3, 5] | 9 => some [0, 2, 3, 37] | 10 => some [2, 3, 39] | 11 => some [2, 3, 4] | 12 => some [2, 3, 4] | _ => none, head := fun | 3 => some [0, 2, 3] | _ => none, opn := fun _ => none, dyn := fun _ => [] }
/-- vidimus/tags.groups$1 -/
def c82 : Code :=
  (.seq (.region 0 #[⟨some 3, .assign (.const (.int .i64 0)), 3, "", #[], none⟩] false)
  (.seq (.block 0 (.loop (.seq (.seq (.region 1 #[⟨some 5, .load 22 (.tmp 1), 22, "", #[], none⟩,
    ⟨some 6, .move (.tmp 3), 3, "", #[], none⟩,
    ⟨some 7, .binOp .add 3 (.tmp 6) (.const (.int .i64 7)) 3, 3, "", #[], none⟩,
    ⟨some 8, .binOp .shr 22 (.tmp 5) (.tmp 7) 3, 22, "", #[], none⟩,
    ⟨some 9, .binOp .gtr 22 (.tmp 8) (.const (.int .u32 0)) 22, 4, "", #[], none⟩] false)
  (.cond (.tmp 9)
    .skip
    (.exit 0)))
  (.block 1 (.region 2 #[⟨some 10, .move (.tmp 3), 3, "", #[], none⟩,
    ⟨some 11, .binOp .add 3 (.tmp 10) (.const (.int .i64 7)) 3, 3, "", #[], none⟩,
    ⟨some 3, .assign (.tmp 11), 3, "", #[], none⟩] false)))))
  (.block 2 (.loop (.seq (.seq (.region 3 #[⟨some 12, .move (.tmp 3), 3, "", #[], none⟩,
    ⟨some 13, .binOp .geq 3 (.tmp 12) (.const (.int .i64 0)) 3, 4, "", #[], none⟩] false)
  (.cond (.tmp 13)
    .skip
    (.exit 2)))
  (.seq (.block 3 (.seq (.region 5 #[⟨some 16, .load 22 (.tmp 1), 22, "", #[], none⟩,
    ⟨some 17, .move (.tmp 3), 3, "", #[], none⟩,
    ⟨some 18, .binOp .shr 22 (.tmp 16) (.tmp 17) 3, 22, "", #[], none⟩,
    ⟨some 19, .convert 22 5 (.tmp 18), 5, "", #[], none⟩,
    ⟨some 20, .binOp .and 5 (.tmp 19) (.const (.int .u8 127)) 5, 5, "", #[], none⟩,
    ⟨some 4, .assign (.tmp 20), 5, "", #[], none⟩] false)
  (.seq (.seq (.region 6 #[⟨some 21, .move (.tmp 3), 3, "", #[], none⟩,
    ⟨some 22, .binOp .gtr 3 (.tmp 21) (.const (.int .i64 0)) 3, 4, "", #[], none⟩] false)
  (.cond (.tmp 22)
    (.region 7 #[⟨some 23, .move (.tmp 4), 5, "", #[], none⟩,
      ⟨some 24, .binOp .or 5 (.tmp 23) (.const (.int .u8 128)) 5, 5, "", #[], none⟩,
      ⟨some 4, .assign (.tmp 24), 5, "", #[], none⟩] false)
    .skip))
  (.seq (.region 8 #[⟨some 25, .move (.tmp 0), 130, "", #[], none⟩,
    ⟨some 26, .move (.tmp 4), 5, "", #[], none⟩,
    ⟨some 27, .call { callee := .value (.tmp 25), args := #[.tmp 26], argTypes := #[5] }, 4, "", #[], none⟩,
    ⟨some 28, .unOp .not 4 (.tmp 27), 4, "", #[], none⟩] false)
  (.cond (.tmp 28)
    .ret
    .skip)))))
  (.region 4 #[⟨some 14, .move (.tmp 3), 3, "", #[], none⟩,
    ⟨some 15, .binOp .sub 3 (.tmp 14) (.const (.int .i64 7)) 3, 3, "", #[], none⟩,
    ⟨some 3, .assign (.tmp 15), 3, "", #[], none⟩] false)))))))
def fn82 : AFn := { ntmps := 29, results := [], body := c82, keep := fun | 0 => some [0, 1, 3] | 1 => some [0, 1, 3, 9] | 2 => some [0, 1, 3] | 3 => some [0, 1, 3, 13] | 4 => some [0, 1, 3] | 5 => some [0, 1, 3, 4] | 6 => some [0, 1, 3, 4, 22] | 7 => some [0, 1, 3, 4] | 8 => some [0, 1, 3, 28] | _ => none, head := fun | 1 => some [0, 1, 3] | 3 => some [0, 1, 3] | _ => none, opn := opnT, dyn := fun _ => [] }
def fnTab : List (Option AFn) := [none, none, none, some fn3, some fn4, some fn5, some fn6, some fn7, some fn8, some fn9, some fn10, some fn11, some fn12, some fn13, some fn14, some fn15, some fn16, some fn17, some fn18, some fn19, some fn20, some fn21, some fn22, some fn23, some fn24, some fn25, some fn26, some fn27, some fn28, some fn29, some fn30, some fn31, some fn32, some fn33, some fn34, some fn35, some fn36, some fn37, some fn38, some fn39, some fn40, some fn41, some fn42, some fn43, some fn44, some fn45, some fn46, some fn47, some fn48, some fn49, some fn50, some fn51, some fn52, some fn53, some fn54, some fn55, some fn56, some fn57, some fn58, some fn59, some fn60, some fn61, some fn62, some fn63, some fn64, some fn65, some fn66, some fn67, some fn68, some fn69, some fn70, some fn71, some fn72, some fn73, some fn74, some fn75, some fn76, some fn77, some fn78, some fn79, some fn80, some fn81, some fn82]
def grdT : FuncId → Option Grd
  | 48 => some grd48
  | _ => none

def tyTab : List (Option TyI) := [
  none,
  some ⟨.func, 1, 8, [.nilf], false⟩,
  some ⟨.int .i64, 1, 8, [.int .i64 0], false⟩,
  some ⟨.int .i64, 1, 8, [.int .i64 0], false⟩,
  some ⟨.bool, 1, 1, [.bool false], false⟩,
  some ⟨.int .u8, 1, 1, [.int .u8 0], false⟩,
  some ⟨.int .u8, 1, 1, [.int .u8 0], false⟩,
  some ⟨.strct [(0, 2), (1, 3), (2, 4), (3, 6)], 4, 24, [.int .i64 0, .int .i64 0, .bool false, .int .u8 0], false⟩,
  some ⟨.strct [(0, 2), (1, 3), (2, 4), (3, 6)], 4, 24, [.int .i64 0, .int .i64 0, .bool false, .int .u8 0], false⟩,
  some ⟨.str, 1, 16, [.str []], false⟩,
  some ⟨.str, 1, 16, [.str []], false⟩,
  some ⟨.str, 1, 16, [.str []], false⟩,
  some ⟨.int .u64, 1, 8, [.int .u64 0], false⟩,
  some ⟨.strct [(0, 9), (1, 12)], 2, 24, [.str [], .int .u64 0], false⟩,
  some ⟨.strct [(0, 9), (1, 12)], 2, 24, [.str [], .int .u64 0], false⟩,
  some ⟨.ptr 133, 1, 8, [.nilp], false⟩,
  some ⟨.ptr 136, 1, 8, [.nilp], false⟩,
  some ⟨.ptr 145, 1, 8, [.nilp], false⟩,
  some ⟨.strct [(0, 17)], 1, 8, [.nilp], false⟩,
  some ⟨.strct [(0, 17)], 1, 8, [.nilp], false⟩,
  some ⟨.iface true, 1, 16, [.nili], false⟩,
  some ⟨.int .i32, 1, 4, [.int .i32 0], false⟩,
  some ⟨.int .u32, 1, 4, [.int .u32 0], false⟩,
  some ⟨.func, 1, 8, [.nilf], false⟩,
  some ⟨.strct [(0, 3), (1, 3)], 2, 16, [.int .i64 0, .int .i64 0], false⟩,
  some ⟨.strct [(0, 3), (1, 3)], 2, 16, [.int .i64 0, .int .i64 0], true⟩,
  some ⟨.func, 1, 8, [.nilf], false⟩,
  some ⟨.int .u8, 1, 1, [.int .u8 0], false⟩,
  some ⟨.strct [(0, 27), (1, 4), (2, 22)], 3, 8, [.int .u8 0, .bool false, .int .u32 0], false⟩,
  some ⟨.strct [(0, 27), (1, 4), (2, 22)], 3, 8, [.int .u8 0, .bool false, .int .u32 0], true⟩,
  some ⟨.slice 5, 1, 24, [.sl true [] (some 0)], false⟩,
  some ⟨.slice 33, 1, 24, [.sl true [] (some 0)], false⟩,
  some ⟨.strct [(0, 29), (3, 30), (4, 31)], 5, 56, [.int .u8 0, .bool false, .int .u32 0, .sl true [] (some 0), .sl true [] (some 0)], false⟩,
  some ⟨.strct [(0, 29), (3, 30), (4, 31)], 5, 56, [.int .u8 0, .bool false, .int .u32 0, .sl true [] (some 0), .sl true [] (some 0)], false⟩,
  some ⟨.int .i64, 1, 8, [.int .i64 0], false⟩,
  none,
  some ⟨.func, 1, 8, [.nilf], false⟩,
  none,
  some ⟨.func, 1, 8, [.nilf], false⟩,
  some ⟨.func, 1, 8, [.nilf], false⟩,
  some ⟨.func, 1, 8, [.nilf], false⟩,
  some ⟨.func, 1, 8, [.nilf], false⟩,
  some ⟨.func, 1, 8, [.nilf], false⟩,
  some ⟨.slice 3, 1, 24, [.sl true [] (some 0)], false⟩,
  some ⟨.strct [(0, 43), (1, 34)], 2, 32, [.sl true [] (some 0), .int .i64 0], false⟩,
  some ⟨.strct [(0, 43), (1, 34)], 2, 32, [.sl true [] (some 0), .int .i64 0], false⟩,
  none,
  some ⟨.func, 1, 8, [.nilf], false⟩,
  none,
  some ⟨.func, 1, 8, [.nilf], false⟩,
  some ⟨.func, 1, 8, [.nilf], false⟩,
  some ⟨.func, 1, 8, [.nilf], false⟩,
  none,
  some ⟨.func, 1, 8, [.nilf], false⟩,
  some ⟨.func, 1, 8, [.nilf], false⟩,
  some ⟨.func, 1, 8, [.nilf], false⟩,
  some ⟨.func, 1, 8, [.nilf], false⟩,
  some ⟨.ptr 3, 1, 8, [.nilp], false⟩,
  some ⟨.func, 1, 8, [.nilf], false⟩,
  none,
  some ⟨.func, 1, 8, [.nilf], false⟩,
  some ⟨.func, 1, 8, [.nilf], false⟩,
  none,
  some ⟨.func, 1, 8, [.nilf], false⟩,
  some ⟨.func, 1, 8, [.nilf], false⟩,
  some ⟨.func, 1, 8, [.nilf], false⟩,
  some ⟨.func, 1, 8, [.nilf], false⟩,
  some ⟨.func, 1, 8, [.nilf], false⟩,
  some ⟨.func, 1, 8, [.nilf], false⟩,
  some ⟨.arr 2 3, 2, 16, [.int .i64 0, .int .i64 0], false⟩,
  some ⟨.func, 1, 8, [.nilf], false⟩,
  some ⟨.func, 1, 8, [.nilf], false⟩,
  some ⟨.func, 1, 8, [.nilf], false⟩,
  some ⟨.func, 1, 8, [.nilf], false⟩,
  some ⟨.func, 1, 8, [.nilf], false⟩,
  some ⟨.func, 1, 8, [.nilf], false⟩,
  some ⟨.func, 1, 8, [.nilf], false⟩,
  none,
  some ⟨.func, 1, 8, [.nilf], false⟩,
  some ⟨.strct [(0, 29), (3, 4), (4, 4)], 5, 12, [.int .u8 0, .bool false, .int .u32 0, .bool false, .bool false], false⟩,
  some ⟨.strct [(0, 29), (3, 4), (4, 4)], 5, 12, [.int .u8 0, .bool false, .int .u32 0, .bool false, .bool false], false⟩,
  some ⟨.slice 80, 1, 24, [.sl true [] (some 0)], false⟩,
  some ⟨.arr 2 57, 2, 16, [.nilp, .nilp], false⟩,
  some ⟨.func, 1, 8, [.nilf], false⟩,
  some ⟨.func, 1, 8, [.nilf], false⟩,
  some ⟨.func, 1, 8, [.nilf], false⟩,
  some ⟨.func, 1, 8, [.nilf], false⟩,
  some ⟨.func, 1, 8, [.nilf], false⟩,
  none,
  some ⟨.func, 1, 8, [.nilf], false⟩,
  some ⟨.arr 8 5, 8, 8, [.int .u8 0, .int .u8 0, .int .u8 0, .int .u8 0, .int .u8 0, .int .u8 0, .int .u8 0, .int .u8 0], false⟩,
  some ⟨.arr 8 5, 8, 8, [.int .u8 0, .int .u8 0, .int .u8 0, .int .u8 0, .int .u8 0, .int .u8 0, .int .u8 0, .int .u8 0], false⟩,
  some ⟨.func, 1, 8, [.nilf], false⟩,
  some ⟨.func, 1, 8, [.nilf], false⟩,
  some ⟨.func, 1, 8, [.nilf], false⟩,
  none,
  some ⟨.func, 1, 8, [.nilf], false⟩,
  some ⟨.func, 1, 8, [.nilf], false⟩,
  some ⟨.func, 1, 8, [.nilf], false⟩,
  none,
  some ⟨.strct [(0, 3), (1, 34)], 2, 16, [.int .i64 0, .int .i64 0], false⟩,
  some ⟨.strct [(0, 3), (1, 34)], 2, 16, [.int .i64 0, .int .i64 0], false⟩,
  none,
  some ⟨.strct [(0, 30), (1, 3)], 2, 32, [.sl true [] (some 0), .int .i64 0], false⟩,
  some ⟨.strct [(0, 30), (1, 3)], 2, 32, [.sl true [] (some 0), .int .i64 0], false⟩,
  none,
  some ⟨.func, 1, 8, [.nilf], false⟩,
  some ⟨.int .i8, 1, 1, [.int .i8 0], false⟩,
  some ⟨.int .u64, 1, 8, [.int .u64 0], false⟩,
  some ⟨.func, 1, 8, [.nilf], false⟩,
  some ⟨.func, 1, 8, [.nilf], false⟩,
  some ⟨.func, 1, 8, [.nilf], false⟩,
  some ⟨.func, 1, 8, [.nilf], false⟩,
  some ⟨.func, 1, 8, [.nilf], false⟩,
  some ⟨.func, 1, 8, [.nilf], false⟩,
  some ⟨.func, 1, 8, [.nilf], false⟩,
  some ⟨.ptr 104, 1, 8, [.nilp], false⟩,
  none,
  some ⟨.func, 1, 8, [.nilf], false⟩,
  some ⟨.func, 1, 8, [.nilf], false⟩,
  some ⟨.func, 1, 8, [.nilf], false⟩,
  some ⟨.func, 1, 8, [.nilf], false⟩,
  some ⟨.func, 1, 8, [.nilf], false⟩,
  none,
  some ⟨.func, 1, 8, [.nilf], false⟩,
  some ⟨.func, 1, 8, [.nilf], false⟩,
  none,
  some ⟨.func, 1, 8, [.nilf], false⟩,
  some ⟨.arr 3 5, 3, 3, [.int .u8 0, .int .u8 0, .int .u8 0], false⟩,
  some ⟨.arr 3 5, 3, 3, [.int .u8 0, .int .u8 0, .int .u8 0], false⟩,
  some ⟨.func, 1, 8, [.nilf], false⟩,
  some ⟨.func, 1, 8, [.nilf], false⟩,
  some ⟨.strct [(0, 17), (1, 17), (2, 17), (3, 9)], 4, 40, [.nilp, .nilp, .nilp, .str []], false⟩,
  some ⟨.strct [(0, 17), (1, 17), (2, 17), (3, 9)], 4, 40, [.nilp, .nilp, .nilp, .str []], false⟩,
  some ⟨.arr 0 16, 0, 0, [], false⟩,
  some ⟨.strct [(0, 134)], 0, 0, [], false⟩,
  some ⟨.strct [(0, 134)], 0, 0, [], false⟩,
  some ⟨.func, 1, 8, [.nilf], false⟩,
  some ⟨.int .u8, 1, 1, [.int .u8 0], false⟩,
  some ⟨.int .u8, 1, 1, [.int .u8 0], false⟩,
  some ⟨.func, 1, 8, [.nilf], false⟩,
  some ⟨.ptr 5, 1, 8, [.nilp], false⟩,
  some ⟨.int .i32, 1, 4, [.int .i32 0], false⟩,
  some ⟨.int .i32, 1, 4, [.int .i32 0], false⟩,
  some ⟨.strct [(0, 12), (1, 12), (2, 22), (3, 138), (4, 5), (5, 5), (6, 139), (7, 140), (8, 141), (9, 142), (10, 143)], 11, 48, [.int .u64 0, .int .u64 0, .int .u32 0, .int .u8 0, .int .u8 0, .int .u8 0, .int .u8 0, .nilf, .nilp, .int .i32 0, .int .i32 0], false⟩,
  some ⟨.strct [(0, 12), (1, 12), (2, 22), (3, 138), (4, 5), (5, 5), (6, 139), (7, 140), (8, 141), (9, 142), (10, 143)], 11, 48, [.int .u64 0, .int .u64 0, .int .u32 0, .int .u8 0, .int .u8 0, .int .u8 0, .int .u8 0, .nilf, .nilp, .int .i32 0, .int .i32 0], false⟩,
  none]
def E : Env := { fn := getT fnTab, ty := getT tyTab, prim := fun _ => none, grd := grdT, ext := fun i => false, glob := fun | 0 => some [.int .u8 0, .bool true, .int .u32 16] | 1 => some [.int .u8 0, .bool false, .int .u32 2] | _ => none }
@[simp] theorem E_ext (i) : E.ext i = false := id rfl
@[simp] theorem E_prim (i) : E.prim i = none := rfl
@[simp] theorem E_glob0 : E.glob 0 = some [.int .u8 0, .bool true, .int .u32 16] := rfl
@[simp] theorem E_glob1 : E.glob 1 = some [.int .u8 0, .bool false, .int .u32 2] := rfl
@[simp] theorem ntmps_3 : fn3.ntmps = 181 := rfl
@[simp] theorem results_3 : fn3.results = [.tmp 4] := rfl
theorem body_3 : fn3.body = c3 := rfl
@[simp] theorem dyn_3 : fn3.dyn = fun _ => [] := id rfl
@[simp] theorem opn_3 : fn3.opn = fun _ => none := id rfl
@[simp] theorem keep_3_0 : fn3.keep 0 = some [0, 1] := rfl
@[simp] theorem keep_3_1 : fn3.keep 1 = some [5] := rfl
@[simp] theorem keep_3_2 : fn3.keep 2 = some [5, 39] := rfl
@[simp] theorem keep_3_3 : fn3.keep 3 = some [4] := rfl
@[simp] theorem keep_3_4 : fn3.keep 4 = some [5, 6, 7] := rfl
@[simp] theorem keep_3_5 : fn3.keep 5 = some [5, 6, 7, 8, 9] := rfl
@[simp] theorem keep_3_6 : fn3.keep 6 = some [5, 6, 7, 8, 9, 10] := rfl
@[simp] theorem keep_3_7 : fn3.keep 7 = some [5, 6, 8, 93] := rfl
@[simp] theorem keep_3_8 : fn3.keep 8 = some [4] := rfl
@[simp] theorem keep_3_9 : fn3.keep 9 = some [5, 8, 11, 12] := rfl
@[simp] theorem keep_3_10 : fn3.keep 10 = some [5, 7, 11, 12, 13, 14] := rfl
@[simp] theorem keep_3_11 : fn3.keep 11 = some [5, 126] := rfl
@[simp] theorem keep_3_12 : fn3.keep 12 = some [4] := rfl
@[simp] theorem keep_3_13 : fn3.keep 13 = some [5, 129] := rfl
@[simp] theorem keep_3_14 : fn3.keep 14 = some [4] := rfl
@[simp] theorem keep_3_15 : fn3.keep 15 = some [5, 7, 15] := rfl
@[simp] theorem keep_3_16 : fn3.keep 16 = some [5, 7, 9, 14, 15, 16] := rfl
@[simp] theorem keep_3_17 : fn3.keep 17 = some [4] := rfl
@[simp] theorem ntmps_4 : fn4.ntmps = 58 := rfl
@[simp] theorem results_4 : fn4.results = [.tmp 2] := rfl
theorem body_4 : fn4.body = c4 := rfl
@[simp] theorem dyn_4 : fn4.dyn = fun _ => [] := id rfl
@[simp] theorem opn_4 : fn4.opn = opnT := id rfl
@[simp] theorem keep_4_0 : fn4.keep 0 = some [1] := rfl
@[simp] theorem keep_4_1 : fn4.keep 1 = some [1, 3] := rfl
@[simp] theorem keep_4_2 : fn4.keep 2 = some [1, 12] := rfl
@[simp] theorem keep_4_3 : fn4.keep 3 = some [2] := rfl
@[simp] theorem keep_4_4 : fn4.keep 4 = some [1, 4, 5] := rfl
@[simp] theorem keep_4_5 : fn4.keep 5 = some [1, 4, 5, 6, 7] := rfl
@[simp] theorem keep_4_6 : fn4.keep 6 = some [1, 4, 5, 32] := rfl
@[simp] theorem keep_4_7 : fn4.keep 7 = some [2] := rfl
@[simp] theorem keep_4_8 : fn4.keep 8 = some [1, 4, 35] := rfl
@[simp] theorem keep_4_9 : fn4.keep 9 = some [2] := rfl
@[simp] theorem keep_4_10 : fn4.keep 10 = some [1, 4, 8, 9] := rfl
@[simp] theorem keep_4_11 : fn4.keep 11 = some [2] := rfl
@[simp] theorem ntmps_5 : fn5.ntmps = 166 := rfl
@[simp] theorem results_5 : fn5.results = [.tmp 2] := rfl
theorem body_5 : fn5.body = c5 := rfl
@[simp] theorem dyn_5 : fn5.dyn = fun _ => [] := id rfl
@[simp] theorem opn_5 : fn5.opn = fun _ => none := id rfl
@[simp] theorem keep_5_0 : fn5.keep 0 = some [0] := rfl
@[simp] theorem keep_5_1 : fn5.keep 1 = some [0, 22] := rfl
@[simp] theorem keep_5_2 : fn5.keep 2 = some [2] := rfl
@[simp] theorem keep_5_3 : fn5.keep 3 = some [0, 3, 4, 5] := rfl
@[simp] theorem keep_5_4 : fn5.keep 4 = some [0, 3, 4, 5, 6, 7, 8] := rfl
@[simp] theorem keep_5_5 : fn5.keep 5 = some [0, 3, 4, 5, 6, 7, 8, 9, 10, 11] := rfl
@[simp] theorem keep_5_6 : fn5.keep 6 = some [0, 3, 4, 5, 6, 7, 8, 9, 10, 11, 43] := rfl
@[simp] theorem keep_5_7 : fn5.keep 7 = some [2] := rfl
@[simp] theorem keep_5_8 : fn5.keep 8 = some [0, 3, 4, 5, 6, 7, 8, 9, 12, 13] := rfl
@[simp] theorem keep_5_9 : fn5.keep 9 = some [0, 3, 5, 6, 7, 8, 9, 107] := rfl
@[simp] theorem keep_5_10 : fn5.keep 10 = some [2] := rfl
@[simp] theorem keep_5_11 : fn5.keep 11 = some [0, 3, 6, 7, 8, 9, 109] := rfl
@[simp] theorem keep_5_12 : fn5.keep 12 = some [0, 6, 7, 8, 9, 14, 15] := rfl
@[simp] theorem keep_5_13 : fn5.keep 13 = some [0, 6, 7, 8, 9, 123] := rfl
@[simp] theorem keep_5_14 : fn5.keep 14 = some [2] := rfl
@[simp] theorem keep_5_15 : fn5.keep 15 = some [0, 6, 7, 8, 9, 16] := rfl
@[simp] theorem keep_5_16 : fn5.keep 16 = some [0, 6, 7, 8, 9, 16, 17] := rfl
@[simp] theorem keep_5_17 : fn5.keep 17 = some [0, 6, 7, 8, 9, 16, 17, 127] := rfl
@[simp] theorem keep_5_18 : fn5.keep 18 = some [0, 6, 7, 8, 16, 17] := rfl
@[simp] theorem keep_5_19 : fn5.keep 19 = some [0, 6, 8, 145] := rfl
@[simp] theorem keep_5_20 : fn5.keep 20 = some [2] := rfl
@[simp] theorem keep_5_21 : fn5.keep 21 = some [0, 6, 147] := rfl
@[simp] theorem keep_5_22 : fn5.keep 22 = some [2] := rfl
@[simp] theorem keep_5_23 : fn5.keep 23 = some [0, 18, 19] := rfl
@[simp] theorem keep_5_24 : fn5.keep 24 = some [2] := rfl
@[simp] theorem ntmps_6 : fn6.ntmps = 82 := rfl
@[simp] theorem results_6 : fn6.results = [.tmp 4] := rfl
theorem body_6 : fn6.body = c6 := rfl
@[simp] theorem dyn_6 : fn6.dyn = fun _ => [] := id rfl
@[simp] theorem opn_6 : fn6.opn = fun _ => none := id rfl
@[simp] theorem keep_6_0 : fn6.keep 0 = some [0, 1] := rfl
@[simp] theorem keep_6_1 : fn6.keep 1 = some [0, 5] := rfl
@[simp] theorem keep_6_2 : fn6.keep 2 = some [0, 5, 6] := rfl
@[simp] theorem keep_6_3 : fn6.keep 3 = some [0, 5, 6, 7, 8] := rfl
@[simp] theorem keep_6_4 : fn6.keep 4 = some [0, 5, 6, 7, 8, 9, 10] := rfl
@[simp] theorem keep_6_5 : fn6.keep 5 = some [0, 55] := rfl
@[simp] theorem keep_6_6 : fn6.keep 6 = some [4] := rfl
@[simp] theorem keep_6_7 : fn6.keep 7 = some [0, 8, 11] := rfl
@[simp] theorem keep_6_8 : fn6.keep 8 = some [8, 11, 66] := rfl
@[simp] theorem keep_6_9 : fn6.keep 9 = some [4] := rfl
@[simp] theorem keep_6_10 : fn6.keep 10 = some [4] := rfl
@[simp] theorem ntmps_7 : fn7.ntmps = 81 := rfl
@[simp] theorem results_7 : fn7.results = [.tmp 6] := rfl
theorem body_7 : fn7.body = c7 := rfl
@[simp] theorem dyn_7 : fn7.dyn = fun _ => [] := id rfl
@[simp] theorem opn_7 : fn7.opn = fun _ => none := id rfl
@[simp] theorem keep_7_0 : fn7.keep 0 = some [0, 1, 2] := rfl
@[simp] theorem keep_7_1 : fn7.keep 1 = some [0, 1, 2, 7] := rfl
@[simp] theorem keep_7_2 : fn7.keep 2 = some [0, 1, 2, 36] := rfl
@[simp] theorem keep_7_3 : fn7.keep 3 = some [6] := rfl
@[simp] theorem keep_7_4 : fn7.keep 4 = some [0, 1, 2, 8] := rfl
@[simp] theorem keep_7_5 : fn7.keep 5 = some [0, 1, 2, 8, 9] := rfl
@[simp] theorem keep_7_6 : fn7.keep 6 = some [0, 1, 2, 8, 9, 10] := rfl
@[simp] theorem keep_7_7 : fn7.keep 7 = some [0, 8, 9, 10, 59] := rfl
@[simp] theorem keep_7_8 : fn7.keep 8 = some [6] := rfl
@[simp] theorem keep_7_9 : fn7.keep 9 = some [0, 72] := rfl
@[simp] theorem keep_7_10 : fn7.keep 10 = some [6] := rfl
@[simp] theorem keep_7_11 : fn7.keep 11 = some [6] := rfl
@[simp] theorem ntmps_8 : fn8.ntmps = 156 := rfl
@[simp] theorem results_8 : fn8.results = [.tmp 0] := rfl
theorem body_8 : fn8.body = c8 := rfl
@[simp] theorem dyn_8 : fn8.dyn = fun _ => [] := id rfl
@[simp] theorem opn_8 : fn8.opn = fun _ => none := id rfl
@[simp] theorem keep_8_0 : fn8.keep 0 = some [] := rfl
@[simp] theorem keep_8_1 : fn8.keep 1 = some [1] := rfl
@[simp] theorem keep_8_2 : fn8.keep 2 = some [1, 2] := rfl
@[simp] theorem keep_8_3 : fn8.keep 3 = some [1, 2, 27] := rfl
@[simp] theorem keep_8_4 : fn8.keep 4 = some [1, 2] := rfl
@[simp] theorem keep_8_5 : fn8.keep 5 = some [1, 2, 3] := rfl
@[simp] theorem keep_8_6 : fn8.keep 6 = some [1, 2, 3, 4, 5] := rfl
@[simp] theorem keep_8_7 : fn8.keep 7 = some [1, 2, 3, 5, 6, 7, 8] := rfl
@[simp] theorem keep_8_8 : fn8.keep 8 = some [1, 2, 3, 5, 6, 7, 8, 9, 10] := rfl
@[simp] theorem keep_8_9 : fn8.keep 9 = some [1, 2, 3, 5, 6, 7, 8, 10, 11, 12, 13] := rfl
@[simp] theorem keep_8_10 : fn8.keep 10 = some [1, 2, 102] := rfl
@[simp] theorem keep_8_11 : fn8.keep 11 = some [0] := rfl
@[simp] theorem keep_8_12 : fn8.keep 12 = some [15, 16] := rfl
@[simp] theorem keep_8_13 : fn8.keep 13 = some [15, 16, 18, 19] := rfl
@[simp] theorem keep_8_14 : fn8.keep 14 = some [15, 16, 18, 19, 22] := rfl
@[simp] theorem keep_8_15 : fn8.keep 15 = some [0] := rfl
@[simp] theorem head_8_3 : fn8.head 3 = some [1, 2] := rfl
@[simp] theorem ntmps_9 : fn9.ntmps = 14 := rfl
@[simp] theorem results_9 : fn9.results = [.tmp 2] := rfl
theorem body_9 : fn9.body = c9 := rfl
@[simp] theorem dyn_9 : fn9.dyn = fun _ => [] := id rfl
@[simp] theorem opn_9 : fn9.opn = fun _ => none := id rfl
@[simp] theorem keep_9_0 : fn9.keep 0 = some [0] := rfl
@[simp] theorem keep_9_1 : fn9.keep 1 = some [0, 5] := rfl
@[simp] theorem keep_9_2 : fn9.keep 2 = some [2] := rfl
@[simp] theorem keep_9_3 : fn9.keep 3 = some [2] := rfl
@[simp] theorem ntmps_10 : fn10.ntmps = 148 := rfl
@[simp] theorem results_10 : fn10.results = [.tmp 0] := rfl
theorem body_10 : fn10.body = c10 := rfl
@[simp] theorem dyn_10 : fn10.dyn = fun _ => [] := id rfl
@[simp] theorem opn_10 : fn10.opn = fun _ => none := id rfl
@[simp] theorem keep_10_0 : fn10.keep 0 = some [] := rfl
@[simp] theorem keep_10_1 : fn10.keep 1 = some [1, 2] := rfl
@[simp] theorem keep_10_2 : fn10.keep 2 = some [1, 2, 3, 4] := rfl
@[simp] theorem keep_10_3 : fn10.keep 3 = some [1, 2, 3, 4, 5, 6] := rfl
@[simp] theorem keep_10_4 : fn10.keep 4 = some [60] := rfl
@[simp] theorem keep_10_5 : fn10.keep 5 = some [0] := rfl
@[simp] theorem keep_10_6 : fn10.keep 6 = some [8, 9] := rfl
@[simp] theorem keep_10_7 : fn10.keep 7 = some [8, 9, 11, 12] := rfl
@[simp] theorem keep_10_8 : fn10.keep 8 = some [8, 9, 11, 12, 14, 15] := rfl
@[simp] theorem keep_10_9 : fn10.keep 9 = some [8, 9, 11, 12, 14, 15, 16, 17] := rfl
@[simp] theorem keep_10_10 : fn10.keep 10 = some [8, 9, 11, 12, 14, 15, 16, 17, 19, 20] := rfl
@[simp] theorem keep_10_11 : fn10.keep 11 = some [127] := rfl
@[simp] theorem keep_10_12 : fn10.keep 12 = some [0] := rfl
@[simp] theorem keep_10_13 : fn10.keep 13 = some [0] := rfl
@[simp] theorem ntmps_11 : fn11.ntmps = 43 := rfl
@[simp] theorem results_11 : fn11.results = [.cell 2 33, .tmp 3] := rfl
theorem body_11 : fn11.body = c11 := rfl
@[simp] theorem dyn_11 : fn11.dyn = fun _ => [] := id rfl
@[simp] theorem opn_11 : fn11.opn = fun _ => none := id rfl
@[simp] theorem keep_11_0 : fn11.keep 0 = some [1, 2] := rfl
@[simp] theorem keep_11_1 : fn11.keep 1 = some [1, 2, 4] := rfl
@[simp] theorem keep_11_2 : fn11.keep 2 = some [1, 2, 4, 11] := rfl
@[simp] theorem keep_11_3 : fn11.keep 3 = some [2, 3] := rfl
@[simp] theorem keep_11_4 : fn11.keep 4 = some [1, 2, 5] := rfl
@[simp] theorem keep_11_5 : fn11.keep 5 = some [2, 5, 20, 21] := rfl
@[simp] theorem keep_11_6 : fn11.keep 6 = some [2, 5, 20, 21, 22] := rfl
@[simp] theorem keep_11_7 : fn11.keep 7 = some [2, 5, 6, 7, 20, 21] := rfl
@[simp] theorem keep_11_8 : fn11.keep 8 = some [2, 5, 6, 7, 20, 21, 26] := rfl
@[simp] theorem keep_11_9 : fn11.keep 9 = some [2, 5, 20, 21] := rfl
@[simp] theorem keep_11_10 : fn11.keep 10 = some [2, 5, 20, 21] := rfl
@[simp] theorem keep_11_11 : fn11.keep 11 = some [2, 5] := rfl
@[simp] theorem keep_11_12 : fn11.keep 12 = some [2, 3] := rfl
@[simp] theorem head_11_6 : fn11.head 6 = some [2, 5, 20, 21] := rfl
@[simp] theorem ntmps_12 : fn12.ntmps = 18 := rfl
@[simp] theorem results_12 : fn12.results = [.tmp 2, .tmp 3] := rfl
theorem body_12 : fn12.body = c12 := rfl
@[simp] theorem dyn_12 : fn12.dyn = fun _ => [] := id rfl
@[simp] theorem opn_12 : fn12.opn = fun _ => none := id rfl
@[simp] theorem keep_12_0 : fn12.keep 0 = some [1] := rfl
@[simp] theorem keep_12_1 : fn12.keep 1 = some [4, 5] := rfl
@[simp] theorem keep_12_2 : fn12.keep 2 = some [4, 5, 12] := rfl
@[simp] theorem keep_12_3 : fn12.keep 3 = some [2, 3] := rfl
@[simp] theorem keep_12_4 : fn12.keep 4 = some [2, 3] := rfl
@[simp] theorem ntmps_13 : fn13.ntmps = 35 := rfl
@[simp] theorem results_13 : fn13.results = [.cell 2 33] := rfl
theorem body_13 : fn13.body = c13 := rfl
@[simp] theorem dyn_13 : fn13.dyn = fun _ => [] := id rfl
@[simp] theorem opn_13 : fn13.opn = fun _ => none := id rfl
@[simp] theorem keep_13_0 : fn13.keep 0 = some [1, 2] := rfl
@[simp] theorem keep_13_1 : fn13.keep 1 = some [1, 2, 3] := rfl
@[simp] theorem keep_13_2 : fn13.keep 2 = some [1, 2, 3, 8] := rfl
@[simp] theorem keep_13_3 : fn13.keep 3 = some [1, 2, 3] := rfl
@[simp] theorem keep_13_4 : fn13.keep 4 = some [1, 2, 3, 22] := rfl
@[simp] theorem keep_13_5 : fn13.keep 5 = some [2, 3] := rfl
@[simp] theorem keep_13_6 : fn13.keep 6 = some [2] := rfl
@[simp] theorem ntmps_14 : fn14.ntmps = 29 := rfl
@[simp] theorem results_14 : fn14.results = [.tmp 2] := rfl
theorem body_14 : fn14.body = c14 := rfl
@[simp] theorem dyn_14 : fn14.dyn = fun _ => [] := id rfl
@[simp] theorem opn_14 : fn14.opn = fun _ => none := id rfl
@[simp] theorem keep_14_0 : fn14.keep 0 = some [1] := rfl
@[simp] theorem keep_14_1 : fn14.keep 1 = some [1, 3] := rfl
@[simp] theorem keep_14_2 : fn14.keep 2 = some [3, 10, 11] := rfl
@[simp] theorem keep_14_3 : fn14.keep 3 = some [3, 10, 11, 12] := rfl
@[simp] theorem keep_14_4 : fn14.keep 4 = some [3, 5, 10, 11] := rfl
@[simp] theorem keep_14_5 : fn14.keep 5 = some [3, 5, 10, 11, 20] := rfl
@[simp] theorem keep_14_6 : fn14.keep 6 = some [2] := rfl
@[simp] theorem keep_14_7 : fn14.keep 7 = some [3, 10, 11] := rfl
@[simp] theorem keep_14_8 : fn14.keep 8 = some [3, 10, 11] := rfl
@[simp] theorem keep_14_9 : fn14.keep 9 = some [28] := rfl
@[simp] theorem keep_14_10 : fn14.keep 10 = some [2] := rfl
@[simp] theorem keep_14_11 : fn14.keep 11 = some [2] := rfl
@[simp] theorem head_14_3 : fn14.head 3 = some [3, 10, 11] := rfl
@[simp] theorem ntmps_15 : fn15.ntmps = 48 := rfl
@[simp] theorem results_15 : fn15.results = [.tmp 4] := rfl
theorem body_15 : fn15.body = c15 := rfl
@[simp] theorem dyn_15 : fn15.dyn = fun _ => [] := id rfl
@[simp] theorem opn_15 : fn15.opn = fun _ => none := id rfl
@[simp] theorem keep_15_0 : fn15.keep 0 = some [2, 3] := rfl
@[simp] theorem keep_15_1 : fn15.keep 1 = some [2, 3, 28] := rfl
@[simp] theorem keep_15_2 : fn15.keep 2 = some [4] := rfl
@[simp] theorem keep_15_3 : fn15.keep 3 = some [2, 3, 5] := rfl
@[simp] theorem keep_15_4 : fn15.keep 4 = some [2, 3, 5, 33] := rfl
@[simp] theorem keep_15_5 : fn15.keep 5 = some [2, 3, 5] := rfl
@[simp] theorem keep_15_6 : fn15.keep 6 = some [2, 3, 5, 47] := rfl
@[simp] theorem keep_15_7 : fn15.keep 7 = some [4] := rfl
@[simp] theorem keep_15_8 : fn15.keep 8 = some [4] := rfl
@[simp] theorem head_15_4 : fn15.head 4 = some [2, 3, 5] := rfl
@[simp] theorem ntmps_16 : fn16.ntmps = 33 := rfl
@[simp] theorem results_16 : fn16.results = [.tmp 2] := rfl
theorem body_16 : fn16.body = c16 := rfl
@[simp] theorem dyn_16 : fn16.dyn = fun _ => [] := id rfl
@[simp] theorem opn_16 : fn16.opn = fun _ => none := id rfl
@[simp] theorem keep_16_0 : fn16.keep 0 = some [1] := rfl
@[simp] theorem keep_16_1 : fn16.keep 1 = some [1, 3] := rfl
@[simp] theorem keep_16_2 : fn16.keep 2 = some [1, 3, 4] := rfl
@[simp] theorem keep_16_3 : fn16.keep 3 = some [1, 3, 4, 13] := rfl
@[simp] theorem keep_16_4 : fn16.keep 4 = some [1, 3, 4] := rfl
@[simp] theorem keep_16_5 : fn16.keep 5 = some [1, 3, 4] := rfl
@[simp] theorem keep_16_6 : fn16.keep 6 = some [2] := rfl
@[simp] theorem head_16_3 : fn16.head 3 = some [1, 3, 4] := rfl
@[simp] theorem ntmps_17 : fn17.ntmps = 83 := rfl
@[simp] theorem results_17 : fn17.results = [.cell 2 25, .cell 3 45] := rfl
theorem body_17 : fn17.body = c17 := rfl
@[simp] theorem dyn_17_4 : fn17.dyn 4 = [] := id rfl
@[simp] theorem dyn_17_6 : fn17.dyn 6 = [(1, 2)] := id rfl
@[simp] theorem dyn_17_14 : fn17.dyn 14 = [] := id rfl

@[simp] theorem opn_17 : fn17.opn = fun _ => none := id rfl
@[simp] theorem keep_17_0 : fn17.keep 0 = some [1, 2, 3] := rfl
@[simp] theorem keep_17_1 : fn17.keep 1 = some [1, 2, 3, 4] := rfl
@[simp] theorem keep_17_2 : fn17.keep 2 = some [1, 2, 3, 4, 15] := rfl
@[simp] theorem keep_17_3 : fn17.keep 3 = some [2, 3] := rfl
@[simp] theorem keep_17_4 : fn17.keep 4 = some [1, 2, 3, 5, 6] := rfl
@[simp] theorem keep_17_5 : fn17.keep 5 = some [1, 2, 3, 5, 6, 32] := rfl
@[simp] theorem keep_17_6 : fn17.keep 6 = some [2, 3] := rfl
@[simp] theorem keep_17_7 : fn17.keep 7 = some [1, 2, 3, 5, 38] := rfl
@[simp] theorem keep_17_8 : fn17.keep 8 = some [2, 3] := rfl
@[simp] theorem keep_17_9 : fn17.keep 9 = some [1, 2, 3, 5, 7] := rfl
@[simp] theorem keep_17_10 : fn17.keep 10 = some [1, 2, 3, 5, 7, 44, 45] := rfl
@[simp] theorem keep_17_11 : fn17.keep 11 = some [1, 2, 3, 5, 7, 44, 45, 46] := rfl
@[simp] theorem keep_17_12 : fn17.keep 12 = some [1, 2, 3, 5, 7, 8, 9, 44, 45] := rfl
@[simp] theorem keep_17_13 : fn17.keep 13 = some [1, 2, 3, 5, 7, 8, 9, 44, 45, 53] := rfl
@[simp] theorem keep_17_14 : fn17.keep 14 = some [1, 2, 3, 5, 7, 8, 9, 10, 11, 44, 45] := rfl
@[simp] theorem keep_17_15 : fn17.keep 15 = some [1, 2, 3, 5, 7, 8, 9, 10, 11, 44, 45, 68] := rfl
@[simp] theorem keep_17_16 : fn17.keep 16 = some [2, 3] := rfl
@[simp] theorem keep_17_17 : fn17.keep 17 = some [1, 2, 3, 5, 7, 44, 45] := rfl
@[simp] theorem keep_17_18 : fn17.keep 18 = some [1, 2, 3, 5, 7, 44, 45] := rfl
@[simp] theorem keep_17_19 : fn17.keep 19 = some [2, 3] := rfl
@[simp] theorem head_17_11 : fn17.head 11 = some [1, 2, 3, 5, 7, 44, 45] := rfl
@[simp] theorem ntmps_18 : fn18.ntmps = 10 := rfl
@[simp] theorem results_18 : fn18.results = [.cell 2 25, .tmp 3, .tmp 4] := rfl
theorem body_18 : fn18.body = c18 := rfl
@[simp] theorem dyn_18 : fn18.dyn = fun _ => [] := id rfl
@[simp] theorem opn_18 : fn18.opn = opnT := id rfl
@[simp] theorem keep_18_0 : fn18.keep 0 = some [0, 2] := rfl
@[simp] theorem keep_18_1 : fn18.keep 1 = some [2, 3, 4] := rfl
@[simp] theorem ntmps_19 : fn19.ntmps = 47 := rfl
@[simp] theorem results_19 : fn19.results = [.tmp 4] := rfl
theorem body_19 : fn19.body = c19 := rfl
@[simp] theorem dyn_19 : fn19.dyn = fun _ => [] := id rfl
@[simp] theorem opn_19 : fn19.opn = fun _ => none := id rfl
@[simp] theorem keep_19_0 : fn19.keep 0 = some [2, 3] := rfl
@[simp] theorem keep_19_1 : fn19.keep 1 = some [2, 3, 28] := rfl
@[simp] theorem keep_19_2 : fn19.keep 2 = some [4] := rfl
@[simp] theorem keep_19_3 : fn19.keep 3 = some [2, 3, 5] := rfl
@[simp] theorem keep_19_4 : fn19.keep 4 = some [2, 3, 5, 33] := rfl
@[simp] theorem keep_19_5 : fn19.keep 5 = some [2, 3, 5] := rfl
@[simp] theorem keep_19_6 : fn19.keep 6 = some [2, 3, 5, 46] := rfl
@[simp] theorem keep_19_7 : fn19.keep 7 = some [4] := rfl
@[simp] theorem keep_19_8 : fn19.keep 8 = some [4] := rfl
@[simp] theorem head_19_4 : fn19.head 4 = some [2, 3, 5] := rfl
@[simp] theorem ntmps_20 : fn20.ntmps = 14 := rfl
@[simp] theorem results_20 : fn20.results = [.tmp 2, .tmp 3] := rfl
theorem body_20 : fn20.body = c20 := rfl
@[simp] theorem dyn_20 : fn20.dyn = fun _ => [] := id rfl
@[simp] theorem opn_20 : fn20.opn = fun _ => none := id rfl
@[simp] theorem keep_20_0 : fn20.keep 0 = some [0] := rfl
@[simp] theorem keep_20_1 : fn20.keep 1 = some [0, 6] := rfl
@[simp] theorem keep_20_2 : fn20.keep 2 = some [2, 3] := rfl
@[simp] theorem keep_20_3 : fn20.keep 3 = some [2, 3] := rfl
@[simp] theorem ntmps_21 : fn21.ntmps = 10 := rfl
@[simp] theorem results_21 : fn21.results = [.tmp 2, .tmp 3, .tmp 4] := rfl
theorem body_21 : fn21.body = c21 := rfl
@[simp] theorem dyn_21 : fn21.dyn = fun _ => [] := id rfl
@[simp] theorem opn_21 : fn21.opn = opnT := id rfl
@[simp] theorem keep_21_0 : fn21.keep 0 = some [0] := rfl
@[simp] theorem keep_21_1 : fn21.keep 1 = some [2, 3, 4] := rfl
@[simp] theorem ntmps_22 : fn22.ntmps = 29 := rfl
@[simp] theorem results_22 : fn22.results = [.tmp 2] := rfl
theorem body_22 : fn22.body = c22 := rfl
@[simp] theorem dyn_22 : fn22.dyn = fun _ => [] := id rfl
@[simp] theorem opn_22 : fn22.opn = fun _ => none := id rfl
@[simp] theorem keep_22_0 : fn22.keep 0 = some [0] := rfl
@[simp] theorem keep_22_1 : fn22.keep 1 = some [0, 3] := rfl
@[simp] theorem keep_22_2 : fn22.keep 2 = some [3, 4] := rfl
@[simp] theorem keep_22_3 : fn22.keep 3 = some [3, 4, 12] := rfl
@[simp] theorem keep_22_4 : fn22.keep 4 = some [3, 4] := rfl
@[simp] theorem keep_22_5 : fn22.keep 5 = some [3, 4] := rfl
@[simp] theorem keep_22_6 : fn22.keep 6 = some [3, 24] := rfl
@[simp] theorem keep_22_7 : fn22.keep 7 = some [3] := rfl
@[simp] theorem keep_22_8 : fn22.keep 8 = some [2] := rfl
@[simp] theorem head_22_3 : fn22.head 3 = some [3, 4] := rfl
@[simp] theorem ntmps_23 : fn23.ntmps = 51 := rfl
@[simp] theorem results_23 : fn23.results = [.tmp 6] := rfl
theorem body_23 : fn23.body = c23 := rfl
@[simp] theorem dyn_23 : fn23.dyn = fun _ => [] := id rfl
@[simp] theorem opn_23 : fn23.opn = opnT := id rfl
@[simp] theorem keep_23_0 : fn23.keep 0 = some [1, 2, 3] := rfl
@[simp] theorem keep_23_1 : fn23.keep 1 = some [1, 2, 3] := rfl
@[simp] theorem keep_23_2 : fn23.keep 2 = some [1, 2, 3, 33] := rfl
@[simp] theorem keep_23_3 : fn23.keep 3 = some [6] := rfl
@[simp] theorem keep_23_4 : fn23.keep 4 = some [1, 2, 3, 7] := rfl
@[simp] theorem keep_23_5 : fn23.keep 5 = some [1, 2, 3, 7, 38] := rfl
@[simp] theorem keep_23_6 : fn23.keep 6 = some [1, 2, 3, 7] := rfl
@[simp] theorem keep_23_7 : fn23.keep 7 = some [1, 2, 3, 7, 50] := rfl
@[simp] theorem keep_23_8 : fn23.keep 8 = some [6] := rfl
@[simp] theorem keep_23_9 : fn23.keep 9 = some [6] := rfl
@[simp] theorem head_23_5 : fn23.head 5 = some [1, 2, 3, 7] := rfl
@[simp] theorem ntmps_24 : fn24.ntmps = 101 := rfl
@[simp] theorem results_24 : fn24.results = [.cell 2 25, .cell 3 45] := rfl
theorem body_24 : fn24.body = c24 := rfl
@[simp] theorem dyn_24_4 : fn24.dyn 4 = [] := id rfl
@[simp] theorem dyn_24_9 : fn24.dyn 9 = [(1, 2)] := id rfl
@[simp] theorem dyn_24_12 : fn24.dyn 12 = [] := id rfl
@[simp] theorem dyn_24_14 : fn24.dyn 14 = [] := id rfl
@[simp] theorem dyn_24_16 : fn24.dyn 16 = [] := id rfl
@[simp] theorem dyn_24_18 : fn24.dyn 18 = [] := id rfl
@[simp] theorem dyn_24_20 : fn24.dyn 20 = [] := id rfl
@[simp] theorem dyn_24_21 : fn24.dyn 21 = [(1, 2)] := id rfl

@[simp] theorem opn_24 : fn24.opn = fun _ => none := id rfl
@[simp] theorem keep_24_0 : fn24.keep 0 = some [1, 2, 3] := rfl
@[simp] theorem keep_24_1 : fn24.keep 1 = some [1, 2, 3, 4] := rfl
@[simp] theorem keep_24_2 : fn24.keep 2 = some [1, 2, 3, 4, 5] := rfl
@[simp] theorem keep_24_3 : fn24.keep 3 = some [1, 2, 3, 4, 5, 14] := rfl
@[simp] theorem keep_24_4 : fn24.keep 4 = some [2, 3] := rfl
@[simp] theorem keep_24_5 : fn24.keep 5 = some [1, 2, 3, 4, 6] := rfl
@[simp] theorem keep_24_6 : fn24.keep 6 = some [1, 2, 3, 4, 6, 7] := rfl
@[simp] theorem keep_24_7 : fn24.keep 7 = some [1, 2, 3, 4, 8, 9] := rfl
@[simp] theorem keep_24_8 : fn24.keep 8 = some [1, 2, 3, 4, 8, 9, 33] := rfl
@[simp] theorem keep_24_9 : fn24.keep 9 = some [2, 3] := rfl
@[simp] theorem keep_24_10 : fn24.keep 10 = some [1, 2, 3, 4, 8, 9, 10] := rfl
@[simp] theorem keep_24_11 : fn24.keep 11 = some [1, 2, 3, 4, 8, 9, 10, 46] := rfl
@[simp] theorem keep_24_12 : fn24.keep 12 = some [2, 3] := rfl
@[simp] theorem keep_24_13 : fn24.keep 13 = some [1, 2, 3, 4, 8, 9, 10, 52] := rfl
@[simp] theorem keep_24_14 : fn24.keep 14 = some [1, 2, 3, 4, 5, 8, 9, 10] := rfl
@[simp] theorem keep_24_15 : fn24.keep 15 = some [1, 2, 3, 4, 5, 8, 9, 10, 67] := rfl
@[simp] theorem keep_24_16 : fn24.keep 16 = some [2, 3] := rfl
@[simp] theorem keep_24_17 : fn24.keep 17 = some [1, 2, 3, 4, 8, 9, 10, 77] := rfl
@[simp] theorem keep_24_18 : fn24.keep 18 = some [2, 3, 4, 5, 8, 9, 10] := rfl
@[simp] theorem keep_24_19 : fn24.keep 19 = some [2, 3, 4, 5, 8, 9, 10, 92] := rfl
@[simp] theorem keep_24_20 : fn24.keep 20 = some [2, 3] := rfl
@[simp] theorem keep_24_21 : fn24.keep 21 = some [2, 3] := rfl
@[simp] theorem ntmps_25 : fn25.ntmps = 29 := rfl
@[simp] theorem results_25 : fn25.results = [.tmp 2] := rfl
theorem body_25 : fn25.body = c25 := rfl
@[simp] theorem dyn_25 : fn25.dyn = fun _ => [] := id rfl
@[simp] theorem opn_25 : fn25.opn = fun _ => none := id rfl
@[simp] theorem keep_25_0 : fn25.keep 0 = some [1] := rfl
@[simp] theorem keep_25_1 : fn25.keep 1 = some [1, 20] := rfl
@[simp] theorem keep_25_2 : fn25.keep 2 = some [2] := rfl
@[simp] theorem keep_25_3 : fn25.keep 3 = some [28] := rfl
@[simp] theorem keep_25_4 : fn25.keep 4 = some [2] := rfl
@[simp] theorem keep_25_5 : fn25.keep 5 = some [2] := rfl
@[simp] theorem ntmps_26 : fn26.ntmps = 27 := rfl
@[simp] theorem results_26 : fn26.results = [.cell 2 33, .tmp 3, .tmp 4] := rfl
theorem body_26 : fn26.body = c26 := rfl
@[simp] theorem dyn_26 : fn26.dyn = fun _ => [] := id rfl
@[simp] theorem opn_26 : fn26.opn = fun _ => none := id rfl
@[simp] theorem keep_26_0 : fn26.keep 0 = some [0, 2] := rfl
@[simp] theorem keep_26_1 : fn26.keep 1 = some [0, 2, 3, 4, 5] := rfl
@[simp] theorem keep_26_2 : fn26.keep 2 = some [0, 2, 3, 4, 5, 13] := rfl
@[simp] theorem keep_26_3 : fn26.keep 3 = some [2, 3, 4] := rfl
@[simp] theorem keep_26_4 : fn26.keep 4 = some [2, 5, 19] := rfl
@[simp] theorem keep_26_5 : fn26.keep 5 = some [2, 3, 4] := rfl
@[simp] theorem keep_26_6 : fn26.keep 6 = some [2, 3, 4] := rfl
@[simp] theorem ntmps_27 : fn27.ntmps = 66 := rfl
@[simp] theorem results_27 : fn27.results = [.tmp 4] := rfl
theorem body_27 : fn27.body = c27 := rfl
@[simp] theorem dyn_27 : fn27.dyn = fun _ => [] := id rfl
@[simp] theorem opn_27 : fn27.opn = fun _ => none := id rfl
@[simp] theorem keep_27_0 : fn27.keep 0 = some [1, 2] := rfl
@[simp] theorem keep_27_1 : fn27.keep 1 = some [1, 2, 5] := rfl
@[simp] theorem keep_27_2 : fn27.keep 2 = some [1, 2, 5, 6] := rfl
@[simp] theorem keep_27_3 : fn27.keep 3 = some [1, 2, 5, 6, 12] := rfl
@[simp] theorem keep_27_4 : fn27.keep 4 = some [1, 2, 5, 6] := rfl
@[simp] theorem keep_27_5 : fn27.keep 5 = some [1, 2, 5, 6, 29] := rfl
@[simp] theorem keep_27_6 : fn27.keep 6 = some [4] := rfl
@[simp] theorem keep_27_7 : fn27.keep 7 = some [1, 2, 5, 6, 7] := rfl
@[simp] theorem keep_27_8 : fn27.keep 8 = some [1, 2, 5, 6, 7, 8] := rfl
@[simp] theorem keep_27_9 : fn27.keep 9 = some [1, 2, 5, 6, 7, 8, 38] := rfl
@[simp] theorem keep_27_10 : fn27.keep 10 = some [1, 2, 5, 6, 7, 8] := rfl
@[simp] theorem keep_27_11 : fn27.keep 11 = some [1, 2, 5, 6, 7, 8] := rfl
@[simp] theorem keep_27_12 : fn27.keep 12 = some [1, 2, 5, 6] := rfl
@[simp] theorem keep_27_13 : fn27.keep 13 = some [1, 2, 5, 6] := rfl
@[simp] theorem keep_27_14 : fn27.keep 14 = some [4] := rfl
@[simp] theorem head_27_3 : fn27.head 3 = some [1, 2, 5, 6] := rfl
@[simp] theorem head_27_9 : fn27.head 9 = some [1, 2, 5, 6, 7, 8] := rfl
@[simp] theorem ntmps_28 : fn28.ntmps = 19 := rfl
@[simp] theorem results_28 : fn28.results = [.tmp 2, .tmp 3] := rfl
theorem body_28 : fn28.body = c28 := rfl
@[simp] theorem dyn_28 : fn28.dyn = fun _ => [] := id rfl
@[simp] theorem opn_28 : fn28.opn = fun _ => none := id rfl
@[simp] theorem keep_28_0 : fn28.keep 0 = some [0] := rfl
@[simp] theorem keep_28_1 : fn28.keep 1 = some [4, 5] := rfl
@[simp] theorem keep_28_2 : fn28.keep 2 = some [4, 5, 12] := rfl
@[simp] theorem keep_28_3 : fn28.keep 3 = some [2, 3] := rfl
@[simp] theorem keep_28_4 : fn28.keep 4 = some [4, 15] := rfl
@[simp] theorem keep_28_5 : fn28.keep 5 = some [2, 3] := rfl
@[simp] theorem keep_28_6 : fn28.keep 6 = some [4, 17] := rfl
@[simp] theorem keep_28_7 : fn28.keep 7 = some [2, 3] := rfl
@[simp] theorem keep_28_8 : fn28.keep 8 = some [2, 3] := rfl
@[simp] theorem ntmps_29 : fn29.ntmps = 23 := rfl
@[simp] theorem results_29 : fn29.results = [.tmp 4] := rfl
theorem body_29 : fn29.body = c29 := rfl
@[simp] theorem dyn_29 : fn29.dyn = fun _ => [] := id rfl
@[simp] theorem opn_29 : fn29.opn = fun _ => none := id rfl
@[simp] theorem keep_29_0 : fn29.keep 0 = some [0, 1] := rfl
@[simp] theorem keep_29_1 : fn29.keep 1 = some [0, 1, 5] := rfl
@[simp] theorem keep_29_2 : fn29.keep 2 = some [4] := rfl
@[simp] theorem keep_29_3 : fn29.keep 3 = some [0, 1, 12] := rfl
@[simp] theorem keep_29_4 : fn29.keep 4 = some [4] := rfl
@[simp] theorem keep_29_5 : fn29.keep 5 = some [0, 1, 16] := rfl
@[simp] theorem keep_29_6 : fn29.keep 6 = some [4] := rfl
@[simp] theorem keep_29_7 : fn29.keep 7 = some [4] := rfl
@[simp] theorem ntmps_30 : fn30.ntmps = 24 := rfl
@[simp] theorem results_30 : fn30.results = [.tmp 4] := rfl
theorem body_30 : fn30.body = c30 := rfl
@[simp] theorem dyn_30 : fn30.dyn = fun _ => [] := id rfl
@[simp] theorem opn_30 : fn30.opn = fun _ => none := id rfl
@[simp] theorem keep_30_0 : fn30.keep 0 = some [0, 1] := rfl
@[simp] theorem keep_30_1 : fn30.keep 1 = some [0, 1, 10] := rfl
@[simp] theorem keep_30_2 : fn30.keep 2 = some [4] := rfl
@[simp] theorem keep_30_3 : fn30.keep 3 = some [0, 1, 21] := rfl
@[simp] theorem keep_30_4 : fn30.keep 4 = some [4] := rfl
@[simp] theorem keep_30_5 : fn30.keep 5 = some [4] := rfl
@[simp] theorem ntmps_31 : fn31.ntmps = 16 := rfl
@[simp] theorem results_31 : fn31.results = [.cell 4 25] := rfl
theorem body_31 : fn31.body = c31 := rfl
@[simp] theorem dyn_31 : fn31.dyn = fun _ => [] := id rfl
@[simp] theorem opn_31 : fn31.opn = fun _ => none := id rfl
@[simp] theorem keep_31_0 : fn31.keep 0 = some [2, 3, 4] := rfl
@[simp] theorem keep_31_1 : fn31.keep 1 = some [4] := rfl
@[simp] theorem ntmps_32 : fn32.ntmps = 6 := rfl
@[simp] theorem results_32 : fn32.results = [.cell 2 29] := rfl
theorem body_32 : fn32.body = c32 := rfl
@[simp] theorem dyn_32 : fn32.dyn = fun _ => [] := id rfl
@[simp] theorem opn_32 : fn32.opn = fun _ => none := id rfl
@[simp] theorem keep_32_0 : fn32.keep 0 = some [0, 2] := rfl
@[simp] theorem keep_32_1 : fn32.keep 1 = some [2] := rfl
@[simp] theorem ntmps_33 : fn33.ntmps = 25 := rfl
@[simp] theorem results_33 : fn33.results = [.tmp 2] := rfl
theorem body_33 : fn33.body = c33 := rfl
@[simp] theorem dyn_33 : fn33.dyn = fun _ => [] := id rfl
@[simp] theorem opn_33 : fn33.opn = fun _ => none := id rfl
@[simp] theorem keep_33_0 : fn33.keep 0 = some [0] := rfl
@[simp] theorem keep_33_1 : fn33.keep 1 = some [0, 3] := rfl
@[simp] theorem keep_33_2 : fn33.keep 2 = some [0, 3, 6] := rfl
@[simp] theorem keep_33_3 : fn33.keep 3 = some [0, 3, 6, 7] := rfl
@[simp] theorem keep_33_4 : fn33.keep 4 = some [0, 3, 4, 6] := rfl
@[simp] theorem keep_33_5 : fn33.keep 5 = some [0, 3, 6] := rfl
@[simp] theorem keep_33_6 : fn33.keep 6 = some [0, 3, 6] := rfl
@[simp] theorem keep_33_7 : fn33.keep 7 = some [5] := rfl
@[simp] theorem keep_33_8 : fn33.keep 8 = some [5, 20] := rfl
@[simp] theorem keep_33_9 : fn33.keep 9 = some [5] := rfl
@[simp] theorem keep_33_10 : fn33.keep 10 = some [2] := rfl
@[simp] theorem head_33_3 : fn33.head 3 = some [0, 3, 6] := rfl
@[simp] theorem head_33_8 : fn33.head 8 = some [5] := rfl
@[simp] theorem ntmps_34 : fn34.ntmps = 9 := rfl
@[simp] theorem results_34 : fn34.results = [.tmp 2] := rfl
theorem body_34 : fn34.body = c34 := rfl
@[simp] theorem dyn_34 : fn34.dyn = fun _ => [] := id rfl
@[simp] theorem opn_34 : fn34.opn = fun _ => none := id rfl
@[simp] theorem keep_34_0 : fn34.keep 0 = some [0] := rfl
@[simp] theorem keep_34_1 : fn34.keep 1 = some [2] := rfl
@[simp] theorem ntmps_35 : fn35.ntmps = 19 := rfl
@[simp] theorem results_35 : fn35.results = [.tmp 2, .tmp 3] := rfl
theorem body_35 : fn35.body = c35 := rfl
@[simp] theorem dyn_35_7 : fn35.dyn 7 = [(3, 3)] := id rfl

@[simp] theorem opn_35 : fn35.opn = opnT := id rfl
@[simp] theorem keep_35_0 : fn35.keep 0 = some [1] := rfl
@[simp] theorem keep_35_1 : fn35.keep 1 = some [1, 4] := rfl
@[simp] theorem keep_35_2 : fn35.keep 2 = some [1, 4, 9] := rfl
@[simp] theorem keep_35_3 : fn35.keep 3 = some [2, 3] := rfl
@[simp] theorem keep_35_4 : fn35.keep 4 = some [1, 5] := rfl
@[simp] theorem keep_35_5 : fn35.keep 5 = some [1, 5, 14] := rfl
@[simp] theorem keep_35_6 : fn35.keep 6 = some [2, 3] := rfl
@[simp] theorem keep_35_7 : fn35.keep 7 = some [2, 3] := rfl
@[simp] theorem ntmps_36 : fn36.ntmps = 9 := rfl
@[simp] theorem results_36 : fn36.results = [.tmp 2] := rfl
theorem body_36 : fn36.body = c36 := rfl
@[simp] theorem dyn_36 : fn36.dyn = fun _ => [] := id rfl
@[simp] theorem opn_36 : fn36.opn = fun _ => none := id rfl
@[simp] theorem keep_36_0 : fn36.keep 0 = some [0] := rfl
@[simp] theorem keep_36_1 : fn36.keep 1 = some [2] := rfl
@[simp] theorem ntmps_37 : fn37.ntmps = 31 := rfl
@[simp] theorem results_37 : fn37.results = [.tmp 2] := rfl
theorem body_37 : fn37.body = c37 := rfl
@[simp] theorem dyn_37 : fn37.dyn = fun _ => [] := id rfl
@[simp] theorem opn_37 : fn37.opn = fun _ => none := id rfl
@[simp] theorem keep_37_0 : fn37.keep 0 = some [1] := rfl
@[simp] theorem keep_37_1 : fn37.keep 1 = some [1, 3] := rfl
@[simp] theorem keep_37_2 : fn37.keep 2 = some [1, 3, 9] := rfl
@[simp] theorem keep_37_3 : fn37.keep 3 = some [1, 3] := rfl
@[simp] theorem keep_37_4 : fn37.keep 4 = some [1, 3, 14] := rfl
@[simp] theorem keep_37_5 : fn37.keep 5 = some [2] := rfl
@[simp] theorem keep_37_6 : fn37.keep 6 = some [2] := rfl
@[simp] theorem ntmps_38 : fn38.ntmps = 26 := rfl
@[simp] theorem results_38 : fn38.results = [.tmp 2] := rfl
theorem body_38 : fn38.body = c38 := rfl
@[simp] theorem dyn_38 : fn38.dyn = fun _ => [] := id rfl
@[simp] theorem opn_38 : fn38.opn = fun _ => none := id rfl
@[simp] theorem keep_38_0 : fn38.keep 0 = some [0] := rfl
@[simp] theorem keep_38_1 : fn38.keep 1 = some [0, 5] := rfl
@[simp] theorem keep_38_2 : fn38.keep 2 = some [2] := rfl
@[simp] theorem keep_38_3 : fn38.keep 3 = some [0, 3] := rfl
@[simp] theorem keep_38_4 : fn38.keep 4 = some [0, 3, 10] := rfl
@[simp] theorem keep_38_5 : fn38.keep 5 = some [0, 3] := rfl
@[simp] theorem keep_38_6 : fn38.keep 6 = some [0, 3] := rfl
@[simp] theorem keep_38_7 : fn38.keep 7 = some [2] := rfl
@[simp] theorem head_38_4 : fn38.head 4 = some [0, 3] := rfl
@[simp] theorem ntmps_39 : fn39.ntmps = 13 := rfl
@[simp] theorem results_39 : fn39.results = [.tmp 2] := rfl
theorem body_39 : fn39.body = c39 := rfl
@[simp] theorem dyn_39 : fn39.dyn = fun _ => [] := id rfl
@[simp] theorem opn_39 : fn39.opn = fun _ => none := id rfl
@[simp] theorem keep_39_0 : fn39.keep 0 = some [1] := rfl
@[simp] theorem keep_39_1 : fn39.keep 1 = some [3] := rfl
@[simp] theorem keep_39_2 : fn39.keep 2 = some [2] := rfl
@[simp] theorem ntmps_40 : fn40.ntmps = 83 := rfl
@[simp] theorem results_40 : fn40.results = [.tmp 6, .cell 7 45] := rfl
theorem body_40 : fn40.body = c40 := rfl
@[simp] theorem dyn_40 : fn40.dyn = fun _ => [] := id rfl
@[simp] theorem opn_40 : fn40.opn = opnT := id rfl
@[simp] theorem keep_40_0 : fn40.keep 0 = some [2, 3, 4, 7] := rfl
@[simp] theorem keep_40_1 : fn40.keep 1 = some [2, 3, 4, 7, 13] := rfl
@[simp] theorem keep_40_2 : fn40.keep 2 = some [6, 7] := rfl
@[simp] theorem keep_40_3 : fn40.keep 3 = some [2, 3, 7, 18] := rfl
@[simp] theorem keep_40_4 : fn40.keep 4 = some [6, 7] := rfl
@[simp] theorem keep_40_5 : fn40.keep 5 = some [2, 3, 7, 8] := rfl
@[simp] theorem keep_40_6 : fn40.keep 6 = some [2, 3, 7, 8, 9] := rfl
@[simp] theorem keep_40_7 : fn40.keep 7 = some [3, 7, 8, 9, 27, 28, 29] := rfl
@[simp] theorem keep_40_8 : fn40.keep 8 = some [3, 7, 8, 9, 27, 28, 29, 30] := rfl
@[simp] theorem keep_40_9 : fn40.keep 9 = some [3, 7, 8, 9, 11, 27, 28, 29] := rfl
@[simp] theorem keep_40_10 : fn40.keep 10 = some [3, 7, 8, 9, 11, 12, 27, 28, 29] := rfl
@[simp] theorem keep_40_11 : fn40.keep 11 = some [6, 7] := rfl
@[simp] theorem keep_40_12 : fn40.keep 12 = some [3, 7, 8, 9, 11, 27, 28, 29, 38] := rfl
@[simp] theorem keep_40_13 : fn40.keep 13 = some [3, 7, 8, 9, 27, 28, 29] := rfl
@[simp] theorem keep_40_14 : fn40.keep 14 = some [3, 7, 8, 9, 27, 28, 29] := rfl
@[simp] theorem keep_40_15 : fn40.keep 15 = some [3, 7, 8, 9, 27, 28, 29, 59] := rfl
@[simp] theorem keep_40_16 : fn40.keep 16 = some [3, 7, 8, 9, 27, 28, 29] := rfl
@[simp] theorem keep_40_17 : fn40.keep 17 = some [7, 8, 65] := rfl
@[simp] theorem keep_40_18 : fn40.keep 18 = some [6, 7] := rfl
@[simp] theorem keep_40_19 : fn40.keep 19 = some [3, 7, 8, 9, 27, 28, 29] := rfl
@[simp] theorem keep_40_20 : fn40.keep 20 = some [7, 8, 9, 77] := rfl
@[simp] theorem keep_40_21 : fn40.keep 21 = some [6, 7] := rfl
@[simp] theorem keep_40_22 : fn40.keep 22 = some [6, 7] := rfl
@[simp] theorem head_40_8 : fn40.head 8 = some [3, 7, 8, 9, 27, 28, 29] := rfl
@[simp] theorem ntmps_41 : fn41.ntmps = 22 := rfl
@[simp] theorem results_41 : fn41.results = [.tmp 2, .tmp 3] := rfl
theorem body_41 : fn41.body = c41 := rfl
@[simp] theorem dyn_41 : fn41.dyn = fun _ => [] := id rfl
@[simp] theorem opn_41 : fn41.opn = fun _ => none := id rfl
@[simp] theorem keep_41_0 : fn41.keep 0 = some [0] := rfl
@[simp] theorem keep_41_1 : fn41.keep 1 = some [4, 5] := rfl
@[simp] theorem keep_41_2 : fn41.keep 2 = some [4, 5, 11] := rfl
@[simp] theorem keep_41_3 : fn41.keep 3 = some [2, 3] := rfl
@[simp] theorem keep_41_4 : fn41.keep 4 = some [4, 15] := rfl
@[simp] theorem keep_41_5 : fn41.keep 5 = some [2, 3] := rfl
@[simp] theorem keep_41_6 : fn41.keep 6 = some [4, 18] := rfl
@[simp] theorem keep_41_7 : fn41.keep 7 = some [2, 3] := rfl
@[simp] theorem keep_41_8 : fn41.keep 8 = some [2, 3] := rfl
@[simp] theorem ntmps_42 : fn42.ntmps = 27 := rfl
@[simp] theorem results_42 : fn42.results = [.cell 4 45] := rfl
theorem body_42 : fn42.body = c42 := rfl
@[simp] theorem dyn_42 : fn42.dyn = fun _ => [] := id rfl
@[simp] theorem opn_42 : fn42.opn = fun _ => none := id rfl
@[simp] theorem keep_42_0 : fn42.keep 0 = some [0, 3, 4] := rfl
@[simp] theorem keep_42_1 : fn42.keep 1 = some [0, 3, 4, 8] := rfl
@[simp] theorem keep_42_2 : fn42.keep 2 = some [4] := rfl
@[simp] theorem keep_42_3 : fn42.keep 3 = some [0, 3, 4, 5] := rfl
@[simp] theorem keep_42_4 : fn42.keep 4 = some [3, 4, 5] := rfl
@[simp] theorem keep_42_5 : fn42.keep 5 = some [3, 4, 5] := rfl
@[simp] theorem keep_42_6 : fn42.keep 6 = some [4] := rfl
@[simp] theorem ntmps_43 : fn43.ntmps = 35 := rfl
@[simp] theorem results_43 : fn43.results = [.cell 4 25, .tmp 5, .tmp 6] := rfl
theorem body_43 : fn43.body = c43 := rfl
@[simp] theorem dyn_43 : fn43.dyn = fun _ => [] := id rfl
@[simp] theorem opn_43 : fn43.opn = opnT := id rfl
@[simp] theorem keep_43_0 : fn43.keep 0 = some [0, 1, 4] := rfl
@[simp] theorem keep_43_1 : fn43.keep 1 = some [1, 4, 5, 6, 7] := rfl
@[simp] theorem keep_43_2 : fn43.keep 2 = some [1, 4, 5, 6, 7, 16] := rfl
@[simp] theorem keep_43_3 : fn43.keep 3 = some [4, 5, 6] := rfl
@[simp] theorem keep_43_4 : fn43.keep 4 = some [4, 7, 8] := rfl
@[simp] theorem keep_43_5 : fn43.keep 5 = some [4, 5, 6] := rfl
@[simp] theorem keep_43_6 : fn43.keep 6 = some [4, 5, 6] := rfl
@[simp] theorem ntmps_44 : fn44.ntmps = 35 := rfl
@[simp] theorem results_44 : fn44.results = [.tmp 4, .tmp 5, .tmp 6] := rfl
theorem body_44 : fn44.body = c44 := rfl
@[simp] theorem dyn_44 : fn44.dyn = fun _ => [] := id rfl
@[simp] theorem opn_44 : fn44.opn = opnT := id rfl
@[simp] theorem keep_44_0 : fn44.keep 0 = some [0, 1, 4] := rfl
@[simp] theorem keep_44_1 : fn44.keep 1 = some [1, 4, 5, 6, 7] := rfl
@[simp] theorem keep_44_2 : fn44.keep 2 = some [1, 4, 5, 6, 7, 16] := rfl
@[simp] theorem keep_44_3 : fn44.keep 3 = some [4, 5, 6] := rfl
@[simp] theorem keep_44_4 : fn44.keep 4 = some [4, 7, 8] := rfl
@[simp] theorem keep_44_5 : fn44.keep 5 = some [4, 5, 6] := rfl
@[simp] theorem keep_44_6 : fn44.keep 6 = some [4, 5, 6] := rfl
@[simp] theorem ntmps_45 : fn45.ntmps = 20 := rfl
@[simp] theorem results_45 : fn45.results = [.tmp 2, .cell 3 45] := rfl
theorem body_45 : fn45.body = c45 := rfl
@[simp] theorem dyn_45 : fn45.dyn = fun _ => [] := id rfl
@[simp] theorem opn_45 : fn45.opn = fun _ => none := id rfl
@[simp] theorem keep_45_0 : fn45.keep 0 = some [1, 3] := rfl
@[simp] theorem keep_45_1 : fn45.keep 1 = some [1, 3, 9] := rfl
@[simp] theorem keep_45_2 : fn45.keep 2 = some [2, 3] := rfl
@[simp] theorem keep_45_3 : fn45.keep 3 = some [3, 4, 5] := rfl
@[simp] theorem keep_45_4 : fn45.keep 4 = some [2, 3] := rfl
@[simp] theorem ntmps_46 : fn46.ntmps = 17 := rfl
@[simp] theorem results_46 : fn46.results = [.cell 4 45] := rfl
theorem body_46 : fn46.body = c46 := rfl
@[simp] theorem dyn_46 : fn46.dyn = fun _ => [] := id rfl
@[simp] theorem opn_46 : fn46.opn = fun _ => none := id rfl
@[simp] theorem keep_46_0 : fn46.keep 0 = some [0, 1, 4] := rfl
@[simp] theorem keep_46_1 : fn46.keep 1 = some [1, 4, 5] := rfl
@[simp] theorem keep_46_2 : fn46.keep 2 = some [1, 4, 5, 9] := rfl
@[simp] theorem keep_46_3 : fn46.keep 3 = some [4, 5] := rfl
@[simp] theorem keep_46_4 : fn46.keep 4 = some [4] := rfl
@[simp] theorem ntmps_47 : fn47.ntmps = 83 := rfl
@[simp] theorem results_47 : fn47.results = [.tmp 6, .cell 7 45] := rfl
theorem body_47 : fn47.body = c47 := rfl
@[simp] theorem dyn_47 : fn47.dyn = fun _ => [] := id rfl
@[simp] theorem opn_47 : fn47.opn = fun _ => none := id rfl
@[simp] theorem keep_47_0 : fn47.keep 0 = some [2, 3, 4, 7] := rfl
@[simp] theorem keep_47_1 : fn47.keep 1 = some [2, 3, 4, 7, 13] := rfl
@[simp] theorem keep_47_2 : fn47.keep 2 = some [6, 7] := rfl
@[simp] theorem keep_47_3 : fn47.keep 3 = some [2, 3, 7, 18] := rfl
@[simp] theorem keep_47_4 : fn47.keep 4 = some [6, 7] := rfl
@[simp] theorem keep_47_5 : fn47.keep 5 = some [2, 3, 7, 8] := rfl
@[simp] theorem keep_47_6 : fn47.keep 6 = some [2, 3, 7, 8, 9] := rfl
@[simp] theorem keep_47_7 : fn47.keep 7 = some [2, 3, 7, 8, 9, 10] := rfl
@[simp] theorem keep_47_8 : fn47.keep 8 = some [2, 3, 7, 8, 9, 10, 23] := rfl
@[simp] theorem keep_47_9 : fn47.keep 9 = some [2, 3, 7, 8, 9, 10] := rfl
@[simp] theorem keep_47_10 : fn47.keep 10 = some [2, 3, 7, 8, 9, 10, 51] := rfl
@[simp] theorem keep_47_11 : fn47.keep 11 = some [2, 3, 7, 8, 9, 10] := rfl
@[simp] theorem keep_47_12 : fn47.keep 12 = some [2, 3, 7, 8, 9, 10] := rfl
@[simp] theorem keep_47_13 : fn47.keep 13 = some [2, 3, 7, 8, 9, 10, 62] := rfl
@[simp] theorem keep_47_14 : fn47.keep 14 = some [2, 3, 7, 8, 9, 10] := rfl
@[simp] theorem keep_47_15 : fn47.keep 15 = some [7, 9, 70] := rfl
@[simp] theorem keep_47_16 : fn47.keep 16 = some [6, 7] := rfl
@[simp] theorem keep_47_17 : fn47.keep 17 = some [6, 7] := rfl
@[simp] theorem keep_47_18 : fn47.keep 18 = some [7, 8, 9, 78] := rfl
@[simp] theorem keep_47_19 : fn47.keep 19 = some [6, 7] := rfl
@[simp] theorem keep_47_20 : fn47.keep 20 = some [6, 7] := rfl
@[simp] theorem head_47_8 : fn47.head 8 = some [2, 3, 7, 8, 9, 10] := rfl
@[simp] theorem ntmps_48 : fn48.ntmps = 22 := rfl
@[simp] theorem results_48 : fn48.results = [.cell 2 33, .cell 3 3, .cell 4 3, .cell 5 34] := rfl
@[simp] theorem dyn_48_6 : fn48.dyn 6 = [(1, 2)] := id rfl

@[simp] theorem opn_48 : fn48.opn = opnT := id rfl
@[simp] theorem keep_48_0 : fn48.keep 0 = some [0, 2, 3, 4, 5] := rfl
@[simp] theorem keep_48_1 : fn48.keep 1 = some [0, 2, 3, 4, 5, 9] := rfl
@[simp] theorem keep_48_2 : fn48.keep 2 = some [2, 3, 4, 5] := rfl
@[simp] theorem keep_48_3 : fn48.keep 3 = some [0, 2, 3, 4, 5] := rfl
@[simp] theorem keep_48_4 : fn48.keep 4 = some [0, 2, 3, 4, 5, 6] := rfl
@[simp] theorem keep_48_5 : fn48.keep 5 = some [2, 3, 4, 5] := rfl
@[simp] theorem keep_48_6 : fn48.keep 6 = some [2, 3, 4, 5] := rfl
@[simp] theorem ntmps_49 : fn49.ntmps = 88 := rfl
@[simp] theorem results_49 : fn49.results = [.tmp 2] := rfl
theorem body_49 : fn49.body = c49 := rfl
@[simp] theorem dyn_49 : fn49.dyn = fun _ => [] := id rfl
@[simp] theorem opn_49 : fn49.opn = fun _ => none := id rfl
@[simp] theorem keep_49_0 : fn49.keep 0 = some [1] := rfl
@[simp] theorem keep_49_1 : fn49.keep 1 = some [1, 3] := rfl
@[simp] theorem keep_49_2 : fn49.keep 2 = some [1, 3, 4] := rfl
@[simp] theorem keep_49_3 : fn49.keep 3 = some [1, 3, 4, 17] := rfl
@[simp] theorem keep_49_4 : fn49.keep 4 = some [1, 3, 4] := rfl
@[simp] theorem keep_49_5 : fn49.keep 5 = some [1, 3, 4] := rfl
@[simp] theorem keep_49_6 : fn49.keep 6 = some [1, 3, 5] := rfl
@[simp] theorem keep_49_7 : fn49.keep 7 = some [1, 3, 5, 34] := rfl
@[simp] theorem keep_49_8 : fn49.keep 8 = some [1, 3, 5] := rfl
@[simp] theorem keep_49_9 : fn49.keep 9 = some [1, 3, 6] := rfl
@[simp] theorem keep_49_10 : fn49.keep 10 = some [1, 3, 6, 48] := rfl
@[simp] theorem keep_49_11 : fn49.keep 11 = some [3, 6] := rfl
@[simp] theorem keep_49_12 : fn49.keep 12 = some [3, 6, 7] := rfl
@[simp] theorem keep_49_13 : fn49.keep 13 = some [3, 6, 7, 58] := rfl
@[simp] theorem keep_49_14 : fn49.keep 14 = some [3, 6] := rfl
@[simp] theorem keep_49_15 : fn49.keep 15 = some [3, 6, 7, 8] := rfl
@[simp] theorem keep_49_16 : fn49.keep 16 = some [3, 6, 8, 9] := rfl
@[simp] theorem keep_49_17 : fn49.keep 17 = some [3, 6, 8, 9, 66] := rfl
@[simp] theorem keep_49_18 : fn49.keep 18 = some [3, 6, 8, 9] := rfl
@[simp] theorem keep_49_19 : fn49.keep 19 = some [3, 6, 8, 9] := rfl
@[simp] theorem keep_49_20 : fn49.keep 20 = some [3, 6, 8] := rfl
@[simp] theorem keep_49_21 : fn49.keep 21 = some [3, 6] := rfl
@[simp] theorem keep_49_22 : fn49.keep 22 = some [2] := rfl
@[simp] theorem head_49_3 : fn49.head 3 = some [1, 3, 4] := rfl
@[simp] theorem head_49_17 : fn49.head 17 = some [3, 6, 8, 9] := rfl
@[simp] theorem ntmps_50 : fn50.ntmps = 38 := rfl
@[simp] theorem results_50 : fn50.results = [.tmp 2, .tmp 3] := rfl
theorem body_50 : fn50.body = c50 := rfl
@[simp] theorem dyn_50 : fn50.dyn = fun _ => [] := id rfl
@[simp] theorem opn_50 : fn50.opn = fun _ => none := id rfl
@[simp] theorem keep_50_0 : fn50.keep 0 = some [0] := rfl
@[simp] theorem keep_50_1 : fn50.keep 1 = some [0, 7] := rfl
@[simp] theorem keep_50_2 : fn50.keep 2 = some [2, 3] := rfl
@[simp] theorem keep_50_3 : fn50.keep 3 = some [0, 15] := rfl
@[simp] theorem keep_50_4 : fn50.keep 4 = some [2, 3] := rfl
@[simp] theorem keep_50_5 : fn50.keep 5 = some [0, 4] := rfl
@[simp] theorem keep_50_6 : fn50.keep 6 = some [4, 25, 26, 27] := rfl
@[simp] theorem keep_50_7 : fn50.keep 7 = some [4, 25, 26, 27, 28] := rfl
@[simp] theorem keep_50_8 : fn50.keep 8 = some [4, 6, 25, 26, 27] := rfl
@[simp] theorem keep_50_9 : fn50.keep 9 = some [4, 25, 26, 27] := rfl
@[simp] theorem keep_50_10 : fn50.keep 10 = some [4, 25, 26, 27] := rfl
@[simp] theorem keep_50_11 : fn50.keep 11 = some [2, 3] := rfl
@[simp] theorem head_50_7 : fn50.head 7 = some [4, 25, 26, 27] := rfl
@[simp] theorem ntmps_51 : fn51.ntmps = 30 := rfl
@[simp] theorem results_51 : fn51.results = [.tmp 2] := rfl
theorem body_51 : fn51.body = c51 := rfl
@[simp] theorem dyn_51 : fn51.dyn = fun _ => [] := id rfl
@[simp] theorem opn_51 : fn51.opn = fun _ => none := id rfl
@[simp] theorem keep_51_0 : fn51.keep 0 = some [0] := rfl
@[simp] theorem keep_51_1 : fn51.keep 1 = some [2] := rfl
@[simp] theorem ntmps_52 : fn52.ntmps = 9 := rfl
@[simp] theorem results_52 : fn52.results = [.tmp 2] := rfl
theorem body_52 : fn52.body = c52 := rfl
@[simp] theorem dyn_52 : fn52.dyn = fun _ => [] := id rfl
@[simp] theorem opn_52 : fn52.opn = fun _ => none := id rfl
@[simp] theorem keep_52_0 : fn52.keep 0 = some [0] := rfl
@[simp] theorem keep_52_1 : fn52.keep 1 = some [2] := rfl
@[simp] theorem ntmps_53 : fn53.ntmps = 14 := rfl
@[simp] theorem results_53 : fn53.results = [.tmp 2] := rfl
theorem body_53 : fn53.body = c53 := rfl
@[simp] theorem dyn_53 : fn53.dyn = fun _ => [] := id rfl
@[simp] theorem opn_53 : fn53.opn = fun _ => none := id rfl
@[simp] theorem keep_53_0 : fn53.keep 0 = some [1] := rfl
@[simp] theorem keep_53_1 : fn53.keep 1 = some [1, 3] := rfl
@[simp] theorem keep_53_2 : fn53.keep 2 = some [1, 3, 7] := rfl
@[simp] theorem keep_53_3 : fn53.keep 3 = some [2] := rfl
@[simp] theorem keep_53_4 : fn53.keep 4 = some [2] := rfl
@[simp] theorem ntmps_54 : fn54.ntmps = 44 := rfl
@[simp] theorem results_54 : fn54.results = [.tmp 4] := rfl
theorem body_54 : fn54.body = c54 := rfl
@[simp] theorem dyn_54 : fn54.dyn = fun _ => [] := id rfl
@[simp] theorem opn_54 : fn54.opn = opnT := id rfl
@[simp] theorem keep_54_0 : fn54.keep 0 = some [0, 3] := rfl
@[simp] theorem keep_54_1 : fn54.keep 1 = some [0, 3, 5] := rfl
@[simp] theorem keep_54_2 : fn54.keep 2 = some [0, 3, 5, 7] := rfl
@[simp] theorem keep_54_3 : fn54.keep 3 = some [0, 3] := rfl
@[simp] theorem keep_54_4 : fn54.keep 4 = some [0, 3] := rfl
@[simp] theorem keep_54_5 : fn54.keep 5 = some [0, 33, 34, 35] := rfl
@[simp] theorem keep_54_6 : fn54.keep 6 = some [0, 33, 34, 35, 36] := rfl
@[simp] theorem keep_54_7 : fn54.keep 7 = some [0, 10, 33, 34, 35] := rfl
@[simp] theorem keep_54_8 : fn54.keep 8 = some [0, 33, 34, 35] := rfl
@[simp] theorem keep_54_9 : fn54.keep 9 = some [0, 33, 34, 35] := rfl
@[simp] theorem keep_54_10 : fn54.keep 10 = some [4] := rfl
@[simp] theorem head_54_6 : fn54.head 6 = some [0, 33, 34, 35] := rfl
@[simp] theorem ntmps_55 : fn55.ntmps = 22 := rfl
@[simp] theorem results_55 : fn55.results = [.tmp 2] := rfl
theorem body_55 : fn55.body = c55 := rfl
@[simp] theorem dyn_55 : fn55.dyn = fun _ => [] := id rfl
@[simp] theorem opn_55 : fn55.opn = fun _ => none := id rfl
@[simp] theorem keep_55_0 : fn55.keep 0 = some [0] := rfl
@[simp] theorem keep_55_1 : fn55.keep 1 = some [0, 3] := rfl
@[simp] theorem keep_55_2 : fn55.keep 2 = some [0, 3] := rfl
@[simp] theorem keep_55_3 : fn55.keep 3 = some [0, 3, 11] := rfl
@[simp] theorem keep_55_4 : fn55.keep 4 = some [0, 3] := rfl
@[simp] theorem keep_55_5 : fn55.keep 5 = some [0, 3] := rfl
@[simp] theorem keep_55_6 : fn55.keep 6 = some [2] := rfl
@[simp] theorem head_55_3 : fn55.head 3 = some [0, 3] := rfl
@[simp] theorem ntmps_56 : fn56.ntmps = 13 := rfl
@[simp] theorem results_56 : fn56.results = [.tmp 2, .cell 3 3, .cell 4 3] := rfl
theorem body_56 : fn56.body = c56 := rfl
@[simp] theorem dyn_56_4 : fn56.dyn 4 = [(1, 3)] := id rfl

@[simp] theorem opn_56 : fn56.opn = opnT := id rfl
@[simp] theorem keep_56_0 : fn56.keep 0 = some [1, 3, 4] := rfl
@[simp] theorem keep_56_1 : fn56.keep 1 = some [2, 3, 4] := rfl
@[simp] theorem keep_56_2 : fn56.keep 2 = some [2, 3, 4, 9] := rfl
@[simp] theorem keep_56_3 : fn56.keep 3 = some [2, 3, 4] := rfl
@[simp] theorem keep_56_4 : fn56.keep 4 = some [2, 3, 4] := rfl
@[simp] theorem ntmps_57 : fn57.ntmps = 9 := rfl
@[simp] theorem results_57 : fn57.results = [.cell 4 45] := rfl
theorem body_57 : fn57.body = c57 := rfl
@[simp] theorem dyn_57 : fn57.dyn = fun _ => [] := id rfl
@[simp] theorem opn_57 : fn57.opn = fun _ => none := id rfl
@[simp] theorem keep_57_0 : fn57.keep 0 = some [0, 1, 4] := rfl
@[simp] theorem keep_57_1 : fn57.keep 1 = some [4] := rfl
@[simp] theorem ntmps_58 : fn58.ntmps = 14 := rfl
@[simp] theorem results_58 : fn58.results = [.tmp 4] := rfl
theorem body_58 : fn58.body = c58 := rfl
@[simp] theorem dyn_58 : fn58.dyn = fun _ => [] := id rfl
@[simp] theorem opn_58 : fn58.opn = fun _ => none := id rfl
@[simp] theorem keep_58_0 : fn58.keep 0 = some [2, 3] := rfl
@[simp] theorem keep_58_1 : fn58.keep 1 = some [4] := rfl
@[simp] theorem ntmps_59 : fn59.ntmps = 21 := rfl
@[simp] theorem results_59 : fn59.results = [.tmp 4, .tmp 5] := rfl
theorem body_59 : fn59.body = c59 := rfl
@[simp] theorem dyn_59 : fn59.dyn = fun _ => [] := id rfl
@[simp] theorem opn_59 : fn59.opn = fun _ => none := id rfl
@[simp] theorem keep_59_0 : fn59.keep 0 = some [2, 3] := rfl
@[simp] theorem keep_59_1 : fn59.keep 1 = some [2, 3, 10] := rfl
@[simp] theorem keep_59_2 : fn59.keep 2 = some [4, 5] := rfl
@[simp] theorem keep_59_3 : fn59.keep 3 = some [3, 6] := rfl
@[simp] theorem keep_59_4 : fn59.keep 4 = some [4, 5] := rfl
@[simp] theorem ntmps_60 : fn60.ntmps = 23 := rfl
@[simp] theorem results_60 : fn60.results = [] := rfl
theorem body_60 : fn60.body = c60 := rfl
@[simp] theorem dyn_60_5 : fn60.dyn 5 = [(2, 5), (4, 5), (2, 6), (4, 6), (4, 7)] := id rfl

@[simp] theorem opn_60 : fn60.opn = fun _ => none := id rfl
@[simp] theorem keep_60_0 : fn60.keep 0 = some [0, 1, 2, 3, 4] := rfl
@[simp] theorem keep_60_1 : fn60.keep 1 = some [0, 1, 2, 3, 4, 9] := rfl
@[simp] theorem keep_60_2 : fn60.keep 2 = some [0, 1, 2, 3, 4, 5, 6] := rfl
@[simp] theorem keep_60_3 : fn60.keep 3 = some [0, 1, 2, 3, 4, 5, 16] := rfl
@[simp] theorem keep_60_4 : fn60.keep 4 = some [0, 1, 2, 3, 5] := rfl
@[simp] theorem keep_60_5 : fn60.keep 5 = some [] := rfl
@[simp] theorem ntmps_61 : fn61.ntmps = 151 := rfl
@[simp] theorem results_61 : fn61.results = [.cell 8 33, .tmp 9] := rfl
theorem body_61 : fn61.body = c61 := rfl
@[simp] theorem dyn_61 : fn61.dyn = fun _ => [] := id rfl
@[simp] theorem opn_61 : fn61.opn = opnT := id rfl
@[simp] theorem keep_61_0 : fn61.keep 0 = some [0, 1, 2, 3, 8] := rfl
@[simp] theorem keep_61_1 : fn61.keep 1 = some [0, 1, 2, 3, 8, 10, 11, 12] := rfl
@[simp] theorem keep_61_2 : fn61.keep 2 = some [0, 1, 2, 3, 8, 10, 11, 12, 28] := rfl
@[simp] theorem keep_61_3 : fn61.keep 3 = some [0, 1, 2, 3, 8, 10, 11] := rfl
@[simp] theorem keep_61_4 : fn61.keep 4 = some [0, 1, 2, 3, 8, 10, 11, 12, 35] := rfl
@[simp] theorem keep_61_5 : fn61.keep 5 = some [0, 1, 2, 3, 8, 10, 11] := rfl
@[simp] theorem keep_61_6 : fn61.keep 6 = some [0, 1, 2, 3, 8, 10, 11, 42] := rfl
@[simp] theorem keep_61_7 : fn61.keep 7 = some [0, 1, 2, 3, 8, 10, 11] := rfl
@[simp] theorem keep_61_8 : fn61.keep 8 = some [0, 1, 2, 3, 8, 10, 11, 48] := rfl
@[simp] theorem keep_61_9 : fn61.keep 9 = some [0, 1, 2, 3, 8, 10, 11] := rfl
@[simp] theorem keep_61_10 : fn61.keep 10 = some [0, 1, 2, 3, 8, 10, 11] := rfl
@[simp] theorem keep_61_11 : fn61.keep 11 = some [0, 1, 2, 3, 8, 10] := rfl
@[simp] theorem keep_61_12 : fn61.keep 12 = some [0, 1, 2, 3, 8, 10, 11, 12, 13] := rfl
@[simp] theorem keep_61_13 : fn61.keep 13 = some [0, 1, 2, 3, 8, 10, 11, 12, 13, 79] := rfl
@[simp] theorem keep_61_14 : fn61.keep 14 = some [0, 1, 3, 8, 10, 11, 13] := rfl
@[simp] theorem keep_61_15 : fn61.keep 15 = some [0, 1, 2, 3, 8, 10, 11, 12, 13, 86] := rfl
@[simp] theorem keep_61_16 : fn61.keep 16 = some [0, 1, 3, 8, 10, 11, 13] := rfl
@[simp] theorem keep_61_17 : fn61.keep 17 = some [0, 1, 2, 3, 8, 10, 11, 13, 93] := rfl
@[simp] theorem keep_61_18 : fn61.keep 18 = some [0, 1, 3, 8, 10, 11, 13] := rfl
@[simp] theorem keep_61_19 : fn61.keep 19 = some [0, 1, 3, 8, 10, 13] := rfl
@[simp] theorem keep_61_20 : fn61.keep 20 = some [0, 1, 2, 3, 8, 10] := rfl
@[simp] theorem keep_61_21 : fn61.keep 21 = some [0, 1, 2, 3, 8, 10, 14] := rfl
@[simp] theorem keep_61_22 : fn61.keep 22 = some [0, 1, 2, 3, 8, 14, 114] := rfl
@[simp] theorem keep_61_23 : fn61.keep 23 = some [2, 8, 14] := rfl
@[simp] theorem keep_61_24 : fn61.keep 24 = some [8, 9] := rfl
@[simp] theorem keep_61_25 : fn61.keep 25 = some [0, 1, 2, 3, 8, 14, 129] := rfl
@[simp] theorem keep_61_26 : fn61.keep 26 = some [0, 1, 2, 3, 8, 14, 15] := rfl
@[simp] theorem keep_61_27 : fn61.keep 27 = some [0, 1, 2, 3, 8, 14, 15] := rfl
@[simp] theorem keep_61_28 : fn61.keep 28 = some [0, 1, 2, 3, 8, 14] := rfl
@[simp] theorem keep_61_29 : fn61.keep 29 = some [2, 8, 14] := rfl
@[simp] theorem keep_61_30 : fn61.keep 30 = some [8, 9] := rfl
@[simp] theorem head_61_25 : fn61.head 25 = some [0, 1, 2, 3, 8, 14] := rfl
@[simp] theorem ntmps_62 : fn62.ntmps = 22 := rfl
@[simp] theorem results_62 : fn62.results = [.tmp 2] := rfl
theorem body_62 : fn62.body = c62 := rfl
@[simp] theorem dyn_62 : fn62.dyn = fun _ => [] := id rfl
@[simp] theorem opn_62 : fn62.opn = fun _ => none := id rfl
@[simp] theorem keep_62_0 : fn62.keep 0 = some [0] := rfl
@[simp] theorem keep_62_1 : fn62.keep 1 = some [0, 3] := rfl
@[simp] theorem keep_62_2 : fn62.keep 2 = some [0, 3] := rfl
@[simp] theorem keep_62_3 : fn62.keep 3 = some [0, 3, 11] := rfl
@[simp] theorem keep_62_4 : fn62.keep 4 = some [0, 3] := rfl
@[simp] theorem keep_62_5 : fn62.keep 5 = some [0, 3] := rfl
@[simp] theorem keep_62_6 : fn62.keep 6 = some [2] := rfl
@[simp] theorem head_62_3 : fn62.head 3 = some [0, 3] := rfl
@[simp] theorem ntmps_63 : fn63.ntmps = 27 := rfl
@[simp] theorem results_63 : fn63.results = [.tmp 2] := rfl
theorem body_63 : fn63.body = c63 := rfl
@[simp] theorem dyn_63 : fn63.dyn = fun _ => [] := id rfl
@[simp] theorem opn_63 : fn63.opn = fun _ => none := id rfl
@[simp] theorem keep_63_0 : fn63.keep 0 = some [1] := rfl
@[simp] theorem keep_63_1 : fn63.keep 1 = some [1, 9] := rfl
@[simp] theorem keep_63_2 : fn63.keep 2 = some [2] := rfl
@[simp] theorem keep_63_3 : fn63.keep 3 = some [1, 3] := rfl
@[simp] theorem keep_63_4 : fn63.keep 4 = some [3, 14, 15, 16] := rfl
@[simp] theorem keep_63_5 : fn63.keep 5 = some [3, 14, 15, 16, 17] := rfl
@[simp] theorem keep_63_6 : fn63.keep 6 = some [3, 5, 14, 15, 16] := rfl
@[simp] theorem keep_63_7 : fn63.keep 7 = some [3, 14, 15, 16] := rfl
@[simp] theorem keep_63_8 : fn63.keep 8 = some [3, 14, 15, 16] := rfl
@[simp] theorem keep_63_9 : fn63.keep 9 = some [2] := rfl
@[simp] theorem head_63_5 : fn63.head 5 = some [3, 14, 15, 16] := rfl
@[simp] theorem ntmps_64 : fn64.ntmps = 22 := rfl
@[simp] theorem results_64 : fn64.results = [.tmp 4] := rfl
theorem body_64 : fn64.body = c64 := rfl
@[simp] theorem dyn_64 : fn64.dyn = fun _ => [] := id rfl
@[simp] theorem opn_64 : fn64.opn = fun _ => none := id rfl
@[simp] theorem keep_64_0 : fn64.keep 0 = some [0, 1] := rfl
@[simp] theorem keep_64_1 : fn64.keep 1 = some [0, 1, 15] := rfl
@[simp] theorem keep_64_2 : fn64.keep 2 = some [4] := rfl
@[simp] theorem keep_64_3 : fn64.keep 3 = some [4] := rfl
@[simp] theorem ntmps_65 : fn65.ntmps = 12 := rfl
@[simp] theorem results_65 : fn65.results = [.tmp 2] := rfl
theorem body_65 : fn65.body = c65 := rfl
@[simp] theorem dyn_65 : fn65.dyn = fun _ => [] := id rfl
@[simp] theorem opn_65 : fn65.opn = fun _ => none := id rfl
@[simp] theorem keep_65_0 : fn65.keep 0 = some [1] := rfl
@[simp] theorem keep_65_1 : fn65.keep 1 = some [3] := rfl
@[simp] theorem keep_65_2 : fn65.keep 2 = some [2] := rfl
@[simp] theorem ntmps_66 : fn66.ntmps = 42 := rfl
@[simp] theorem results_66 : fn66.results = [.tmp 2, .tmp 3] := rfl
theorem body_66 : fn66.body = c66 := rfl
@[simp] theorem dyn_66 : fn66.dyn = fun _ => [] := id rfl
@[simp] theorem opn_66 : fn66.opn = fun _ => none := id rfl
@[simp] theorem keep_66_0 : fn66.keep 0 = some [1, 35] := rfl
@[simp] theorem keep_66_1 : fn66.keep 1 = some [1, 4, 35] := rfl
@[simp] theorem keep_66_2 : fn66.keep 2 = some [1, 4, 11, 35] := rfl
@[simp] theorem keep_66_3 : fn66.keep 3 = some [2, 3] := rfl
@[simp] theorem keep_66_4 : fn66.keep 4 = some [1, 5, 35] := rfl
@[simp] theorem keep_66_5 : fn66.keep 5 = some [1, 5, 17, 35] := rfl
@[simp] theorem keep_66_6 : fn66.keep 6 = some [1, 5, 35] := rfl
@[simp] theorem keep_66_7 : fn66.keep 7 = some [1, 5, 22, 35] := rfl
@[simp] theorem keep_66_8 : fn66.keep 8 = some [2, 3] := rfl
@[simp] theorem keep_66_9 : fn66.keep 9 = some [1, 6, 35] := rfl
@[simp] theorem keep_66_10 : fn66.keep 10 = some [6, 34, 35] := rfl
@[simp] theorem keep_66_11 : fn66.keep 11 = some [6, 7, 35] := rfl
@[simp] theorem keep_66_12 : fn66.keep 12 = some [6, 35] := rfl
@[simp] theorem keep_66_13 : fn66.keep 13 = some [2, 3] := rfl
@[simp] theorem ntmps_67 : fn67.ntmps = 50 := rfl
@[simp] theorem results_67 : fn67.results = [.tmp 2, .tmp 3] := rfl
theorem body_67 : fn67.body = c67 := rfl
@[simp] theorem dyn_67 : fn67.dyn = fun _ => [] := id rfl
@[simp] theorem opn_67 : fn67.opn = fun _ => none := id rfl
@[simp] theorem keep_67_0 : fn67.keep 0 = some [0] := rfl
@[simp] theorem keep_67_1 : fn67.keep 1 = some [0, 5] := rfl
@[simp] theorem keep_67_2 : fn67.keep 2 = some [2, 3] := rfl
@[simp] theorem keep_67_3 : fn67.keep 3 = some [0, 8] := rfl
@[simp] theorem keep_67_4 : fn67.keep 4 = some [2, 3] := rfl
@[simp] theorem keep_67_5 : fn67.keep 5 = some [0, 11] := rfl
@[simp] theorem keep_67_6 : fn67.keep 6 = some [2, 3] := rfl
@[simp] theorem keep_67_7 : fn67.keep 7 = some [0, 4] := rfl
@[simp] theorem keep_67_8 : fn67.keep 8 = some [0, 4, 18] := rfl
@[simp] theorem keep_67_9 : fn67.keep 9 = some [0, 4, 21] := rfl
@[simp] theorem keep_67_10 : fn67.keep 10 = some [0, 4] := rfl
@[simp] theorem keep_67_11 : fn67.keep 11 = some [0, 4] := rfl
@[simp] theorem keep_67_12 : fn67.keep 12 = some [4] := rfl
@[simp] theorem keep_67_13 : fn67.keep 13 = some [4] := rfl
@[simp] theorem keep_67_14 : fn67.keep 14 = some [2, 3] := rfl
@[simp] theorem ntmps_68 : fn68.ntmps = 10 := rfl
@[simp] theorem results_68 : fn68.results = [.tmp 4] := rfl
theorem body_68 : fn68.body = c68 := rfl
@[simp] theorem dyn_68 : fn68.dyn = fun _ => [] := id rfl
@[simp] theorem opn_68 : fn68.opn = opnT := id rfl
@[simp] theorem keep_68_0 : fn68.keep 0 = some [2, 3] := rfl
@[simp] theorem keep_68_1 : fn68.keep 1 = some [2, 3, 5] := rfl
@[simp] theorem keep_68_2 : fn68.keep 2 = some [2, 5] := rfl
@[simp] theorem keep_68_3 : fn68.keep 3 = some [4] := rfl
@[simp] theorem ntmps_69 : fn69.ntmps = 47 := rfl
@[simp] theorem results_69 : fn69.results = [.tmp 6] := rfl
theorem body_69 : fn69.body = c69 := rfl
@[simp] theorem dyn_69 : fn69.dyn = fun _ => [] := id rfl
@[simp] theorem opn_69 : fn69.opn = fun _ => none := id rfl
@[simp] theorem keep_69_0 : fn69.keep 0 = some [1, 2, 3, 4] := rfl
@[simp] theorem keep_69_1 : fn69.keep 1 = some [1, 2, 3, 4, 7] := rfl
@[simp] theorem keep_69_2 : fn69.keep 2 = some [1, 2, 3, 4, 7, 12] := rfl
@[simp] theorem keep_69_3 : fn69.keep 3 = some [6] := rfl
@[simp] theorem keep_69_4 : fn69.keep 4 = some [1, 2, 3, 14] := rfl
@[simp] theorem keep_69_5 : fn69.keep 5 = some [6] := rfl
@[simp] theorem keep_69_6 : fn69.keep 6 = some [1, 2, 3, 36] := rfl
@[simp] theorem keep_69_7 : fn69.keep 7 = some [6] := rfl
@[simp] theorem keep_69_8 : fn69.keep 8 = some [1, 2, 3, 39] := rfl
@[simp] theorem keep_69_9 : fn69.keep 9 = some [6] := rfl
@[simp] theorem keep_69_10 : fn69.keep 10 = some [1, 3] := rfl
@[simp] theorem keep_69_11 : fn69.keep 11 = some [] := rfl
@[simp] theorem keep_69_12 : fn69.keep 12 = some [6] := rfl
@[simp] theorem ntmps_70 : fn70.ntmps = 24 := rfl
@[simp] theorem results_70 : fn70.results = [.tmp 2] := rfl
theorem body_70 : fn70.body = c70 := rfl
@[simp] theorem dyn_70 : fn70.dyn = fun _ => [] := id rfl
@[simp] theorem opn_70 : fn70.opn = fun _ => none := id rfl
@[simp] theorem keep_70_0 : fn70.keep 0 = some [1] := rfl
@[simp] theorem keep_70_1 : fn70.keep 1 = some [1, 10] := rfl
@[simp] theorem keep_70_2 : fn70.keep 2 = some [2] := rfl
@[simp] theorem keep_70_3 : fn70.keep 3 = some [1, 13] := rfl
@[simp] theorem keep_70_4 : fn70.keep 4 = some [2] := rfl
@[simp] theorem keep_70_5 : fn70.keep 5 = some [1, 15] := rfl
@[simp] theorem keep_70_6 : fn70.keep 6 = some [1, 15, 16] := rfl
@[simp] theorem keep_70_7 : fn70.keep 7 = some [2] := rfl
@[simp] theorem keep_70_8 : fn70.keep 8 = some [1, 15, 18] := rfl
@[simp] theorem keep_70_9 : fn70.keep 9 = some [1, 18] := rfl
@[simp] theorem keep_70_10 : fn70.keep 10 = some [23] := rfl
@[simp] theorem keep_70_11 : fn70.keep 11 = some [2] := rfl
@[simp] theorem keep_70_12 : fn70.keep 12 = some [2] := rfl
@[simp] theorem ntmps_71 : fn71.ntmps = 9 := rfl
@[simp] theorem results_71 : fn71.results = [.tmp 2] := rfl
theorem body_71 : fn71.body = c71 := rfl
@[simp] theorem dyn_71 : fn71.dyn = fun _ => [] := id rfl
@[simp] theorem opn_71 : fn71.opn = fun _ => none := id rfl
@[simp] theorem keep_71_0 : fn71.keep 0 = some [0] := rfl
@[simp] theorem keep_71_1 : fn71.keep 1 = some [2] := rfl
@[simp] theorem ntmps_72 : fn72.ntmps = 49 := rfl
@[simp] theorem results_72 : fn72.results = [.tmp 4, .tmp 5] := rfl
theorem body_72 : fn72.body = c72 := rfl
@[simp] theorem dyn_72 : fn72.dyn = fun _ => [] := id rfl
@[simp] theorem opn_72 : fn72.opn = fun _ => none := id rfl
@[simp] theorem keep_72_0 : fn72.keep 0 = some [1, 2] := rfl
@[simp] theorem keep_72_1 : fn72.keep 1 = some [1, 2, 7] := rfl
@[simp] theorem keep_72_2 : fn72.keep 2 = some [1, 2, 7, 19] := rfl
@[simp] theorem keep_72_3 : fn72.keep 3 = some [4, 5] := rfl
@[simp] theorem keep_72_4 : fn72.keep 4 = some [1, 2, 8] := rfl
@[simp] theorem keep_72_5 : fn72.keep 5 = some [2, 8, 21, 22, 23] := rfl
@[simp] theorem keep_72_6 : fn72.keep 6 = some [2, 8, 21, 22, 23, 24] := rfl
@[simp] theorem keep_72_7 : fn72.keep 7 = some [2, 8, 10, 21, 22, 23] := rfl
@[simp] theorem keep_72_8 : fn72.keep 8 = some [2, 8, 10, 11, 12, 21, 22, 23] := rfl
@[simp] theorem keep_72_9 : fn72.keep 9 = some [2, 8, 10, 11, 21, 22, 23, 34] := rfl
@[simp] theorem keep_72_10 : fn72.keep 10 = some [4, 5] := rfl
@[simp] theorem keep_72_11 : fn72.keep 11 = some [2, 8, 11, 21, 22, 23] := rfl
@[simp] theorem keep_72_12 : fn72.keep 12 = some [2, 8, 21, 22, 23] := rfl
@[simp] theorem keep_72_13 : fn72.keep 13 = some [2, 8, 21, 22, 23] := rfl
@[simp] theorem keep_72_14 : fn72.keep 14 = some [4, 5] := rfl
@[simp] theorem head_72_6 : fn72.head 6 = some [2, 8, 21, 22, 23] := rfl
@[simp] theorem ntmps_73 : fn73.ntmps = 44 := rfl
@[simp] theorem results_73 : fn73.results = [.cell 2 29, .tmp 3, .tmp 4] := rfl
theorem body_73 : fn73.body = c73 := rfl
@[simp] theorem dyn_73 : fn73.dyn = fun _ => [] := id rfl
@[simp] theorem opn_73 : fn73.opn = fun _ => none := id rfl
@[simp] theorem keep_73_0 : fn73.keep 0 = some [0, 2, 4] := rfl
@[simp] theorem keep_73_1 : fn73.keep 1 = some [0, 2, 4, 7] := rfl
@[simp] theorem keep_73_2 : fn73.keep 2 = some [2, 3, 4] := rfl
@[simp] theorem keep_73_3 : fn73.keep 3 = some [0, 2, 4] := rfl
@[simp] theorem keep_73_4 : fn73.keep 4 = some [0, 2, 3, 4] := rfl
@[simp] theorem keep_73_5 : fn73.keep 5 = some [0, 2, 3, 4, 26] := rfl
@[simp] theorem keep_73_6 : fn73.keep 6 = some [2, 3, 4] := rfl
@[simp] theorem keep_73_7 : fn73.keep 7 = some [2, 3, 4, 35] := rfl
@[simp] theorem keep_73_8 : fn73.keep 8 = some [2, 3, 4] := rfl
@[simp] theorem keep_73_9 : fn73.keep 9 = some [2, 3, 4, 39] := rfl
@[simp] theorem keep_73_10 : fn73.keep 10 = some [2, 3, 4] := rfl
@[simp] theorem keep_73_11 : fn73.keep 11 = some [2, 3, 4] := rfl
@[simp] theorem ntmps_74 : fn74.ntmps = 65 := rfl
@[simp] theorem results_74 : fn74.results = [.tmp 2, .tmp 3, .tmp 4] := rfl
theorem body_74 : fn74.body = c74 := rfl
@[simp] theorem dyn_74 : fn74.dyn = fun _ => [] := id rfl
@[simp] theorem opn_74 : fn74.opn = fun _ => none := id rfl
@[simp] theorem keep_74_0 : fn74.keep 0 = some [0] := rfl
@[simp] theorem keep_74_1 : fn74.keep 1 = some [0, 9] := rfl
@[simp] theorem keep_74_2 : fn74.keep 2 = some [2, 3, 4] := rfl
@[simp] theorem keep_74_3 : fn74.keep 3 = some [0, 13] := rfl
@[simp] theorem keep_74_4 : fn74.keep 4 = some [2, 3, 4] := rfl
@[simp] theorem keep_74_5 : fn74.keep 5 = some [0, 5] := rfl
@[simp] theorem keep_74_6 : fn74.keep 6 = some [0, 5, 6] := rfl
@[simp] theorem keep_74_7 : fn74.keep 7 = some [0, 5, 6, 23] := rfl
@[simp] theorem keep_74_8 : fn74.keep 8 = some [2, 3, 4] := rfl
@[simp] theorem keep_74_9 : fn74.keep 9 = some [0, 5, 6, 30] := rfl
@[simp] theorem keep_74_10 : fn74.keep 10 = some [2, 3, 4] := rfl
@[simp] theorem keep_74_11 : fn74.keep 11 = some [0, 5, 6] := rfl
@[simp] theorem keep_74_12 : fn74.keep 12 = some [0, 2, 6] := rfl
@[simp] theorem keep_74_13 : fn74.keep 13 = some [2, 6, 61] := rfl
@[simp] theorem keep_74_14 : fn74.keep 14 = some [2, 3, 4] := rfl
@[simp] theorem keep_74_15 : fn74.keep 15 = some [2, 3, 4] := rfl
@[simp] theorem ntmps_75 : fn75.ntmps = 8 := rfl
@[simp] theorem results_75 : fn75.results = [.tmp 2] := rfl
theorem body_75 : fn75.body = c75 := rfl
@[simp] theorem dyn_75 : fn75.dyn = fun _ => [] := id rfl
@[simp] theorem opn_75 : fn75.opn = fun _ => none := id rfl
@[simp] theorem keep_75_0 : fn75.keep 0 = some [0] := rfl
@[simp] theorem keep_75_1 : fn75.keep 1 = some [0, 4] := rfl
@[simp] theorem keep_75_2 : fn75.keep 2 = some [2] := rfl
@[simp] theorem keep_75_3 : fn75.keep 3 = some [2] := rfl
@[simp] theorem ntmps_76 : fn76.ntmps = 12 := rfl
@[simp] theorem results_76 : fn76.results = [.tmp 2] := rfl
theorem body_76 : fn76.body = c76 := rfl
@[simp] theorem dyn_76 : fn76.dyn = fun _ => [] := id rfl
@[simp] theorem opn_76 : fn76.opn = fun _ => none := id rfl
@[simp] theorem keep_76_0 : fn76.keep 0 = some [0] := rfl
@[simp] theorem keep_76_1 : fn76.keep 1 = some [3] := rfl
@[simp] theorem keep_76_2 : fn76.keep 2 = some [2] := rfl
@[simp] theorem ntmps_77 : fn77.ntmps = 4 := rfl
@[simp] theorem results_77 : fn77.results = [.tmp 2] := rfl
theorem body_77 : fn77.body = c77 := rfl
@[simp] theorem dyn_77 : fn77.dyn = fun _ => [] := id rfl
@[simp] theorem opn_77 : fn77.opn = fun _ => none := id rfl
@[simp] theorem keep_77_0 : fn77.keep 0 = some [1] := rfl
@[simp] theorem keep_77_1 : fn77.keep 1 = some [2] := rfl
@[simp] theorem ntmps_78 : fn78.ntmps = 34 := rfl
@[simp] theorem results_78 : fn78.results = [.tmp 6] := rfl
theorem body_78 : fn78.body = c78 := rfl
@[simp] theorem dyn_78 : fn78.dyn = fun _ => [] := id rfl
@[simp] theorem opn_78 : fn78.opn = opnT := id rfl
@[simp] theorem keep_78_0 : fn78.keep 0 = some [1, 2, 3, 4] := rfl
@[simp] theorem keep_78_1 : fn78.keep 1 = some [1, 3, 4, 7] := rfl
@[simp] theorem keep_78_2 : fn78.keep 2 = some [1, 3, 4, 7, 16] := rfl
@[simp] theorem keep_78_3 : fn78.keep 3 = some [6] := rfl
@[simp] theorem keep_78_4 : fn78.keep 4 = some [1, 3, 19, 20, 21] := rfl
@[simp] theorem keep_78_5 : fn78.keep 5 = some [1, 3, 19, 20, 21, 22] := rfl
@[simp] theorem keep_78_6 : fn78.keep 6 = some [1, 3, 9, 19, 20, 21] := rfl
@[simp] theorem keep_78_7 : fn78.keep 7 = some [1, 3, 10, 19, 20, 21] := rfl
@[simp] theorem keep_78_8 : fn78.keep 8 = some [1, 3, 10, 19, 20, 21, 31] := rfl
@[simp] theorem keep_78_9 : fn78.keep 9 = some [6] := rfl
@[simp] theorem keep_78_10 : fn78.keep 10 = some [1, 3, 19, 20, 21] := rfl
@[simp] theorem keep_78_11 : fn78.keep 11 = some [6] := rfl
@[simp] theorem head_78_5 : fn78.head 5 = some [1, 3, 19, 20, 21] := rfl
@[simp] theorem ntmps_79 : fn79.ntmps = 21 := rfl
@[simp] theorem results_79 : fn79.results = [.cell 4 33, .tmp 5] := rfl
theorem body_79 : fn79.body = c79 := rfl
@[simp] theorem dyn_79 : fn79.dyn = fun _ => [] := id rfl
@[simp] theorem opn_79 : fn79.opn = fun _ => none := id rfl
@[simp] theorem keep_79_0 : fn79.keep 0 = some [1, 2, 4] := rfl
@[simp] theorem keep_79_1 : fn79.keep 1 = some [1, 2, 4, 14] := rfl
@[simp] theorem keep_79_2 : fn79.keep 2 = some [4, 5] := rfl
@[simp] theorem keep_79_3 : fn79.keep 3 = some [4, 5] := rfl
@[simp] theorem ntmps_80 : fn80.ntmps = 24 := rfl
@[simp] theorem results_80 : fn80.results = [.tmp 2] := rfl
theorem body_80 : fn80.body = c80 := rfl
@[simp] theorem dyn_80 : fn80.dyn = fun _ => [] := id rfl
@[simp] theorem opn_80 : fn80.opn = fun _ => none := id rfl
@[simp] theorem keep_80_0 : fn80.keep 0 = some [0, 2] := rfl
@[simp] theorem keep_80_1 : fn80.keep 1 = some [2, 7, 8, 9] := rfl
@[simp] theorem keep_80_2 : fn80.keep 2 = some [2, 7, 8, 9, 10] := rfl
@[simp] theorem keep_80_3 : fn80.keep 3 = some [2, 4, 7, 8, 9] := rfl
@[simp] theorem keep_80_4 : fn80.keep 4 = some [2, 5, 7, 8, 9] := rfl
@[simp] theorem keep_80_5 : fn80.keep 5 = some [2, 7, 8, 9] := rfl
@[simp] theorem keep_80_6 : fn80.keep 6 = some [2, 7, 8, 9] := rfl
@[simp] theorem keep_80_7 : fn80.keep 7 = some [2] := rfl
@[simp] theorem head_80_2 : fn80.head 2 = some [2, 7, 8, 9] := rfl
@[simp] theorem ntmps_81 : fn81.ntmps = 43 := rfl
@[simp] theorem results_81 : fn81.results = [.tmp 2, .tmp 3, .tmp 4] := rfl
theorem body_81 : fn81.body = c81 := rfl
@[simp] theorem dyn_81 : fn81.dyn = fun _ => [] := id rfl
@[simp] theorem opn_81 : fn81.opn = fun _ => none := id rfl
@[simp] theorem keep_81_0 : fn81.keep 0 = some [0, 2] := rfl
@[simp] theorem keep_81_1 : fn81.keep 1 = some [0, 2, 3] := rfl
@[simp] theorem keep_81_2 : fn81.keep 2 = some [0, 2, 3] := rfl
@[simp] theorem keep_81_3 : fn81.keep 3 = some [0, 2, 3, 11] := rfl
@[simp] theorem keep_81_4 : fn81.keep 4 = some [2, 3, 4] := rfl
@[simp] theorem keep_81_5 : fn81.keep 5 = some [0, 2, 3, 5] := rfl
@[simp] theorem keep_81_6 : fn81.keep 6 = some [0, 2, 3, 5, 29] := rfl
@[simp] theorem keep_81_7 : fn81.keep 7 = some [2, 3, 4] := rfl
@[simp] theorem keep_81_8 : fn81.keep 8 = some [0, 2, 3, 5] := rfl
@[simp] theorem keep_81_9 : fn81.keep 9 = some [0, 2, 3, 37] := rfl
@[simp] theorem keep_81_10 : fn81.keep 10 = some [2, 3, 39] := rfl
@[simp] theorem keep_81_11 : fn81.keep 11 = some [2, 3, 4] := rfl
@[simp] theorem keep_81_12 : fn81.keep 12 = some [2, 3, 4] := rfl
@[simp] theorem head_81_3 : fn81.head 3 = some [0, 2, 3] := rfl
@[simp] theorem ntmps_82 : fn82.ntmps = 29 := rfl
@[simp] theorem results_82 : fn82.results = [] := rfl
theorem body_82 : fn82.body = c82 := rfl
@[simp] theorem dyn_82 : fn82.dyn = fun _ => [] := id rfl
@[simp] theorem opn_82 : fn82.opn = opnT := id rfl
@[simp] theorem keep_82_0 : fn82.keep 0 = some [0, 1, 3] := rfl
@[simp] theorem keep_82_1 : fn82.keep 1 = some [0, 1, 3, 9] := rfl
@[simp] theorem keep_82_2 : fn82.keep 2 = some [0, 1, 3] := rfl
@[simp] theorem keep_82_3 : fn82.keep 3 = some [0, 1, 3, 13] := rfl
@[simp] theorem keep_82_4 : fn82.keep 4 = some [0, 1, 3] := rfl
@[simp] theorem keep_82_5 : fn82.keep 5 = some [0, 1, 3, 4] := rfl
@[simp] theorem keep_82_6 : fn82.keep 6 = some [0, 1, 3, 4, 22] := rfl
@[simp] theorem keep_82_7 : fn82.keep 7 = some [0, 1, 3, 4] := rfl
@[simp] theorem keep_82_8 : fn82.keep 8 = some [0, 1, 3, 28] := rfl
@[simp] theorem head_82_1 : fn82.head 1 = some [0, 1, 3] := rfl
@[simp] theorem head_82_3 : fn82.head 3 = some [0, 1, 3] := rfl
@[simp] theorem E_fn3 : E.fn 3 = some fn3 := rfl
@[simp] theorem E_grd3 : E.grd 3 = none := id rfl
@[simp] theorem opnT_3 : opnT 3 = none := id rfl
@[simp] theorem E_fn4 : E.fn 4 = some fn4 := rfl
@[simp] theorem E_grd4 : E.grd 4 = none := id rfl
@[simp] theorem opnT_4 : opnT 4 = none := id rfl
@[simp] theorem E_fn5 : E.fn 5 = some fn5 := rfl
@[simp] theorem E_grd5 : E.grd 5 = none := id rfl
@[simp] theorem opnT_5 : opnT 5 = none := id rfl
@[simp] theorem E_fn6 : E.fn 6 = some fn6 := rfl
@[simp] theorem E_grd6 : E.grd 6 = none := id rfl
@[simp] theorem opnT_6 : opnT 6 = none := id rfl
@[simp] theorem E_fn7 : E.fn 7 = some fn7 := rfl
@[simp] theorem E_grd7 : E.grd 7 = none := id rfl
@[simp] theorem opnT_7 : opnT 7 = none := id rfl
@[simp] theorem E_fn8 : E.fn 8 = some fn8 := rfl
@[simp] theorem E_grd8 : E.grd 8 = none := id rfl
@[simp] theorem opnT_8 : opnT 8 = none := id rfl
@[simp] theorem E_fn9 : E.fn 9 = some fn9 := rfl
@[simp] theorem E_grd9 : E.grd 9 = none := id rfl
@[simp] theorem opnT_9 : opnT 9 = none := id rfl
@[simp] theorem E_fn10 : E.fn 10 = some fn10 := rfl
@[simp] theorem E_grd10 : E.grd 10 = none := id rfl
@[simp] theorem opnT_10 : opnT 10 = none := id rfl
@[simp] theorem E_fn11 : E.fn 11 = some fn11 := rfl
@[simp] theorem E_grd11 : E.grd 11 = none := id rfl
@[simp] theorem opnT_11 : opnT 11 = none := id rfl
@[simp] theorem E_fn12 : E.fn 12 = some fn12 := rfl
@[simp] theorem E_grd12 : E.grd 12 = none := id rfl
@[simp] theorem opnT_12 : opnT 12 = none := id rfl
@[simp] theorem E_fn13 : E.fn 13 = some fn13 := rfl
@[simp] theorem E_grd13 : E.grd 13 = none := id rfl
@[simp] theorem opnT_13 : opnT 13 = none := id rfl
@[simp] theorem E_fn14 : E.fn 14 = some fn14 := rfl
@[simp] theorem E_grd14 : E.grd 14 = none := id rfl
@[simp] theorem opnT_14 : opnT 14 = none := id rfl
@[simp] theorem E_fn15 : E.fn 15 = some fn15 := rfl
@[simp] theorem E_grd15 : E.grd 15 = none := id rfl
@[simp] theorem opnT_15 : opnT 15 = none := id rfl
@[simp] theorem E_fn16 : E.fn 16 = some fn16 := rfl
@[simp] theorem E_grd16 : E.grd 16 = none := id rfl
@[simp] theorem opnT_16 : opnT 16 = none := id rfl
@[simp] theorem E_fn17 : E.fn 17 = some fn17 := rfl
@[simp] theorem E_grd17 : E.grd 17 = none := id rfl
@[simp] theorem opnT_17 : opnT 17 = none := id rfl
@[simp] theorem E_fn18 : E.fn 18 = some fn18 := rfl
@[simp] theorem E_grd18 : E.grd 18 = none := id rfl
@[simp] theorem opnT_18 : opnT 18 = none := id rfl
@[simp] theorem E_fn19 : E.fn 19 = some fn19 := rfl
@[simp] theorem E_grd19 : E.grd 19 = none := id rfl
@[simp] theorem opnT_19 : opnT 19 = none := id rfl
@[simp] theorem E_fn20 : E.fn 20 = some fn20 := rfl
@[simp] theorem E_grd20 : E.grd 20 = none := id rfl
@[simp] theorem opnT_20 : opnT 20 = none := id rfl
@[simp] theorem E_fn21 : E.fn 21 = some fn21 := rfl
@[simp] theorem E_grd21 : E.grd 21 = none := id rfl
@[simp] theorem opnT_21 : opnT 21 = none := id rfl
@[simp] theorem E_fn22 : E.fn 22 = some fn22 := rfl
@[simp] theorem E_grd22 : E.grd 22 = none := id rfl
@[simp] theorem opnT_22 : opnT 22 = none := id rfl
@[simp] theorem E_fn23 : E.fn 23 = some fn23 := rfl
@[simp] theorem E_grd23 : E.grd 23 = none := id rfl
@[simp] theorem opnT_23 : opnT 23 = some ([false, true, false], true) := id rfl
@[simp] theorem E_fn24 : E.fn 24 = some fn24 := rfl
@[simp] theorem E_grd24 : E.grd 24 = none := id rfl
@[simp] theorem opnT_24 : opnT 24 = none := id rfl
@[simp] theorem E_fn25 : E.fn 25 = some fn25 := rfl
@[simp] theorem E_grd25 : E.grd 25 = none := id rfl
@[simp] theorem opnT_25 : opnT 25 = none := id rfl
@[simp] theorem E_fn26 : E.fn 26 = some fn26 := rfl
@[simp] theorem E_grd26 : E.grd 26 = none := id rfl
@[simp] theorem opnT_26 : opnT 26 = none := id rfl
@[simp] theorem E_fn27 : E.fn 27 = some fn27 := rfl
@[simp] theorem E_grd27 : E.grd 27 = none := id rfl
@[simp] theorem opnT_27 : opnT 27 = none := id rfl
@[simp] theorem E_fn28 : E.fn 28 = some fn28 := rfl
@[simp] theorem E_grd28 : E.grd 28 = none := id rfl
@[simp] theorem opnT_28 : opnT 28 = none := id rfl
@[simp] theorem E_fn29 : E.fn 29 = some fn29 := rfl
@[simp] theorem E_grd29 : E.grd 29 = none := id rfl
@[simp] theorem opnT_29 : opnT 29 = none := id rfl
@[simp] theorem E_fn30 : E.fn 30 = some fn30 := rfl
@[simp] theorem E_grd30 : E.grd 30 = none := id rfl
@[simp] theorem opnT_30 : opnT 30 = none := id rfl
@[simp] theorem E_fn31 : E.fn 31 = some fn31 := rfl
@[simp] theorem E_grd31 : E.grd 31 = none := id rfl
@[simp] theorem opnT_31 : opnT 31 = none := id rfl
@[simp] theorem E_fn32 : E.fn 32 = some fn32 := rfl
@[simp] theorem E_grd32 : E.grd 32 = none := id rfl
@[simp] theorem opnT_32 : opnT 32 = none := id rfl
@[simp] theorem E_fn33 : E.fn 33 = some fn33 := rfl
@[simp] theorem E_grd33 : E.grd 33 = none := id rfl
@[simp] theorem opnT_33 : opnT 33 = none := id rfl
@[simp] theorem E_fn34 : E.fn 34 = some fn34 := rfl
@[simp] theorem E_grd34 : E.grd 34 = none := id rfl
@[simp] theorem opnT_34 : opnT 34 = none := id rfl
@[simp] theorem E_fn35 : E.fn 35 = some fn35 := rfl
@[simp] theorem E_grd35 : E.grd 35 = none := id rfl
@[simp] theorem opnT_35 : opnT 35 = none := id rfl
@[simp] theorem E_fn36 : E.fn 36 = some fn36 := rfl
@[simp] theorem E_grd36 : E.grd 36 = none := id rfl
@[simp] theorem opnT_36 : opnT 36 = none := id rfl
@[simp] theorem E_fn37 : E.fn 37 = some fn37 := rfl
@[simp] theorem E_grd37 : E.grd 37 = none := id rfl
@[simp] theorem opnT_37 : opnT 37 = none := id rfl
@[simp] theorem E_fn38 : E.fn 38 = some fn38 := rfl
@[simp] theorem E_grd38 : E.grd 38 = none := id rfl
@[simp] theorem opnT_38 : opnT 38 = none := id rfl
@[simp] theorem E_fn39 : E.fn 39 = some fn39 := rfl
@[simp] theorem E_grd39 : E.grd 39 = none := id rfl
@[simp] theorem opnT_39 : opnT 39 = none := id rfl
@[simp] theorem E_fn40 : E.fn 40 = some fn40 := rfl
@[simp] theorem E_grd40 : E.grd 40 = none := id rfl
@[simp] theorem opnT_40 : opnT 40 = none := id rfl
@[simp] theorem E_fn41 : E.fn 41 = some fn41 := rfl
@[simp] theorem E_grd41 : E.grd 41 = none := id rfl
@[simp] theorem opnT_41 : opnT 41 = none := id rfl
@[simp] theorem E_fn42 : E.fn 42 = some fn42 := rfl
@[simp] theorem E_grd42 : E.grd 42 = none := id rfl
@[simp] theorem opnT_42 : opnT 42 = none := id rfl
@[simp] theorem E_fn43 : E.fn 43 = some fn43 := rfl
@[simp] theorem E_grd43 : E.grd 43 = none := id rfl
@[simp] theorem opnT_43 : opnT 43 = some ([false, true], true) := id rfl
@[simp] theorem E_fn44 : E.fn 44 = some fn44 := rfl
@[simp] theorem E_grd44 : E.grd 44 = none := id rfl
@[simp] theorem opnT_44 : opnT 44 = some ([false, true], true) := id rfl
@[simp] theorem E_fn45 : E.fn 45 = some fn45 := rfl
@[simp] theorem E_grd45 : E.grd 45 = none := id rfl
@[simp] theorem opnT_45 : opnT 45 = none := id rfl
@[simp] theorem E_fn46 : E.fn 46 = some fn46 := rfl
@[simp] theorem E_grd46 : E.grd 46 = none := id rfl
@[simp] theorem opnT_46 : opnT 46 = none := id rfl
@[simp] theorem E_fn47 : E.fn 47 = some fn47 := rfl
@[simp] theorem E_grd47 : E.grd 47 = none := id rfl
@[simp] theorem opnT_47 : opnT 47 = none := id rfl
@[simp] theorem E_fn48 : E.fn 48 = some fn48 := rfl
@[simp] theorem E_grd48 : E.grd 48 = some grd48 := id rfl
@[simp] theorem opnT_48 : opnT 48 = none := id rfl
@[simp] theorem E_fn49 : E.fn 49 = some fn49 := rfl
@[simp] theorem E_grd49 : E.grd 49 = none := id rfl
@[simp] theorem opnT_49 : opnT 49 = none := id rfl
@[simp] theorem E_fn50 : E.fn 50 = some fn50 := rfl
@[simp] theorem E_grd50 : E.grd 50 = none := id rfl
@[simp] theorem opnT_50 : opnT 50 = none := id rfl
@[simp] theorem E_fn51 : E.fn 51 = some fn51 := rfl
@[simp] theorem E_grd51 : E.grd 51 = none := id rfl
@[simp] theorem opnT_51 : opnT 51 = none := id rfl
@[simp] theorem E_fn52 : E.fn 52 = some fn52 := rfl
@[simp] theorem E_grd52 : E.grd 52 = none := id rfl
@[simp] theorem opnT_52 : opnT 52 = none := id rfl
@[simp] theorem E_fn53 : E.fn 53 = some fn53 := rfl
@[simp] theorem E_grd53 : E.grd 53 = none := id rfl
@[simp] theorem opnT_53 : opnT 53 = none := id rfl
@[simp] theorem E_fn54 : E.fn 54 = some fn54 := rfl
@[simp] theorem E_grd54 : E.grd 54 = none := id rfl
@[simp] theorem opnT_54 : opnT 54 = some ([true, false], false) := id rfl
@[simp] theorem E_fn55 : E.fn 55 = some fn55 := rfl
@[simp] theorem E_grd55 : E.grd 55 = none := id rfl
@[simp] theorem opnT_55 : opnT 55 = none := id rfl
@[simp] theorem E_fn56 : E.fn 56 = some fn56 := rfl
@[simp] theorem E_grd56 : E.grd 56 = none := id rfl
@[simp] theorem opnT_56 : opnT 56 = none := id rfl
@[simp] theorem E_fn57 : E.fn 57 = some fn57 := rfl
@[simp] theorem E_grd57 : E.grd 57 = none := id rfl
@[simp] theorem opnT_57 : opnT 57 = none := id rfl
@[simp] theorem E_fn58 : E.fn 58 = some fn58 := rfl
@[simp] theorem E_grd58 : E.grd 58 = none := id rfl
@[simp] theorem opnT_58 : opnT 58 = none := id rfl
@[simp] theorem E_fn59 : E.fn 59 = some fn59 := rfl
@[simp] theorem E_grd59 : E.grd 59 = none := id rfl
@[simp] theorem opnT_59 : opnT 59 = none := id rfl
@[simp] theorem E_fn60 : E.fn 60 = some fn60 := rfl
@[simp] theorem E_grd60 : E.grd 60 = none := id rfl
@[simp] theorem opnT_60 : opnT 60 = some ([true, true, true, true], true) := id rfl
@[simp] theorem E_fn61 : E.fn 61 = some fn61 := rfl
@[simp] theorem E_grd61 : E.grd 61 = none := id rfl
@[simp] theorem opnT_61 : opnT 61 = some ([true, false, false, false], true) := id rfl
@[simp] theorem E_fn62 : E.fn 62 = some fn62 := rfl
@[simp] theorem E_grd62 : E.grd 62 = none := id rfl
@[simp] theorem opnT_62 : opnT 62 = none := id rfl
@[simp] theorem E_fn63 : E.fn 63 = some fn63 := rfl
@[simp] theorem E_grd63 : E.grd 63 = none := id rfl
@[simp] theorem opnT_63 : opnT 63 = none := id rfl
@[simp] theorem E_fn64 : E.fn 64 = some fn64 := rfl
@[simp] theorem E_grd64 : E.grd 64 = none := id rfl
@[simp] theorem opnT_64 : opnT 64 = none := id rfl
@[simp] theorem E_fn65 : E.fn 65 = some fn65 := rfl
@[simp] theorem E_grd65 : E.grd 65 = none := id rfl
@[simp] theorem opnT_65 : opnT 65 = none := id rfl
@[simp] theorem E_fn66 : E.fn 66 = some fn66 := rfl
@[simp] theorem E_grd66 : E.grd 66 = none := id rfl
@[simp] theorem opnT_66 : opnT 66 = none := id rfl
@[simp] theorem E_fn67 : E.fn 67 = some fn67 := rfl
@[simp] theorem E_grd67 : E.grd 67 = none := id rfl
@[simp] theorem opnT_67 : opnT 67 = none := id rfl
@[simp] theorem E_fn68 : E.fn 68 = some fn68 := rfl
@[simp] theorem E_grd68 : E.grd 68 = none := id rfl
@[simp] theorem opnT_68 : opnT 68 = some ([false, true], true) := id rfl
@[simp] theorem E_fn69 : E.fn 69 = some fn69 := rfl
@[simp] theorem E_grd69 : E.grd 69 = none := id rfl
@[simp] theorem opnT_69 : opnT 69 = some ([false, false, true, true], true) := id rfl
@[simp] theorem E_fn70 : E.fn 70 = some fn70 := rfl
@[simp] theorem E_grd70 : E.grd 70 = none := id rfl
@[simp] theorem opnT_70 : opnT 70 = none := id rfl
@[simp] theorem E_fn71 : E.fn 71 = some fn71 := rfl
@[simp] theorem E_grd71 : E.grd 71 = none := id rfl
@[simp] theorem opnT_71 : opnT 71 = none := id rfl
@[simp] theorem E_fn72 : E.fn 72 = some fn72 := rfl
@[simp] theorem E_grd72 : E.grd 72 = none := id rfl
@[simp] theorem opnT_72 : opnT 72 = none := id rfl
@[simp] theorem E_fn73 : E.fn 73 = some fn73 := rfl
@[simp] theorem E_grd73 : E.grd 73 = none := id rfl
@[simp] theorem opnT_73 : opnT 73 = none := id rfl
@[simp] theorem E_fn74 : E.fn 74 = some fn74 := rfl
@[simp] theorem E_grd74 : E.grd 74 = none := id rfl
@[simp] theorem opnT_74 : opnT 74 = none := id rfl
@[simp] theorem E_fn75 : E.fn 75 = some fn75 := rfl
@[simp] theorem E_grd75 : E.grd 75 = none := id rfl
@[simp] theorem opnT_75 : opnT 75 = none := id rfl
@[simp] theorem E_fn76 : E.fn 76 = some fn76 := rfl
@[simp] theorem E_grd76 : E.grd 76 = none := id rfl
@[simp] theorem opnT_76 : opnT 76 = none := id rfl
@[simp] theorem E_fn77 : E.fn 77 = some fn77 := rfl
@[simp] theorem E_grd77 : E.grd 77 = none := id rfl
@[simp] theorem opnT_77 : opnT 77 = none := id rfl
@[simp] theorem E_fn78 : E.fn 78 = some fn78 := rfl
@[simp] theorem E_grd78 : E.grd 78 = none := id rfl
@[simp] theorem opnT_78 : opnT 78 = some ([false, false, true, true], true) := id rfl
@[simp] theorem E_fn79 : E.fn 79 = some fn79 := rfl
@[simp] theorem E_grd79 : E.grd 79 = none := id rfl
@[simp] theorem opnT_79 : opnT 79 = none := id rfl
@[simp] theorem E_fn80 : E.fn 80 = some fn80 := rfl
@[simp] theorem E_grd80 : E.grd 80 = none := id rfl
@[simp] theorem opnT_80 : opnT 80 = none := id rfl
@[simp] theorem E_fn81 : E.fn 81 = some fn81 := rfl
@[simp] theorem E_grd81 : E.grd 81 = none := id rfl
@[simp] theorem opnT_81 : opnT 81 = none := id rfl
@[simp] theorem E_fn82 : E.fn 82 = some fn82 := rfl
@[simp] theorem E_grd82 : E.grd 82 = none := id rfl
@[simp] theorem opnT_82 : opnT 82 = some ([true, true], true) := id rfl
@[simp] theorem E_ty1 : E.ty 1 = some ⟨.func, 1, 8, [.nilf], false⟩ := rfl
@[simp] theorem E_ty2 : E.ty 2 = some ⟨.int .i64, 1, 8, [.int .i64 0], false⟩ := rfl
@[simp] theorem E_ty3 : E.ty 3 = some ⟨.int .i64, 1, 8, [.int .i64 0], false⟩ := rfl
@[simp] theorem E_ty4 : E.ty 4 = some ⟨.bool, 1, 1, [.bool false], false⟩ := rfl
@[simp] theorem E_ty5 : E.ty 5 = some ⟨.int .u8, 1, 1, [.int .u8 0], false⟩ := rfl
@[simp] theorem E_ty6 : E.ty 6 = some ⟨.int .u8, 1, 1, [.int .u8 0], false⟩ := rfl
@[simp] theorem E_ty7 : E.ty 7 = some ⟨.strct [(0, 2), (1, 3), (2, 4), (3, 6)], 4, 24, [.int .i64 0, .int .i64 0, .bool false, .int .u8 0], false⟩ := rfl
@[simp] theorem E_ty8 : E.ty 8 = some ⟨.strct [(0, 2), (1, 3), (2, 4), (3, 6)], 4, 24, [.int .i64 0, .int .i64 0, .bool false, .int .u8 0], false⟩ := rfl
@[simp] theorem E_ty9 : E.ty 9 = some ⟨.str, 1, 16, [.str []], false⟩ := rfl
@[simp] theorem E_ty10 : E.ty 10 = some ⟨.str, 1, 16, [.str []], false⟩ := rfl
@[simp] theorem E_ty11 : E.ty 11 = some ⟨.str, 1, 16, [.str []], false⟩ := rfl
@[simp] theorem E_ty12 : E.ty 12 = some ⟨.int .u64, 1, 8, [.int .u64 0], false⟩ := rfl
@[simp] theorem E_ty13 : E.ty 13 = some ⟨.strct [(0, 9), (1, 12)], 2, 24, [.str [], .int .u64 0], false⟩ := rfl
@[simp] theorem E_ty14 : E.ty 14 = some ⟨.strct [(0, 9), (1, 12)], 2, 24, [.str [], .int .u64 0], false⟩ := rfl
@[simp] theorem E_ty15 : E.ty 15 = some ⟨.ptr 133, 1, 8, [.nilp], false⟩ := rfl
@[simp] theorem E_ty16 : E.ty 16 = some ⟨.ptr 136, 1, 8, [.nilp], false⟩ := rfl
@[simp] theorem E_ty17 : E.ty 17 = some ⟨.ptr 145, 1, 8, [.nilp], false⟩ := rfl
@[simp] theorem E_ty18 : E.ty 18 = some ⟨.strct [(0, 17)], 1, 8, [.nilp], false⟩ := rfl
@[simp] theorem E_ty19 : E.ty 19 = some ⟨.strct [(0, 17)], 1, 8, [.nilp], false⟩ := rfl
@[simp] theorem E_ty20 : E.ty 20 = some ⟨.iface true, 1, 16, [.nili], false⟩ := rfl
@[simp] theorem E_ty21 : E.ty 21 = some ⟨.int .i32, 1, 4, [.int .i32 0], false⟩ := rfl
@[simp] theorem E_ty22 : E.ty 22 = some ⟨.int .u32, 1, 4, [.int .u32 0], false⟩ := rfl
@[simp] theorem E_ty23 : E.ty 23 = some ⟨.func, 1, 8, [.nilf], false⟩ := rfl
@[simp] theorem E_ty24 : E.ty 24 = some ⟨.strct [(0, 3), (1, 3)], 2, 16, [.int .i64 0, .int .i64 0], false⟩ := rfl
@[simp] theorem E_ty25 : E.ty 25 = some ⟨.strct [(0, 3), (1, 3)], 2, 16, [.int .i64 0, .int .i64 0], true⟩ := rfl
@[simp] theorem E_ty26 : E.ty 26 = some ⟨.func, 1, 8, [.nilf], false⟩ := rfl
@[simp] theorem E_ty27 : E.ty 27 = some ⟨.int .u8, 1, 1, [.int .u8 0], false⟩ := rfl
@[simp] theorem E_ty28 : E.ty 28 = some ⟨.strct [(0, 27), (1, 4), (2, 22)], 3, 8, [.int .u8 0, .bool false, .int .u32 0], false⟩ := rfl
@[simp] theorem E_ty29 : E.ty 29 = some ⟨.strct [(0, 27), (1, 4), (2, 22)], 3, 8, [.int .u8 0, .bool false, .int .u32 0], true⟩ := rfl
@[simp] theorem E_ty30 : E.ty 30 = some ⟨.slice 5, 1, 24, [.sl true [] (some 0)], false⟩ := rfl
@[simp] theorem E_ty31 : E.ty 31 = some ⟨.slice 33, 1, 24, [.sl true [] (some 0)], false⟩ := rfl
@[simp] theorem E_ty32 : E.ty 32 = some ⟨.strct [(0, 29), (3, 30), (4, 31)], 5, 56, [.int .u8 0, .bool false, .int .u32 0, .sl true [] (some 0), .sl true [] (some 0)], false⟩ := rfl
@[simp] theorem E_ty33 : E.ty 33 = some ⟨.strct [(0, 29), (3, 30), (4, 31)], 5, 56, [.int .u8 0, .bool false, .int .u32 0, .sl true [] (some 0), .sl true [] (some 0)], false⟩ := rfl
@[simp] theorem E_ty34 : E.ty 34 = some ⟨.int .i64, 1, 8, [.int .i64 0], false⟩ := rfl
@[simp] theorem E_ty36 : E.ty 36 = some ⟨.func, 1, 8, [.nilf], false⟩ := rfl
@[simp] theorem E_ty38 : E.ty 38 = some ⟨.func, 1, 8, [.nilf], false⟩ := rfl
@[simp] theorem E_ty39 : E.ty 39 = some ⟨.func, 1, 8, [.nilf], false⟩ := rfl
@[simp] theorem E_ty40 : E.ty 40 = some ⟨.func, 1, 8, [.nilf], false⟩ := rfl
@[simp] theorem E_ty41 : E.ty 41 = some ⟨.func, 1, 8, [.nilf], false⟩ := rfl
@[simp] theorem E_ty42 : E.ty 42 = some ⟨.func, 1, 8, [.nilf], false⟩ := rfl
@[simp] theorem E_ty43 : E.ty 43 = some ⟨.slice 3, 1, 24, [.sl true [] (some 0)], false⟩ := rfl
@[simp] theorem E_ty44 : E.ty 44 = some ⟨.strct [(0, 43), (1, 34)], 2, 32, [.sl true [] (some 0), .int .i64 0], false⟩ := rfl
@[simp] theorem E_ty45 : E.ty 45 = some ⟨.strct [(0, 43), (1, 34)], 2, 32, [.sl true [] (some 0), .int .i64 0], false⟩ := rfl
@[simp] theorem E_ty47 : E.ty 47 = some ⟨.func, 1, 8, [.nilf], false⟩ := rfl
@[simp] theorem E_ty49 : E.ty 49 = some ⟨.func, 1, 8, [.nilf], false⟩ := rfl
@[simp] theorem E_ty50 : E.ty 50 = some ⟨.func, 1, 8, [.nilf], false⟩ := rfl
@[simp] theorem E_ty51 : E.ty 51 = some ⟨.func, 1, 8, [.nilf], false⟩ := rfl
@[simp] theorem E_ty53 : E.ty 53 = some ⟨.func, 1, 8, [.nilf], false⟩ := rfl
@[simp] theorem E_ty54 : E.ty 54 = some ⟨.func, 1, 8, [.nilf], false⟩ := rfl
@[simp] theorem E_ty55 : E.ty 55 = some ⟨.func, 1, 8, [.nilf], false⟩ := rfl
@[simp] theorem E_ty56 : E.ty 56 = some ⟨.func, 1, 8, [.nilf], false⟩ := rfl
@[simp] theorem E_ty57 : E.ty 57 = some ⟨.ptr 3, 1, 8, [.nilp], false⟩ := rfl
@[simp] theorem E_ty58 : E.ty 58 = some ⟨.func, 1, 8, [.nilf], false⟩ := rfl
@[simp] theorem E_ty60 : E.ty 60 = some ⟨.func, 1, 8, [.nilf], false⟩ := rfl
@[simp] theorem E_ty61 : E.ty 61 = some ⟨.func, 1, 8, [.nilf], false⟩ := rfl
@[simp] theorem E_ty63 : E.ty 63 = some ⟨.func, 1, 8, [.nilf], false⟩ := rfl
@[simp] theorem E_ty64 : E.ty 64 = some ⟨.func, 1, 8, [.nilf], false⟩ := rfl
@[simp] theorem E_ty65 : E.ty 65 = some ⟨.func, 1, 8, [.nilf], false⟩ := rfl
@[simp] theorem E_ty66 : E.ty 66 = some ⟨.func, 1, 8, [.nilf], false⟩ := rfl
@[simp] theorem E_ty67 : E.ty 67 = some ⟨.func, 1, 8, [.nilf], false⟩ := rfl
@[simp] theorem E_ty68 : E.ty 68 = some ⟨.func, 1, 8, [.nilf], false⟩ := rfl
@[simp] theorem E_ty69 : E.ty 69 = some ⟨.arr 2 3, 2, 16, [.int .i64 0, .int .i64 0], false⟩ := rfl
@[simp] theorem E_ty70 : E.ty 70 = some ⟨.func, 1, 8, [.nilf], false⟩ := rfl
@[simp] theorem E_ty71 : E.ty 71 = some ⟨.func, 1, 8, [.nilf], false⟩ := rfl
@[simp] theorem E_ty72 : E.ty 72 = some ⟨.func, 1, 8, [.nilf], false⟩ := rfl
@[simp] theorem E_ty73 : E.ty 73 = some ⟨.func, 1, 8, [.nilf], false⟩ := rfl
@[simp] theorem E_ty74 : E.ty 74 = some ⟨.func, 1, 8, [.nilf], false⟩ := rfl
@[simp] theorem E_ty75 : E.ty 75 = some ⟨.func, 1, 8, [.nilf], false⟩ := rfl
@[simp] theorem E_ty76 : E.ty 76 = some ⟨.func, 1, 8, [.nilf], false⟩ := rfl
@[simp] theorem E_ty78 : E.ty 78 = some ⟨.func, 1, 8, [.nilf], false⟩ := rfl
@[simp] theorem E_ty79 : E.ty 79 = some ⟨.strct [(0, 29), (3, 4), (4, 4)], 5, 12, [.int .u8 0, .bool false, .int .u32 0, .bool false, .bool false], false⟩ := rfl
@[simp] theorem E_ty80 : E.ty 80 = some ⟨.strct [(0, 29), (3, 4), (4, 4)], 5, 12, [.int .u8 0, .bool false, .int .u32 0, .bool false, .bool false], false⟩ := rfl
@[simp] theorem E_ty81 : E.ty 81 = some ⟨.slice 80, 1, 24, [.sl true [] (some 0)], false⟩ := rfl
@[simp] theorem E_ty82 : E.ty 82 = some ⟨.arr 2 57, 2, 16, [.nilp, .nilp], false⟩ := rfl
@[simp] theorem E_ty83 : E.ty 83 = some ⟨.func, 1, 8, [.nilf], false⟩ := rfl
@[simp] theorem E_ty84 : E.ty 84 = some ⟨.func, 1, 8, [.nilf], false⟩ := rfl
@[simp] theorem E_ty85 : E.ty 85 = some ⟨.func, 1, 8, [.nilf], false⟩ := rfl
@[simp] theorem E_ty86 : E.ty 86 = some ⟨.func, 1, 8, [.nilf], false⟩ := rfl
@[simp] theorem E_ty87 : E.ty 87 = some ⟨.func, 1, 8, [.nilf], false⟩ := rfl
@[simp] theorem E_ty89 : E.ty 89 = some ⟨.func, 1, 8, [.nilf], false⟩ := rfl
@[simp] theorem E_ty90 : E.ty 90 = some ⟨.arr 8 5, 8, 8, [.int .u8 0, .int .u8 0, .int .u8 0, .int .u8 0, .int .u8 0, .int .u8 0, .int .u8 0, .int .u8 0], false⟩ := rfl
@[simp] theorem E_ty91 : E.ty 91 = some ⟨.arr 8 5, 8, 8, [.int .u8 0, .int .u8 0, .int .u8 0, .int .u8 0, .int .u8 0, .int .u8 0, .int .u8 0, .int .u8 0], false⟩ := rfl
@[simp] theorem E_ty92 : E.ty 92 = some ⟨.func, 1, 8, [.nilf], false⟩ := rfl
@[simp] theorem E_ty93 : E.ty 93 = some ⟨.func, 1, 8, [.nilf], false⟩ := rfl
@[simp] theorem E_ty94 : E.ty 94 = some ⟨.func, 1, 8, [.nilf], false⟩ := rfl
@[simp] theorem E_ty96 : E.ty 96 = some ⟨.func, 1, 8, [.nilf], false⟩ := rfl
@[simp] theorem E_ty97 : E.ty 97 = some ⟨.func, 1, 8, [.nilf], false⟩ := rfl
@[simp] theorem E_ty98 : E.ty 98 = some ⟨.func, 1, 8, [.nilf], false⟩ := rfl
@[simp] theorem E_ty100 : E.ty 100 = some ⟨.strct [(0, 3), (1, 34)], 2, 16, [.int .i64 0, .int .i64 0], false⟩ := rfl
@[simp] theorem E_ty101 : E.ty 101 = some ⟨.strct [(0, 3), (1, 34)], 2, 16, [.int .i64 0, .int .i64 0], false⟩ := rfl
@[simp] theorem E_ty103 : E.ty 103 = some ⟨.strct [(0, 30), (1, 3)], 2, 32, [.sl true [] (some 0), .int .i64 0], false⟩ := rfl
@[simp] theorem E_ty104 : E.ty 104 = some ⟨.strct [(0, 30), (1, 3)], 2, 32, [.sl true [] (some 0), .int .i64 0], false⟩ := rfl
@[simp] theorem E_ty106 : E.ty 106 = some ⟨.func, 1, 8, [.nilf], false⟩ := rfl
@[simp] theorem E_ty107 : E.ty 107 = some ⟨.int .i8, 1, 1, [.int .i8 0], false⟩ := rfl
@[simp] theorem E_ty108 : E.ty 108 = some ⟨.int .u64, 1, 8, [.int .u64 0], false⟩ := rfl
@[simp] theorem E_ty109 : E.ty 109 = some ⟨.func, 1, 8, [.nilf], false⟩ := rfl
@[simp] theorem E_ty110 : E.ty 110 = some ⟨.func, 1, 8, [.nilf], false⟩ := rfl
@[simp] theorem E_ty111 : E.ty 111 = some ⟨.func, 1, 8, [.nilf], false⟩ := rfl
@[simp] theorem E_ty112 : E.ty 112 = some ⟨.func, 1, 8, [.nilf], false⟩ := rfl
@[simp] theorem E_ty113 : E.ty 113 = some ⟨.func, 1, 8, [.nilf], false⟩ := rfl
@[simp] theorem E_ty114 : E.ty 114 = some ⟨.func, 1, 8, [.nilf], false⟩ := rfl
@[simp] theorem E_ty115 : E.ty 115 = some ⟨.func, 1, 8, [.nilf], false⟩ := rfl
@[simp] theorem E_ty116 : E.ty 116 = some ⟨.ptr 104, 1, 8, [.nilp], false⟩ := rfl
@[simp] theorem E_ty118 : E.ty 118 = some ⟨.func, 1, 8, [.nilf], false⟩ := rfl
@[simp] theorem E_ty119 : E.ty 119 = some ⟨.func, 1, 8, [.nilf], false⟩ := rfl
@[simp] theorem E_ty120 : E.ty 120 = some ⟨.func, 1, 8, [.nilf], false⟩ := rfl
@[simp] theorem E_ty121 : E.ty 121 = some ⟨.func, 1, 8, [.nilf], false⟩ := rfl
@[simp] theorem E_ty122 : E.ty 122 = some ⟨.func, 1, 8, [.nilf], false⟩ := rfl
@[simp] theorem E_ty124 : E.ty 124 = some ⟨.func, 1, 8, [.nilf], false⟩ := rfl
@[simp] theorem E_ty125 : E.ty 125 = some ⟨.func, 1, 8, [.nilf], false⟩ := rfl
@[simp] theorem E_ty127 : E.ty 127 = some ⟨.func, 1, 8, [.nilf], false⟩ := rfl
@[simp] theorem E_ty128 : E.ty 128 = some ⟨.arr 3 5, 3, 3, [.int .u8 0, .int .u8 0, .int .u8 0], false⟩ := rfl
@[simp] theorem E_ty129 : E.ty 129 = some ⟨.arr 3 5, 3, 3, [.int .u8 0, .int .u8 0, .int .u8 0], false⟩ := rfl
@[simp] theorem E_ty130 : E.ty 130 = some ⟨.func, 1, 8, [.nilf], false⟩ := rfl
@[simp] theorem E_ty131 : E.ty 131 = some ⟨.func, 1, 8, [.nilf], false⟩ := rfl
@[simp] theorem E_ty132 : E.ty 132 = some ⟨.strct [(0, 17), (1, 17), (2, 17), (3, 9)], 4, 40, [.nilp, .nilp, .nilp, .str []], false⟩ := rfl
@[simp] theorem E_ty133 : E.ty 133 = some ⟨.strct [(0, 17), (1, 17), (2, 17), (3, 9)], 4, 40, [.nilp, .nilp, .nilp, .str []], false⟩ := rfl
@[simp] theorem E_ty134 : E.ty 134 = some ⟨.arr 0 16, 0, 0, [], false⟩ := rfl
@[simp] theorem E_ty135 : E.ty 135 = some ⟨.strct [(0, 134)], 0, 0, [], false⟩ := rfl
@[simp] theorem E_ty136 : E.ty 136 = some ⟨.strct [(0, 134)], 0, 0, [], false⟩ := rfl
@[simp] theorem E_ty137 : E.ty 137 = some ⟨.func, 1, 8, [.nilf], false⟩ := rfl
@[simp] theorem E_ty138 : E.ty 138 = some ⟨.int .u8, 1, 1, [.int .u8 0], false⟩ := rfl
@[simp] theorem E_ty139 : E.ty 139 = some ⟨.int .u8, 1, 1, [.int .u8 0], false⟩ := rfl
@[simp] theorem E_ty140 : E.ty 140 = some ⟨.func, 1, 8, [.nilf], false⟩ := rfl
@[simp] theorem E_ty141 : E.ty 141 = some ⟨.ptr 5, 1, 8, [.nilp], false⟩ := rfl
@[simp] theorem E_ty142 : E.ty 142 = some ⟨.int .i32, 1, 4, [.int .i32 0], false⟩ := rfl
@[simp] theorem E_ty143 : E.ty 143 = some ⟨.int .i32, 1, 4, [.int .i32 0], false⟩ := rfl
@[simp] theorem E_ty144 : E.ty 144 = some ⟨.strct [(0, 12), (1, 12), (2, 22), (3, 138), (4, 5), (5, 5), (6, 139), (7, 140), (8, 141), (9, 142), (10, 143)], 11, 48, [.int .u64 0, .int .u64 0, .int .u32 0, .int .u8 0, .int .u8 0, .int .u8 0, .int .u8 0, .nilf, .nilp, .int .i32 0, .int .i32 0], false⟩ := rfl
@[simp] theorem E_ty145 : E.ty 145 = some ⟨.strct [(0, 12), (1, 12), (2, 22), (3, 138), (4, 5), (5, 5), (6, 139), (7, 140), (8, 141), (9, 142), (10, 143)], 11, 48, [.int .u64 0, .int .u64 0, .int .u32 0, .int .u8 0, .int .u8 0, .int .u8 0, .int .u8 0, .nilf, .nilp, .int .i32 0, .int .i32 0], false⟩ := rfl

end TabC
