/- What the functions of constraints answer at the inputs of ConstraintsKnown: 21. No conditions. -/
import Derived.Test.YtbgmkcmailcciaaDoorN0
import Derived.KernelRfl
open Ab Go TabC
set_option maxRecDepth 100000
namespace K21
theorem r0 : aCall E 200 0 21 [.sl false [.int .u8 2, .int .u8 1, .int .u8 0] (some 3)] [] = some (.ret (.tup [.int .i64 0, .int .i64 0, .int .i64 0]), []) := by kernel_rfl
theorem r1 : aCall E 200 0 21 [.sl false [.int .u8 2, .int .u8 1, .int .u8 1] (some 3)] [] = some (.ret (.tup [.int .i64 1, .int .i64 0, .int .i64 0]), []) := by kernel_rfl
theorem r2 : aCall E 200 0 21 [.sl false [.int .u8 2, .int .u8 1, .int .u8 127] (some 3)] [] = some (.ret (.tup [.int .i64 127, .int .i64 0, .int .i64 0]), []) := by kernel_rfl
theorem r3 : aCall E 200 0 21 [.sl false [.int .u8 2, .int .u8 2, .int .u8 0, .int .u8 128] (some 4)] [] = some (.ret (.tup [.int .i64 128, .int .i64 0, .int .i64 0]), []) := by kernel_rfl
theorem r4 : aCall E 200 0 21 [.sl false [.int .u8 2, .int .u8 2, .int .u8 0, .int .u8 255] (some 4)] [] = some (.ret (.tup [.int .i64 255, .int .i64 0, .int .i64 0]), []) := by kernel_rfl
theorem r5 : aCall E 200 0 21 [.sl false [.int .u8 2, .int .u8 2, .int .u8 1, .int .u8 0] (some 4)] [] = some (.ret (.tup [.int .i64 256, .int .i64 0, .int .i64 0]), []) := by kernel_rfl
theorem r6 : aCall E 200 0 21 [.sl false [.int .u8 2, .int .u8 2, .int .u8 127, .int .u8 255] (some 4)] [] = some (.ret (.tup [.int .i64 32767, .int .i64 0, .int .i64 0]), []) := by kernel_rfl
theorem r7 : aCall E 200 0 21 [.sl false [.int .u8 2, .int .u8 3, .int .u8 0, .int .u8 128, .int .u8 0] (some 5)] [] = some (.ret (.tup [.int .i64 32768, .int .i64 0, .int .i64 0]), []) := by kernel_rfl
theorem r8 : aCall E 200 0 21 [.sl false [.int .u8 2, .int .u8 4, .int .u8 0, .int .u8 128, .int .u8 0, .int .u8 0] (some 6)] [] = some (.ret (.tup [.int .i64 8388608, .int .i64 0, .int .i64 0]), []) := by kernel_rfl
theorem r9 : aCall E 200 0 21 [.sl false [.int .u8 2, .int .u8 4, .int .u8 127, .int .u8 255, .int .u8 255, .int .u8 255] (some 6)] [] = some (.ret (.tup [.int .i64 2147483647, .int .i64 0, .int .i64 0]), []) := by kernel_rfl
theorem r10 : aCall E 200 0 21 [.sl false [.int .u8 10, .int .u8 1, .int .u8 0] (some 3)] [] = some (.ret (.tup [.int .i64 0, .int .i64 0, .int .i64 9]), []) := by kernel_rfl
end K21
