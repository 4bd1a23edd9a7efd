/- What the functions of constraints answer at the inputs of ConstraintsKnown: 20. No conditions. -/
import Derived.Test.YtbgmkcmailcciaaDoorN0
import Derived.KernelRfl
open Ab Go TabC
set_option maxRecDepth 100000
namespace K20
theorem r0 : aCall E 200 0 20 [.int .i64 0] [] = some (.ret (.tup [.sl false [.int .u8 2, .int .u8 1, .int .u8 0] (some 3), .int .i64 0]), []) := by kernel_rfl
theorem r1 : aCall E 200 0 20 [.int .i64 1] [] = some (.ret (.tup [.sl false [.int .u8 2, .int .u8 1, .int .u8 1] (some 3), .int .i64 0]), []) := by kernel_rfl
theorem r2 : aCall E 200 0 20 [.int .i64 127] [] = some (.ret (.tup [.sl false [.int .u8 2, .int .u8 1, .int .u8 127] (some 3), .int .i64 0]), []) := by kernel_rfl
theorem r3 : aCall E 200 0 20 [.int .i64 128] [] = some (.ret (.tup [.sl false [.int .u8 2, .int .u8 2, .int .u8 0, .int .u8 128] (some 4), .int .i64 0]), []) := by kernel_rfl
theorem r4 : aCall E 200 0 20 [.int .i64 255] [] = some (.ret (.tup [.sl false [.int .u8 2, .int .u8 2, .int .u8 0, .int .u8 255] (some 4), .int .i64 0]), []) := by kernel_rfl
theorem r5 : aCall E 200 0 20 [.int .i64 256] [] = some (.ret (.tup [.sl false [.int .u8 2, .int .u8 2, .int .u8 1, .int .u8 0] (some 4), .int .i64 0]), []) := by kernel_rfl
theorem r6 : aCall E 200 0 20 [.int .i64 32767] [] = some (.ret (.tup [.sl false [.int .u8 2, .int .u8 2, .int .u8 127, .int .u8 255] (some 4), .int .i64 0]), []) := by kernel_rfl
theorem r7 : aCall E 200 0 20 [.int .i64 32768] [] = some (.ret (.tup [.sl false [.int .u8 2, .int .u8 3, .int .u8 0, .int .u8 128, .int .u8 0] (some 5), .int .i64 0]), []) := by kernel_rfl
theorem r8 : aCall E 200 0 20 [.int .i64 8388608] [] = some (.ret (.tup [.sl false [.int .u8 2, .int .u8 4, .int .u8 0, .int .u8 128, .int .u8 0, .int .u8 0] (some 6), .int .i64 0]), []) := by kernel_rfl
theorem r9 : aCall E 200 0 20 [.int .i64 2147483647] [] = some (.ret (.tup [.sl false [.int .u8 2, .int .u8 4, .int .u8 127, .int .u8 255, .int .u8 255, .int .u8 255] (some 6), .int .i64 0]), []) := by kernel_rfl
end K20
