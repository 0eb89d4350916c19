/-
  The table of the translation's types, as the evaluator wants it, printed by program; that it is the translation's own is proved. No condition.
-/
import Derived.Test.YticlelmlnadclaaDoorProg
import Derived.Test.YticlelmlnadclaaDoorKAbs14
import Derived.KernelRfl
set_option linter.unusedVariables false
set_option linter.unusedSimpArgs false
set_option linter.unusedSectionVars false
set_option linter.unnecessarySimpa false
set_option linter.deprecated false
namespace Go.Proofs.YticlelmlnadclaaDoor
open Go.Abs
set_option maxRecDepth 100000

def tbl : List (Option TInfo) := [
  none /- tuple -/,
  some ⟨1, 8, .func, [.sc .nilFunc], false⟩,
  some ⟨1, 8, .int .i64, [.sc (.int .i64 0)], false⟩,
  some ⟨1, 8, .int .i64, [.sc (.int .i64 0)], false⟩,
  some ⟨1, 1, .bool, [.sc (.bool false)], false⟩,
  some ⟨1, 1, .int .u8, [.sc (.int .u8 0)], false⟩,
  some ⟨1, 1, .int .u8, [.sc (.int .u8 0)], false⟩,
  some ⟨4, 24, .struct [⟨0, 1, false, 2, false⟩, ⟨1, 1, false, 3, false⟩, ⟨2, 1, false, 4, false⟩, ⟨3, 1, false, 6, false⟩], [.sc (.int .i64 0), .sc (.int .i64 0), .sc (.bool false), .sc (.int .u8 0)], false⟩,
  some ⟨4, 24, .struct [⟨0, 1, false, 2, false⟩, ⟨1, 1, false, 3, false⟩, ⟨2, 1, false, 4, false⟩, ⟨3, 1, false, 6, false⟩], [.sc (.int .i64 0), .sc (.int .i64 0), .sc (.bool false), .sc (.int .u8 0)], false⟩,
  some ⟨1, 16, .str, [.sc (.string ⟨#[]⟩)], false⟩,
  some ⟨1, 16, .str, [.sc (.string ⟨#[]⟩)], false⟩,
  some ⟨1, 16, .str, [.sc (.string ⟨#[]⟩)], false⟩,
  some ⟨1, 8, .int .u64, [.sc (.int .u64 0)], false⟩,
  some ⟨2, 24, .struct [⟨0, 1, false, 9, false⟩, ⟨1, 1, false, 12, false⟩], [.sc (.string ⟨#[]⟩), .sc (.int .u64 0)], false⟩,
  some ⟨2, 24, .struct [⟨0, 1, false, 9, false⟩, ⟨1, 1, false, 12, false⟩], [.sc (.string ⟨#[]⟩), .sc (.int .u64 0)], false⟩,
  some ⟨1, 8, .ptr 166, [.sc (.pointer none)], false⟩,
  some ⟨1, 8, .ptr 169, [.sc (.pointer none)], false⟩,
  some ⟨1, 8, .ptr 177, [.sc (.pointer none)], false⟩,
  some ⟨1, 8, .struct [⟨0, 1, false, 17, false⟩], [.sc (.pointer none)], false⟩,
  some ⟨1, 8, .struct [⟨0, 1, false, 17, false⟩], [.sc (.pointer none)], false⟩,
  some ⟨1, 16, .other, [.sc .nilIface], false⟩,
  some ⟨1, 4, .int .i32, [.sc (.int .i32 0)], false⟩,
  some ⟨1, 24, .slice 78, [.sc (.slice none 0 0)], false⟩,
  some ⟨1, 24, .slice 25, [.sc (.slice none 0 0)], false⟩,
  some ⟨3, 64, .struct [⟨0, 1, false, 9, false⟩, ⟨1, 1, false, 22, false⟩, ⟨2, 1, false, 23, false⟩], [.sc (.string ⟨#[]⟩), .sc (.slice none 0 0), .sc (.slice none 0 0)], false⟩,
  some ⟨3, 64, .struct [⟨0, 1, false, 9, false⟩, ⟨1, 1, false, 22, false⟩, ⟨2, 1, false, 23, false⟩], [.sc (.string ⟨#[]⟩), .sc (.slice none 0 0), .sc (.slice none 0 0)], false⟩,
  some ⟨1, 8, .func, [.sc .nilFunc], false⟩,
  some ⟨1, 8, .func, [.sc .nilFunc], false⟩,
  none /- tuple -/,
  some ⟨1, 8, .func, [.sc .nilFunc], false⟩,
  some ⟨1, 8, .func, [.sc .nilFunc], false⟩,
  none /- tuple -/,
  some ⟨1, 8, .func, [.sc .nilFunc], false⟩,
  some ⟨1, 8, .func, [.sc .nilFunc], false⟩,
  none /- tuple -/,
  some ⟨1, 8, .func, [.sc .nilFunc], false⟩,
  some ⟨1, 8, .func, [.sc .nilFunc], false⟩,
  some ⟨1, 24, .slice 9, [.sc (.slice none 0 0)], false⟩,
  none /- tuple -/,
  some ⟨1, 8, .func, [.sc .nilFunc], false⟩,
  some ⟨1, 8, .func, [.sc .nilFunc], false⟩,
  some ⟨1, 24, .slice 44, [.sc (.slice none 0 0)], false⟩,
  some ⟨1, 8, .func, [.sc .nilFunc], false⟩,
  some ⟨4, 80, .struct [⟨0, 1, false, 9, false⟩, ⟨1, 3, true, 25, false⟩], [.sc (.string ⟨#[]⟩), .sc (.string ⟨#[]⟩), .sc (.slice none 0 0), .sc (.slice none 0 0)], false⟩,
  some ⟨4, 80, .struct [⟨0, 1, false, 9, false⟩, ⟨1, 3, true, 25, false⟩], [.sc (.string ⟨#[]⟩), .sc (.string ⟨#[]⟩), .sc (.slice none 0 0), .sc (.slice none 0 0)], false⟩,
  some ⟨1, 8, .func, [.sc .nilFunc], false⟩,
  some ⟨1, 24, .slice 50, [.sc (.slice none 0 0)], false⟩,
  some ⟨2, 32, .array 2 9, [.sc (.string ⟨#[]⟩), .sc (.string ⟨#[]⟩)], false⟩,
  some ⟨1, 8, .func, [.sc .nilFunc], false⟩,
  some ⟨7, 104, .struct [⟨0, 1, false, 9, false⟩, ⟨1, 1, false, 37, false⟩, ⟨2, 1, false, 9, false⟩, ⟨3, 1, false, 9, false⟩, ⟨4, 1, false, 9, false⟩, ⟨5, 1, false, 3, false⟩, ⟨6, 1, false, 3, false⟩], [.sc (.string ⟨#[]⟩), .sc (.slice none 0 0), .sc (.string ⟨#[]⟩), .sc (.string ⟨#[]⟩), .sc (.string ⟨#[]⟩), .sc (.int .i64 0), .sc (.int .i64 0)], false⟩,
  some ⟨7, 104, .struct [⟨0, 1, false, 9, false⟩, ⟨1, 1, false, 37, false⟩, ⟨2, 1, false, 9, false⟩, ⟨3, 1, false, 9, false⟩, ⟨4, 1, false, 9, false⟩, ⟨5, 1, false, 3, false⟩, ⟨6, 1, false, 3, false⟩], [.sc (.string ⟨#[]⟩), .sc (.slice none 0 0), .sc (.string ⟨#[]⟩), .sc (.string ⟨#[]⟩), .sc (.string ⟨#[]⟩), .sc (.int .i64 0), .sc (.int .i64 0)], false⟩,
  some ⟨1, 8, .int .i64, [.sc (.int .i64 0)], false⟩,
  none /- tuple -/,
  some ⟨1, 8, .func, [.sc .nilFunc], false⟩,
  some ⟨1, 8, .func, [.sc .nilFunc], false⟩,
  some ⟨1, 8, .func, [.sc .nilFunc], false⟩,
  some ⟨1, 8, .func, [.sc .nilFunc], false⟩,
  some ⟨1, 8, .func, [.sc .nilFunc], false⟩,
  some ⟨1, 8, .func, [.sc .nilFunc], false⟩,
  some ⟨1, 8, .func, [.sc .nilFunc], false⟩,
  some ⟨1, 8, .func, [.sc .nilFunc], false⟩,
  some ⟨3, 40, .struct [⟨0, 1, false, 3, false⟩, ⟨1, 1, false, 9, false⟩, ⟨2, 1, false, 9, false⟩], [.sc (.int .i64 0), .sc (.string ⟨#[]⟩), .sc (.string ⟨#[]⟩)], false⟩,
  some ⟨3, 40, .struct [⟨0, 1, false, 3, false⟩, ⟨1, 1, false, 9, false⟩, ⟨2, 1, false, 9, false⟩], [.sc (.int .i64 0), .sc (.string ⟨#[]⟩), .sc (.string ⟨#[]⟩)], false⟩,
  some ⟨1, 8, .func, [.sc .nilFunc], false⟩,
  some ⟨1, 24, .slice 68, [.sc (.slice none 0 0)], false⟩,
  some ⟨1, 8, .func, [.sc .nilFunc], false⟩,
  none /- tuple -/,
  some ⟨1, 8, .func, [.sc .nilFunc], false⟩,
  some ⟨3, 40, .struct [⟨0, 1, false, 3, false⟩, ⟨1, 1, false, 9, false⟩, ⟨2, 1, false, 9, false⟩], [.sc (.int .i64 0), .sc (.string ⟨#[]⟩), .sc (.string ⟨#[]⟩)], false⟩,
  some ⟨1, 8, .func, [.sc .nilFunc], false⟩,
  some ⟨3, 48, .array 3 9, [.sc (.string ⟨#[]⟩), .sc (.string ⟨#[]⟩), .sc (.string ⟨#[]⟩)], false⟩,
  some ⟨1, 8, .func, [.sc .nilFunc], false⟩,
  some ⟨1, 8, .func, [.sc .nilFunc], false⟩,
  some ⟨1, 8, .func, [.sc .nilFunc], false⟩,
  some ⟨1, 8, .func, [.sc .nilFunc], false⟩,
  some ⟨1, 8, .func, [.sc .nilFunc], false⟩,
  some ⟨1, 8, .func, [.sc .nilFunc], false⟩,
  some ⟨2, 32, .struct [⟨0, 1, false, 9, false⟩, ⟨1, 1, false, 9, false⟩], [.sc (.string ⟨#[]⟩), .sc (.string ⟨#[]⟩)], true⟩,
  some ⟨2, 32, .struct [⟨0, 1, false, 9, false⟩, ⟨1, 1, false, 9, false⟩], [.sc (.string ⟨#[]⟩), .sc (.string ⟨#[]⟩)], true⟩,
  some ⟨1, 8, .func, [.sc .nilFunc], false⟩,
  some ⟨1, 8, .func, [.sc .nilFunc], false⟩,
  some ⟨1, 8, .func, [.sc .nilFunc], false⟩,
  some ⟨1, 8, .func, [.sc .nilFunc], false⟩,
  some ⟨1, 8, .func, [.sc .nilFunc], false⟩,
  some ⟨1, 8, .func, [.sc .nilFunc], false⟩,
  some ⟨1, 8, .func, [.sc .nilFunc], false⟩,
  some ⟨1, 8, .func, [.sc .nilFunc], false⟩,
  some ⟨1, 8, .func, [.sc .nilFunc], false⟩,
  some ⟨1, 8, .func, [.sc .nilFunc], false⟩,
  some ⟨1, 8, .func, [.sc .nilFunc], false⟩,
  some ⟨1, 8, .func, [.sc .nilFunc], false⟩,
  some ⟨1, 8, .func, [.sc .nilFunc], false⟩,
  some ⟨1, 8, .func, [.sc .nilFunc], false⟩,
  some ⟨1, 8, .func, [.sc .nilFunc], false⟩,
  some ⟨1, 8, .func, [.sc .nilFunc], false⟩,
  some ⟨1, 8, .func, [.sc .nilFunc], false⟩,
  some ⟨1, 8, .func, [.sc .nilFunc], false⟩,
  some ⟨1, 8, .func, [.sc .nilFunc], false⟩,
  some ⟨1, 8, .func, [.sc .nilFunc], false⟩,
  some ⟨1, 8, .func, [.sc .nilFunc], false⟩,
  some ⟨3, 24, .array 3 3, [.sc (.int .i64 0), .sc (.int .i64 0), .sc (.int .i64 0)], false⟩,
  some ⟨1, 8, .func, [.sc .nilFunc], false⟩,
  some ⟨1, 8, .func, [.sc .nilFunc], false⟩,
  some ⟨1, 8, .ptr 25, [.sc (.pointer none)], false⟩,
  some ⟨1, 8, .func, [.sc .nilFunc], false⟩,
  some ⟨1, 8, .func, [.sc .nilFunc], false⟩,
  some ⟨1, 8, .func, [.sc .nilFunc], false⟩,
  some ⟨1, 8, .func, [.sc .nilFunc], false⟩,
  some ⟨1, 8, .func, [.sc .nilFunc], false⟩,
  some ⟨1, 8, .func, [.sc .nilFunc], false⟩,
  some ⟨1, 8, .func, [.sc .nilFunc], false⟩,
  some ⟨1, 8, .func, [.sc .nilFunc], false⟩,
  some ⟨1, 8, .ptr 115, [.sc (.pointer none)], false⟩,
  some ⟨1, 24, .slice 5, [.sc (.slice none 0 0)], false⟩,
  some ⟨2, 32, .struct [⟨0, 1, false, 112, false⟩, ⟨1, 1, false, 113, false⟩], [.sc (.pointer none), .sc (.slice none 0 0)], false⟩,
  some ⟨2, 32, .struct [⟨0, 1, false, 112, false⟩, ⟨1, 1, false, 113, false⟩], [.sc (.pointer none), .sc (.slice none 0 0)], false⟩,
  some ⟨1, 8, .func, [.sc .nilFunc], false⟩,
  some ⟨1, 16, .other, [.sc .nilIface], false⟩,
  some ⟨1, 16, .other, [.sc .nilIface], false⟩,
  none /- tuple -/,
  some ⟨1, 8, .func, [.sc .nilFunc], false⟩,
  some ⟨1, 8, .func, [.sc .nilFunc], false⟩,
  none /- tuple -/,
  some ⟨1, 8, .func, [.sc .nilFunc], false⟩,
  some ⟨1, 24, .slice 3, [.sc (.slice none 0 0)], false⟩,
  some ⟨1, 4, .int .u32, [.sc (.int .u32 0)], false⟩,
  some ⟨1, 8, .func, [.sc .nilFunc], false⟩,
  some ⟨1, 8, .func, [.sc .nilFunc], false⟩,
  some ⟨1, 8, .func, [.sc .nilFunc], false⟩,
  some ⟨1, 8, .func, [.sc .nilFunc], false⟩,
  some ⟨1, 8, .func, [.sc .nilFunc], false⟩,
  some ⟨1, 8, .func, [.sc .nilFunc], false⟩,
  none /- tuple -/,
  some ⟨1, 8, .func, [.sc .nilFunc], false⟩,
  some ⟨1, 8, .func, [.sc .nilFunc], false⟩,
  some ⟨1, 8, .int .u64, [.sc (.int .u64 0)], false⟩,
  some ⟨1, 8, .func, [.sc .nilFunc], false⟩,
  some ⟨1, 8, .ptr 5, [.sc (.pointer none)], false⟩,
  none /- tuple -/,
  some ⟨1, 8, .func, [.sc .nilFunc], false⟩,
  some ⟨1, 8, .func, [.sc .nilFunc], false⟩,
  some ⟨1, 8, .func, [.sc .nilFunc], false⟩,
  some ⟨1, 8, .map 9 3, [.sc (.map none)], false⟩,
  some ⟨2, 24, .struct [⟨0, 1, false, 9, false⟩, ⟨1, 1, false, 142, false⟩], [.sc (.string ⟨#[]⟩), .sc (.map none)], false⟩,
  some ⟨2, 24, .struct [⟨0, 1, false, 9, false⟩, ⟨1, 1, false, 142, false⟩], [.sc (.string ⟨#[]⟩), .sc (.map none)], false⟩,
  none /- tuple -/,
  some ⟨1, 8, .func, [.sc .nilFunc], false⟩,
  none /- tuple -/,
  some ⟨1, 8, .func, [.sc .nilFunc], false⟩,
  some ⟨1, 8, .func, [.sc .nilFunc], false⟩,
  none /- unsafePointer -/,
  some ⟨1, 8, .func, [.sc .nilFunc], false⟩,
  some ⟨1, 8, .func, [.sc .nilFunc], false⟩,
  some ⟨1, 8, .func, [.sc .nilFunc], false⟩,
  none /- tuple -/,
  some ⟨1, 8, .func, [.sc .nilFunc], false⟩,
  some ⟨1, 8, .func, [.sc .nilFunc], false⟩,
  some ⟨1, 8, .ptr 144, [.sc (.pointer none)], false⟩,
  some ⟨1, 8, .func, [.sc .nilFunc], false⟩,
  none /- tuple -/,
  some ⟨1, 8, .func, [.sc .nilFunc], false⟩,
  some ⟨256, 256, .array 256 5, [.sc (.int .u8 0), .sc (.int .u8 0), .sc (.int .u8 0), .sc (.int .u8 0), .sc (.int .u8 0), .sc (.int .u8 0), .sc (.int .u8 0), .sc (.int .u8 0), .sc (.int .u8 0), .sc (.int .u8 0), .sc (.int .u8 0), .sc (.int .u8 0), .sc (.int .u8 0), .sc (.int .u8 0), .sc (.int .u8 0), .sc (.int .u8 0), .sc (.int .u8 0), .sc (.int .u8 0), .sc (.int .u8 0), .sc (.int .u8 0), .sc (.int .u8 0), .sc (.int .u8 0), .sc (.int .u8 0), .sc (.int .u8 0), .sc (.int .u8 0), .sc (.int .u8 0), .sc (.int .u8 0), .sc (.int .u8 0), .sc (.int .u8 0), .sc (.int .u8 0), .sc (.int .u8 0), .sc (.int .u8 0), .sc (.int .u8 0), .sc (.int .u8 0), .sc (.int .u8 0), .sc (.int .u8 0), .sc (.int .u8 0), .sc (.int .u8 0), .sc (.int .u8 0), .sc (.int .u8 0), .sc (.int .u8 0), .sc (.int .u8 0), .sc (.int .u8 0), .sc (.int .u8 0), .sc (.int .u8 0), .sc (.int .u8 0), .sc (.int .u8 0), .sc (.int .u8 0), .sc (.int .u8 0), .sc (.int .u8 0), .sc (.int .u8 0), .sc (.int .u8 0), .sc (.int .u8 0), .sc (.int .u8 0), .sc (.int .u8 0), .sc (.int .u8 0), .sc (.int .u8 0), .sc (.int .u8 0), .sc (.int .u8 0), .sc (.int .u8 0), .sc (.int .u8 0), .sc (.int .u8 0), .sc (.int .u8 0), .sc (.int .u8 0), .sc (.int .u8 0), .sc (.int .u8 0), .sc (.int .u8 0), .sc (.int .u8 0), .sc (.int .u8 0), .sc (.int .u8 0), .sc (.int .u8 0), .sc (.int .u8 0), .sc (.int .u8 0), .sc (.int .u8 0), .sc (.int .u8 0), .sc (.int .u8 0), .sc (.int .u8 0), .sc (.int .u8 0), .sc (.int .u8 0), .sc (.int .u8 0), .sc (.int .u8 0), .sc (.int .u8 0), .sc (.int .u8 0), .sc (.int .u8 0), .sc (.int .u8 0), .sc (.int .u8 0), .sc (.int .u8 0), .sc (.int .u8 0), .sc (.int .u8 0), .sc (.int .u8 0), .sc (.int .u8 0), .sc (.int .u8 0), .sc (.int .u8 0), .sc (.int .u8 0), .sc (.int .u8 0), .sc (.int .u8 0), .sc (.int .u8 0), .sc (.int .u8 0), .sc (.int .u8 0), .sc (.int .u8 0), .sc (.int .u8 0), .sc (.int .u8 0), .sc (.int .u8 0), .sc (.int .u8 0), .sc (.int .u8 0), .sc (.int .u8 0), .sc (.int .u8 0), .sc (.int .u8 0), .sc (.int .u8 0), .sc (.int .u8 0), .sc (.int .u8 0), .sc (.int .u8 0), .sc (.int .u8 0), .sc (.int .u8 0), .sc (.int .u8 0), .sc (.int .u8 0), .sc (.int .u8 0), .sc (.int .u8 0), .sc (.int .u8 0), .sc (.int .u8 0), .sc (.int .u8 0), .sc (.int .u8 0), .sc (.int .u8 0), .sc (.int .u8 0), .sc (.int .u8 0), .sc (.int .u8 0), .sc (.int .u8 0), .sc (.int .u8 0), .sc (.int .u8 0), .sc (.int .u8 0), .sc (.int .u8 0), .sc (.int .u8 0), .sc (.int .u8 0), .sc (.int .u8 0), .sc (.int .u8 0), .sc (.int .u8 0), .sc (.int .u8 0), .sc (.int .u8 0), .sc (.int .u8 0), .sc (.int .u8 0), .sc (.int .u8 0), .sc (.int .u8 0), .sc (.int .u8 0), .sc (.int .u8 0), .sc (.int .u8 0), .sc (.int .u8 0), .sc (.int .u8 0), .sc (.int .u8 0), .sc (.int .u8 0), .sc (.int .u8 0), .sc (.int .u8 0), .sc (.int .u8 0), .sc (.int .u8 0), .sc (.int .u8 0), .sc (.int .u8 0), .sc (.int .u8 0), .sc (.int .u8 0), .sc (.int .u8 0), .sc (.int .u8 0), .sc (.int .u8 0), .sc (.int .u8 0), .sc (.int .u8 0), .sc (.int .u8 0), .sc (.int .u8 0), .sc (.int .u8 0), .sc (.int .u8 0), .sc (.int .u8 0), .sc (.int .u8 0), .sc (.int .u8 0), .sc (.int .u8 0), .sc (.int .u8 0), .sc (.int .u8 0), .sc (.int .u8 0), .sc (.int .u8 0), .sc (.int .u8 0), .sc (.int .u8 0), .sc (.int .u8 0), .sc (.int .u8 0), .sc (.int .u8 0), .sc (.int .u8 0), .sc (.int .u8 0), .sc (.int .u8 0), .sc (.int .u8 0), .sc (.int .u8 0), .sc (.int .u8 0), .sc (.int .u8 0), .sc (.int .u8 0), .sc (.int .u8 0), .sc (.int .u8 0), .sc (.int .u8 0), .sc (.int .u8 0), .sc (.int .u8 0), .sc (.int .u8 0), .sc (.int .u8 0), .sc (.int .u8 0), .sc (.int .u8 0), .sc (.int .u8 0), .sc (.int .u8 0), .sc (.int .u8 0), .sc (.int .u8 0), .sc (.int .u8 0), .sc (.int .u8 0), .sc (.int .u8 0), .sc (.int .u8 0), .sc (.int .u8 0), .sc (.int .u8 0), .sc (.int .u8 0), .sc (.int .u8 0), .sc (.int .u8 0), .sc (.int .u8 0), .sc (.int .u8 0), .sc (.int .u8 0), .sc (.int .u8 0), .sc (.int .u8 0), .sc (.int .u8 0), .sc (.int .u8 0), .sc (.int .u8 0), .sc (.int .u8 0), .sc (.int .u8 0), .sc (.int .u8 0), .sc (.int .u8 0), .sc (.int .u8 0), .sc (.int .u8 0), .sc (.int .u8 0), .sc (.int .u8 0), .sc (.int .u8 0), .sc (.int .u8 0), .sc (.int .u8 0), .sc (.int .u8 0), .sc (.int .u8 0), .sc (.int .u8 0), .sc (.int .u8 0), .sc (.int .u8 0), .sc (.int .u8 0), .sc (.int .u8 0), .sc (.int .u8 0), .sc (.int .u8 0), .sc (.int .u8 0), .sc (.int .u8 0), .sc (.int .u8 0), .sc (.int .u8 0), .sc (.int .u8 0), .sc (.int .u8 0), .sc (.int .u8 0), .sc (.int .u8 0), .sc (.int .u8 0), .sc (.int .u8 0), .sc (.int .u8 0), .sc (.int .u8 0), .sc (.int .u8 0), .sc (.int .u8 0), .sc (.int .u8 0), .sc (.int .u8 0), .sc (.int .u8 0), .sc (.int .u8 0), .sc (.int .u8 0)], false⟩,
  some ⟨2, 2, .struct [⟨0, 1, false, 5, false⟩, ⟨1, 1, false, 5, false⟩], [.sc (.int .u8 0), .sc (.int .u8 0)], false⟩,
  some ⟨2, 2, .struct [⟨0, 1, false, 5, false⟩, ⟨1, 1, false, 5, false⟩], [.sc (.int .u8 0), .sc (.int .u8 0)], false⟩,
  some ⟨32, 32, .array 16 163, [.sc (.int .u8 0), .sc (.int .u8 0), .sc (.int .u8 0), .sc (.int .u8 0), .sc (.int .u8 0), .sc (.int .u8 0), .sc (.int .u8 0), .sc (.int .u8 0), .sc (.int .u8 0), .sc (.int .u8 0), .sc (.int .u8 0), .sc (.int .u8 0), .sc (.int .u8 0), .sc (.int .u8 0), .sc (.int .u8 0), .sc (.int .u8 0), .sc (.int .u8 0), .sc (.int .u8 0), .sc (.int .u8 0), .sc (.int .u8 0), .sc (.int .u8 0), .sc (.int .u8 0), .sc (.int .u8 0), .sc (.int .u8 0), .sc (.int .u8 0), .sc (.int .u8 0), .sc (.int .u8 0), .sc (.int .u8 0), .sc (.int .u8 0), .sc (.int .u8 0), .sc (.int .u8 0), .sc (.int .u8 0)], false⟩,
  some ⟨4, 40, .struct [⟨0, 1, false, 17, false⟩, ⟨1, 1, false, 17, false⟩, ⟨2, 1, false, 17, false⟩, ⟨3, 1, false, 9, false⟩], [.sc (.pointer none), .sc (.pointer none), .sc (.pointer none), .sc (.string ⟨#[]⟩)], false⟩,
  some ⟨4, 40, .struct [⟨0, 1, false, 17, false⟩, ⟨1, 1, false, 17, false⟩, ⟨2, 1, false, 17, false⟩, ⟨3, 1, false, 9, false⟩], [.sc (.pointer none), .sc (.pointer none), .sc (.pointer none), .sc (.string ⟨#[]⟩)], false⟩,
  some ⟨0, 0, .array 0 16, [], false⟩,
  some ⟨0, 0, .struct [⟨0, 0, true, 167, true⟩], [], false⟩,
  some ⟨0, 0, .struct [⟨0, 0, true, 167, true⟩], [], false⟩,
  some ⟨1, 8, .func, [.sc .nilFunc], false⟩,
  some ⟨1, 1, .int .u8, [.sc (.int .u8 0)], false⟩,
  some ⟨1, 1, .int .u8, [.sc (.int .u8 0)], false⟩,
  some ⟨1, 8, .func, [.sc .nilFunc], false⟩,
  some ⟨1, 4, .int .i32, [.sc (.int .i32 0)], false⟩,
  some ⟨1, 4, .int .i32, [.sc (.int .i32 0)], false⟩,
  some ⟨11, 48, .struct [⟨0, 1, false, 12, false⟩, ⟨1, 1, false, 12, false⟩, ⟨2, 1, false, 125, false⟩, ⟨3, 1, false, 171, false⟩, ⟨4, 1, false, 5, false⟩, ⟨5, 1, false, 5, false⟩, ⟨6, 1, false, 172, false⟩, ⟨7, 1, false, 173, false⟩, ⟨8, 1, false, 137, false⟩, ⟨9, 1, false, 174, false⟩, ⟨10, 1, false, 175, false⟩], [.sc (.int .u64 0), .sc (.int .u64 0), .sc (.int .u32 0), .sc (.int .u8 0), .sc (.int .u8 0), .sc (.int .u8 0), .sc (.int .u8 0), .sc .nilFunc, .sc (.pointer none), .sc (.int .i32 0), .sc (.int .i32 0)], false⟩,
  some ⟨11, 48, .struct [⟨0, 1, false, 12, false⟩, ⟨1, 1, false, 12, false⟩, ⟨2, 1, false, 125, false⟩, ⟨3, 1, false, 171, false⟩, ⟨4, 1, false, 5, false⟩, ⟨5, 1, false, 5, false⟩, ⟨6, 1, false, 172, false⟩, ⟨7, 1, false, 173, false⟩, ⟨8, 1, false, 137, false⟩, ⟨9, 1, false, 174, false⟩, ⟨10, 1, false, 175, false⟩], [.sc (.int .u64 0), .sc (.int .u64 0), .sc (.int .u32 0), .sc (.int .u8 0), .sc (.int .u8 0), .sc (.int .u8 0), .sc (.int .u8 0), .sc .nilFunc, .sc (.pointer none), .sc (.int .i32 0), .sc (.int .i32 0)], false⟩]
def tb : Tb := fun t => (tbl[t]?).join

theorem tb_all : (List.range 178).all (fun t => match tb t with | some i => infoB Tryd.prog tb t i | none => true) = true := by kernel_rfl

theorem tb_ok : TbOk Tryd.prog tb := ⟨fun t i h => by
  have hl : t < 178 := by
    rcases Nat.lt_or_ge t 178 with hh | hh
    · exact hh
    · have : tbl[t]? = none := List.getElem?_eq_none (Nat.le_trans (by decide : tbl.length ≤ 178) hh)
      simp [tb, this] at h
  have := List.all_eq_true.1 tb_all t (List.mem_range.2 hl)
  rw [h] at this
  exact this⟩

theorem names_ok : (List.range 174).all (fun f => match Tryd.prog.funcs[f]? with | some fn => !(fn.name == "runtime.NumGoroutine") | none => true) = true := by kernel_rfl

noncomputable def fns : FuncId → Option Func := fun f => if f < 174 then Tryd.prog.funcs[f]? else none

theorem fns_ok (f : FuncId) (fn : Func) (h : fns f = some fn) : Tryd.prog.funcs[f]? = some fn ∧ (fn.name == "runtime.NumGoroutine") = false := by
  unfold fns at h
  split at h
  · rename_i hl
    have := List.all_eq_true.1 names_ok f (List.mem_range.2 hl)
    rw [h] at this
    exact ⟨h, by simpa using this⟩
  · cases h

end Go.Proofs.YticlelmlnadclaaDoor
