/-
  The evaluator's tables for this seat: hints alone; whatever they hold, the evaluator's answers are the model's. Printed by program. No condition.
-/

import Derived.Test.YticlelmlnadclaaDoorKTb
import Derived.Test.YticlelmlnadclaaDoorKPoDefs
set_option linter.unusedVariables false
set_option linter.unusedSimpArgs false
set_option linter.unusedSectionVars false
set_option linter.unnecessarySimpa false
set_option linter.deprecated false
namespace Go.Proofs.YticlelmlnadclaaDoor
open Go Go.Abs Go.P
set_option maxRecDepth 100000

def liveTbl : List (Nat × Nat × List Nat) := [(4, 8, [2, 7, 8]),
  (4, 12, [2, 7, 8, 9, 10]),
  (4, 18, [2, 7, 8, 9, 10, 13]),
  (4, 23, [2, 7, 14]),
  (5, 10, [1, 15]),
  (6, 4, [0, 3, 5]),
  (6, 10, [0, 3, 5, 6, 7, 8, 9, 10]),
  (7, 10, [7, 8, 9, 10, 11, 12, 13]),
  (11, 3, [2, 4, 7, 15, 16, 17]),
  (12, 5, [2, 4, 6, 8]),
  (14, 2, [1, 2, 4, 6]),
  (17, 2, [1, 2, 6]),
  (25, 2, [0, 3]),
  (25, 8, [0, 3, 4, 5]),
  (30, 3, [0, 1, 2, 6, 8, 9]),
  (30, 12, [0, 2, 6, 10]),
  (34, 2, [0, 3]),
  (46, 4, [1, 2, 5]),
  (46, 9, [1, 2, 6]),
  (47, 5, [1, 2, 5, 6]),
  (48, 4, [0, 1, 5]),
  (49, 8, [0, 4, 5, 6]),
  (50, 2, [0, 1, 7, 8]),
  (52, 4, [2, 3, 4, 7]),
  (53, 2, [0, 1, 7, 8]),
  (63, 12, [0, 1, 5, 39, 40, 41]),
  (63, 22, [1, 8, 63, 64, 65]),
  (64, 5, [0, 2, 4, 7, 8]),
  (68, 4, [0, 4]),
  (69, 2, [0, 1, 7, 8]),
  (72, 2, [0, 1, 5]),
  (73, 3, [3, 9, 10, 11]),
  (75, 3, [0, 3, 4]),
  (76, 2, [0, 1, 4, 5]),
  (78, 5, [2, 4, 6, 22, 23]),
  (79, 5, [1, 2, 5, 6]),
  (79, 9, [1, 2, 5, 7]),
  (82, 5, [2, 4, 6, 8]),
  (95, 4, [0, 1, 5]),
  (96, 5, [4, 12, 13, 14]),
  (99, 11, [0, 1, 2, 3, 9, 10]),
  (100, 2, [0, 1, 7, 8]),
  (105, 2, [0, 3]),
  (107, 3, [3, 6, 7, 8]),
  (109, 3, [2, 3, 13, 14, 15]),
  (110, 6, [1, 3, 5, 6, 8, 9, 10]),
  (112, 3, [0, 3, 4]),
  (113, 5, [1, 2, 4, 5, 6]),
  (115, 4, [5, 6, 11, 12, 13]),
  (119, 6, [0, 1, 6, 7]),
  (120, 6, [0, 1, 5]),
  (132, 15, [0, 1, 5, 6, 7, 8, 9, 10]),
  (133, 2, [2, 4]),
  (139, 5, [1, 7, 8, 9, 21, 22, 23]),
  (140, 2, [0, 3]),
  (141, 4, [0, 3, 6, 7, 8]),
  (142, 2, [0, 3]),
  (143, 4, [0, 1, 5, 6, 7]),
  (148, 5, [0, 1, 5, 6, 7, 8, 9]),
  (148, 11, [0, 1, 5, 6, 7, 8, 10]),
  (151, 3, [0, 4, 5]),
  (151, 8, [4, 6, 7, 8])]
def live (f r : Nat) : List Nat := ((liveTbl.find? fun x => x.1 == f && x.2.1 == r).map (·.2.2)).getD []
def liveXTbl : List (Nat × Nat × List Nat) := [(4, 8, [2, 4, 7]),
  (4, 12, [2, 4, 7, 8]),
  (4, 18, [2, 4, 7, 8, 9, 10]),
  (4, 23, [4]),
  (5, 10, [6]),
  (6, 4, [0, 3, 4]),
  (6, 10, [0, 3, 5, 6, 7, 8, 9]),
  (7, 10, [6, 8, 9, 10, 11]),
  (11, 3, [2, 4, 7]),
  (12, 5, [2, 4, 5]),
  (14, 2, [4, 5]),
  (17, 2, [4, 5]),
  (25, 2, [0, 2]),
  (25, 8, [0, 2, 3]),
  (30, 3, [0, 2, 6, 8]),
  (30, 12, [6, 7]),
  (34, 2, [0, 2]),
  (46, 4, [1, 2, 4]),
  (46, 9, [4]),
  (47, 5, [5]),
  (48, 4, [4]),
  (49, 8, [2, 3, 4]),
  (50, 2, [4]),
  (52, 4, [6]),
  (53, 2, [4]),
  (63, 12, [0, 1, 5]),
  (63, 22, [8]),
  (64, 5, [7]),
  (68, 4, [4]),
  (69, 2, [4]),
  (72, 2, [4]),
  (73, 3, [3]),
  (75, 3, [3]),
  (76, 2, [0, 1, 4]),
  (78, 5, [2, 4, 5]),
  (79, 5, [1, 2, 5]),
  (79, 9, [5]),
  (82, 5, [2, 4, 5]),
  (95, 4, [4]),
  (96, 5, [4]),
  (99, 11, [0, 9, 10]),
  (100, 2, [4]),
  (105, 2, [0, 2]),
  (107, 3, [3]),
  (109, 3, [2, 3]),
  (110, 6, [3, 6, 7, 8, 9]),
  (112, 3, [0, 3]),
  (113, 5, [4, 5]),
  (115, 4, [2, 3, 4, 5, 6]),
  (119, 6, [0, 1, 6]),
  (120, 6, [4]),
  (132, 15, [4]),
  (133, 2, [2]),
  (139, 5, [7, 8, 9]),
  (140, 2, [0, 2]),
  (141, 4, [3, 6, 7]),
  (142, 2, [0, 2]),
  (143, 4, [5]),
  (148, 5, [0, 1, 5, 6, 7, 8]),
  (148, 11, [4]),
  (151, 3, [0, 4]),
  (151, 8, [4, 6])]
def liveX (f r : Nat) : List Nat := ((liveXTbl.find? fun x => x.1 == f && x.2.1 == r).map (·.2.2)).getD []
def preTbl : List (Nat × Nat × List Hint) := [(49, 8, [.ownT 4 9]),
  (68, 4, [.ownT 4 9])]
def preL (f r : Nat) : List Hint := ((preTbl.find? fun x => x.1 == f && x.2.1 == r).map (·.2.2)).getD []
def ownLitTbl : List (Nat × Nat) := [(64, 15)]
def ownLit (f d : Nat) : Bool := ownLitTbl.contains (f, d)
def ext0 : FuncId → Option (List AV → Option AV)
  | 61 => some extSplit
  | 63 => some extJoin
  | 91 => some extContains
  | 106 => some extCut
  | _ => none
noncomputable def E0 : Env := { tb := tb, fn := fns, ext := ext0, keep := fun _ => false, live := live, liveX := liveX, ownNil := fun _ _ => false, ownLit := ownLit, preR := fun _ _ => [], preL := preL }
theorem tb_1 : E0.tb 1 = some ⟨1, 8, .func, [.sc .nilFunc], false⟩ := by kernel_rfl
theorem tb_2 : E0.tb 2 = some ⟨1, 8, .int .i64, [.sc (.int .i64 0)], false⟩ := by kernel_rfl
theorem tb_3 : E0.tb 3 = some ⟨1, 8, .int .i64, [.sc (.int .i64 0)], false⟩ := by kernel_rfl
theorem tb_4 : E0.tb 4 = some ⟨1, 1, .bool, [.sc (.bool false)], false⟩ := by kernel_rfl
theorem tb_5 : E0.tb 5 = some ⟨1, 1, .int .u8, [.sc (.int .u8 0)], false⟩ := by kernel_rfl
theorem tb_6 : E0.tb 6 = some ⟨1, 1, .int .u8, [.sc (.int .u8 0)], false⟩ := by kernel_rfl
theorem tb_7 : E0.tb 7 = some ⟨4, 24, .struct [⟨0, 1, false, 2, false⟩, ⟨1, 1, false, 3, false⟩, ⟨2, 1, false, 4, false⟩, ⟨3, 1, false, 6, false⟩], [.sc (.int .i64 0), .sc (.int .i64 0), .sc (.bool false), .sc (.int .u8 0)], false⟩ := by kernel_rfl
theorem tb_8 : E0.tb 8 = some ⟨4, 24, .struct [⟨0, 1, false, 2, false⟩, ⟨1, 1, false, 3, false⟩, ⟨2, 1, false, 4, false⟩, ⟨3, 1, false, 6, false⟩], [.sc (.int .i64 0), .sc (.int .i64 0), .sc (.bool false), .sc (.int .u8 0)], false⟩ := by kernel_rfl
theorem tb_9 : E0.tb 9 = some ⟨1, 16, .str, [.sc (.string ⟨#[]⟩)], false⟩ := by kernel_rfl
theorem tb_10 : E0.tb 10 = some ⟨1, 16, .str, [.sc (.string ⟨#[]⟩)], false⟩ := by kernel_rfl
theorem tb_11 : E0.tb 11 = some ⟨1, 16, .str, [.sc (.string ⟨#[]⟩)], false⟩ := by kernel_rfl
theorem tb_12 : E0.tb 12 = some ⟨1, 8, .int .u64, [.sc (.int .u64 0)], false⟩ := by kernel_rfl
theorem tb_13 : E0.tb 13 = some ⟨2, 24, .struct [⟨0, 1, false, 9, false⟩, ⟨1, 1, false, 12, false⟩], [.sc (.string ⟨#[]⟩), .sc (.int .u64 0)], false⟩ := by kernel_rfl
theorem tb_14 : E0.tb 14 = some ⟨2, 24, .struct [⟨0, 1, false, 9, false⟩, ⟨1, 1, false, 12, false⟩], [.sc (.string ⟨#[]⟩), .sc (.int .u64 0)], false⟩ := by kernel_rfl
theorem tb_15 : E0.tb 15 = some ⟨1, 8, .ptr 166, [.sc (.pointer none)], false⟩ := by kernel_rfl
theorem tb_16 : E0.tb 16 = some ⟨1, 8, .ptr 169, [.sc (.pointer none)], false⟩ := by kernel_rfl
theorem tb_17 : E0.tb 17 = some ⟨1, 8, .ptr 177, [.sc (.pointer none)], false⟩ := by kernel_rfl
theorem tb_18 : E0.tb 18 = some ⟨1, 8, .struct [⟨0, 1, false, 17, false⟩], [.sc (.pointer none)], false⟩ := by kernel_rfl
theorem tb_19 : E0.tb 19 = some ⟨1, 8, .struct [⟨0, 1, false, 17, false⟩], [.sc (.pointer none)], false⟩ := by kernel_rfl
theorem tb_20 : E0.tb 20 = some ⟨1, 16, .other, [.sc .nilIface], false⟩ := by kernel_rfl
theorem tb_21 : E0.tb 21 = some ⟨1, 4, .int .i32, [.sc (.int .i32 0)], false⟩ := by kernel_rfl
theorem tb_22 : E0.tb 22 = some ⟨1, 24, .slice 78, [.sc (.slice none 0 0)], false⟩ := by kernel_rfl
theorem tb_23 : E0.tb 23 = some ⟨1, 24, .slice 25, [.sc (.slice none 0 0)], false⟩ := by kernel_rfl
theorem tb_24 : E0.tb 24 = some ⟨3, 64, .struct [⟨0, 1, false, 9, false⟩, ⟨1, 1, false, 22, false⟩, ⟨2, 1, false, 23, false⟩], [.sc (.string ⟨#[]⟩), .sc (.slice none 0 0), .sc (.slice none 0 0)], false⟩ := by kernel_rfl
theorem tb_25 : E0.tb 25 = some ⟨3, 64, .struct [⟨0, 1, false, 9, false⟩, ⟨1, 1, false, 22, false⟩, ⟨2, 1, false, 23, false⟩], [.sc (.string ⟨#[]⟩), .sc (.slice none 0 0), .sc (.slice none 0 0)], false⟩ := by kernel_rfl
theorem tb_26 : E0.tb 26 = some ⟨1, 8, .func, [.sc .nilFunc], false⟩ := by kernel_rfl
theorem tb_27 : E0.tb 27 = some ⟨1, 8, .func, [.sc .nilFunc], false⟩ := by kernel_rfl
theorem tb_29 : E0.tb 29 = some ⟨1, 8, .func, [.sc .nilFunc], false⟩ := by kernel_rfl
theorem tb_30 : E0.tb 30 = some ⟨1, 8, .func, [.sc .nilFunc], false⟩ := by kernel_rfl
theorem tb_32 : E0.tb 32 = some ⟨1, 8, .func, [.sc .nilFunc], false⟩ := by kernel_rfl
theorem tb_33 : E0.tb 33 = some ⟨1, 8, .func, [.sc .nilFunc], false⟩ := by kernel_rfl
theorem tb_35 : E0.tb 35 = some ⟨1, 8, .func, [.sc .nilFunc], false⟩ := by kernel_rfl
theorem tb_36 : E0.tb 36 = some ⟨1, 8, .func, [.sc .nilFunc], false⟩ := by kernel_rfl
theorem tb_37 : E0.tb 37 = some ⟨1, 24, .slice 9, [.sc (.slice none 0 0)], false⟩ := by kernel_rfl
theorem tb_39 : E0.tb 39 = some ⟨1, 8, .func, [.sc .nilFunc], false⟩ := by kernel_rfl
theorem tb_40 : E0.tb 40 = some ⟨1, 8, .func, [.sc .nilFunc], false⟩ := by kernel_rfl
theorem tb_41 : E0.tb 41 = some ⟨1, 24, .slice 44, [.sc (.slice none 0 0)], false⟩ := by kernel_rfl
theorem tb_42 : E0.tb 42 = some ⟨1, 8, .func, [.sc .nilFunc], false⟩ := by kernel_rfl
theorem tb_43 : E0.tb 43 = some ⟨4, 80, .struct [⟨0, 1, false, 9, false⟩, ⟨1, 3, true, 25, false⟩], [.sc (.string ⟨#[]⟩), .sc (.string ⟨#[]⟩), .sc (.slice none 0 0), .sc (.slice none 0 0)], false⟩ := by kernel_rfl
theorem tb_44 : E0.tb 44 = some ⟨4, 80, .struct [⟨0, 1, false, 9, false⟩, ⟨1, 3, true, 25, false⟩], [.sc (.string ⟨#[]⟩), .sc (.string ⟨#[]⟩), .sc (.slice none 0 0), .sc (.slice none 0 0)], false⟩ := by kernel_rfl
theorem tb_45 : E0.tb 45 = some ⟨1, 8, .func, [.sc .nilFunc], false⟩ := by kernel_rfl
theorem tb_46 : E0.tb 46 = some ⟨1, 24, .slice 50, [.sc (.slice none 0 0)], false⟩ := by kernel_rfl
theorem tb_47 : E0.tb 47 = some ⟨2, 32, .array 2 9, [.sc (.string ⟨#[]⟩), .sc (.string ⟨#[]⟩)], false⟩ := by kernel_rfl
theorem tb_48 : E0.tb 48 = some ⟨1, 8, .func, [.sc .nilFunc], false⟩ := by kernel_rfl
theorem tb_49 : E0.tb 49 = some ⟨7, 104, .struct [⟨0, 1, false, 9, false⟩, ⟨1, 1, false, 37, false⟩, ⟨2, 1, false, 9, false⟩, ⟨3, 1, false, 9, false⟩, ⟨4, 1, false, 9, false⟩, ⟨5, 1, false, 3, false⟩, ⟨6, 1, false, 3, false⟩], [.sc (.string ⟨#[]⟩), .sc (.slice none 0 0), .sc (.string ⟨#[]⟩), .sc (.string ⟨#[]⟩), .sc (.string ⟨#[]⟩), .sc (.int .i64 0), .sc (.int .i64 0)], false⟩ := by kernel_rfl
theorem tb_50 : E0.tb 50 = some ⟨7, 104, .struct [⟨0, 1, false, 9, false⟩, ⟨1, 1, false, 37, false⟩, ⟨2, 1, false, 9, false⟩, ⟨3, 1, false, 9, false⟩, ⟨4, 1, false, 9, false⟩, ⟨5, 1, false, 3, false⟩, ⟨6, 1, false, 3, false⟩], [.sc (.string ⟨#[]⟩), .sc (.slice none 0 0), .sc (.string ⟨#[]⟩), .sc (.string ⟨#[]⟩), .sc (.string ⟨#[]⟩), .sc (.int .i64 0), .sc (.int .i64 0)], false⟩ := by kernel_rfl
theorem tb_51 : E0.tb 51 = some ⟨1, 8, .int .i64, [.sc (.int .i64 0)], false⟩ := by kernel_rfl
theorem tb_53 : E0.tb 53 = some ⟨1, 8, .func, [.sc .nilFunc], false⟩ := by kernel_rfl
theorem tb_54 : E0.tb 54 = some ⟨1, 8, .func, [.sc .nilFunc], false⟩ := by kernel_rfl
theorem tb_55 : E0.tb 55 = some ⟨1, 8, .func, [.sc .nilFunc], false⟩ := by kernel_rfl
theorem tb_56 : E0.tb 56 = some ⟨1, 8, .func, [.sc .nilFunc], false⟩ := by kernel_rfl
theorem tb_57 : E0.tb 57 = some ⟨1, 8, .func, [.sc .nilFunc], false⟩ := by kernel_rfl
theorem tb_58 : E0.tb 58 = some ⟨1, 8, .func, [.sc .nilFunc], false⟩ := by kernel_rfl
theorem tb_59 : E0.tb 59 = some ⟨1, 8, .func, [.sc .nilFunc], false⟩ := by kernel_rfl
theorem tb_60 : E0.tb 60 = some ⟨1, 8, .func, [.sc .nilFunc], false⟩ := by kernel_rfl
theorem tb_61 : E0.tb 61 = some ⟨3, 40, .struct [⟨0, 1, false, 3, false⟩, ⟨1, 1, false, 9, false⟩, ⟨2, 1, false, 9, false⟩], [.sc (.int .i64 0), .sc (.string ⟨#[]⟩), .sc (.string ⟨#[]⟩)], false⟩ := by kernel_rfl
theorem tb_62 : E0.tb 62 = some ⟨3, 40, .struct [⟨0, 1, false, 3, false⟩, ⟨1, 1, false, 9, false⟩, ⟨2, 1, false, 9, false⟩], [.sc (.int .i64 0), .sc (.string ⟨#[]⟩), .sc (.string ⟨#[]⟩)], false⟩ := by kernel_rfl
theorem tb_63 : E0.tb 63 = some ⟨1, 8, .func, [.sc .nilFunc], false⟩ := by kernel_rfl
theorem tb_64 : E0.tb 64 = some ⟨1, 24, .slice 68, [.sc (.slice none 0 0)], false⟩ := by kernel_rfl
theorem tb_65 : E0.tb 65 = some ⟨1, 8, .func, [.sc .nilFunc], false⟩ := by kernel_rfl
theorem tb_67 : E0.tb 67 = some ⟨1, 8, .func, [.sc .nilFunc], false⟩ := by kernel_rfl
theorem tb_68 : E0.tb 68 = some ⟨3, 40, .struct [⟨0, 1, false, 3, false⟩, ⟨1, 1, false, 9, false⟩, ⟨2, 1, false, 9, false⟩], [.sc (.int .i64 0), .sc (.string ⟨#[]⟩), .sc (.string ⟨#[]⟩)], false⟩ := by kernel_rfl
theorem tb_69 : E0.tb 69 = some ⟨1, 8, .func, [.sc .nilFunc], false⟩ := by kernel_rfl
theorem tb_70 : E0.tb 70 = some ⟨3, 48, .array 3 9, [.sc (.string ⟨#[]⟩), .sc (.string ⟨#[]⟩), .sc (.string ⟨#[]⟩)], false⟩ := by kernel_rfl
theorem tb_71 : E0.tb 71 = some ⟨1, 8, .func, [.sc .nilFunc], false⟩ := by kernel_rfl
theorem tb_72 : E0.tb 72 = some ⟨1, 8, .func, [.sc .nilFunc], false⟩ := by kernel_rfl
theorem tb_73 : E0.tb 73 = some ⟨1, 8, .func, [.sc .nilFunc], false⟩ := by kernel_rfl
theorem tb_74 : E0.tb 74 = some ⟨1, 8, .func, [.sc .nilFunc], false⟩ := by kernel_rfl
theorem tb_75 : E0.tb 75 = some ⟨1, 8, .func, [.sc .nilFunc], false⟩ := by kernel_rfl
theorem tb_76 : E0.tb 76 = some ⟨1, 8, .func, [.sc .nilFunc], false⟩ := by kernel_rfl
theorem tb_77 : E0.tb 77 = some ⟨2, 32, .struct [⟨0, 1, false, 9, false⟩, ⟨1, 1, false, 9, false⟩], [.sc (.string ⟨#[]⟩), .sc (.string ⟨#[]⟩)], true⟩ := by kernel_rfl
theorem tb_78 : E0.tb 78 = some ⟨2, 32, .struct [⟨0, 1, false, 9, false⟩, ⟨1, 1, false, 9, false⟩], [.sc (.string ⟨#[]⟩), .sc (.string ⟨#[]⟩)], true⟩ := by kernel_rfl
theorem tb_79 : E0.tb 79 = some ⟨1, 8, .func, [.sc .nilFunc], false⟩ := by kernel_rfl
theorem tb_80 : E0.tb 80 = some ⟨1, 8, .func, [.sc .nilFunc], false⟩ := by kernel_rfl
theorem tb_81 : E0.tb 81 = some ⟨1, 8, .func, [.sc .nilFunc], false⟩ := by kernel_rfl
theorem tb_82 : E0.tb 82 = some ⟨1, 8, .func, [.sc .nilFunc], false⟩ := by kernel_rfl
theorem tb_83 : E0.tb 83 = some ⟨1, 8, .func, [.sc .nilFunc], false⟩ := by kernel_rfl
theorem tb_84 : E0.tb 84 = some ⟨1, 8, .func, [.sc .nilFunc], false⟩ := by kernel_rfl
theorem tb_85 : E0.tb 85 = some ⟨1, 8, .func, [.sc .nilFunc], false⟩ := by kernel_rfl
theorem tb_86 : E0.tb 86 = some ⟨1, 8, .func, [.sc .nilFunc], false⟩ := by kernel_rfl
theorem tb_87 : E0.tb 87 = some ⟨1, 8, .func, [.sc .nilFunc], false⟩ := by kernel_rfl
theorem tb_88 : E0.tb 88 = some ⟨1, 8, .func, [.sc .nilFunc], false⟩ := by kernel_rfl
theorem tb_89 : E0.tb 89 = some ⟨1, 8, .func, [.sc .nilFunc], false⟩ := by kernel_rfl
theorem tb_90 : E0.tb 90 = some ⟨1, 8, .func, [.sc .nilFunc], false⟩ := by kernel_rfl
theorem tb_91 : E0.tb 91 = some ⟨1, 8, .func, [.sc .nilFunc], false⟩ := by kernel_rfl
theorem tb_92 : E0.tb 92 = some ⟨1, 8, .func, [.sc .nilFunc], false⟩ := by kernel_rfl
theorem tb_93 : E0.tb 93 = some ⟨1, 8, .func, [.sc .nilFunc], false⟩ := by kernel_rfl
theorem tb_94 : E0.tb 94 = some ⟨1, 8, .func, [.sc .nilFunc], false⟩ := by kernel_rfl
theorem tb_95 : E0.tb 95 = some ⟨1, 8, .func, [.sc .nilFunc], false⟩ := by kernel_rfl
theorem tb_96 : E0.tb 96 = some ⟨1, 8, .func, [.sc .nilFunc], false⟩ := by kernel_rfl
theorem tb_97 : E0.tb 97 = some ⟨1, 8, .func, [.sc .nilFunc], false⟩ := by kernel_rfl
theorem tb_98 : E0.tb 98 = some ⟨1, 8, .func, [.sc .nilFunc], false⟩ := by kernel_rfl
theorem tb_99 : E0.tb 99 = some ⟨1, 8, .func, [.sc .nilFunc], false⟩ := by kernel_rfl
theorem tb_100 : E0.tb 100 = some ⟨3, 24, .array 3 3, [.sc (.int .i64 0), .sc (.int .i64 0), .sc (.int .i64 0)], false⟩ := by kernel_rfl
theorem tb_101 : E0.tb 101 = some ⟨1, 8, .func, [.sc .nilFunc], false⟩ := by kernel_rfl
theorem tb_102 : E0.tb 102 = some ⟨1, 8, .func, [.sc .nilFunc], false⟩ := by kernel_rfl
theorem tb_103 : E0.tb 103 = some ⟨1, 8, .ptr 25, [.sc (.pointer none)], false⟩ := by kernel_rfl
theorem tb_104 : E0.tb 104 = some ⟨1, 8, .func, [.sc .nilFunc], false⟩ := by kernel_rfl
theorem tb_105 : E0.tb 105 = some ⟨1, 8, .func, [.sc .nilFunc], false⟩ := by kernel_rfl
theorem tb_106 : E0.tb 106 = some ⟨1, 8, .func, [.sc .nilFunc], false⟩ := by kernel_rfl
theorem tb_107 : E0.tb 107 = some ⟨1, 8, .func, [.sc .nilFunc], false⟩ := by kernel_rfl
theorem tb_108 : E0.tb 108 = some ⟨1, 8, .func, [.sc .nilFunc], false⟩ := by kernel_rfl
theorem tb_109 : E0.tb 109 = some ⟨1, 8, .func, [.sc .nilFunc], false⟩ := by kernel_rfl
theorem tb_110 : E0.tb 110 = some ⟨1, 8, .func, [.sc .nilFunc], false⟩ := by kernel_rfl
theorem tb_111 : E0.tb 111 = some ⟨1, 8, .func, [.sc .nilFunc], false⟩ := by kernel_rfl
theorem tb_112 : E0.tb 112 = some ⟨1, 8, .ptr 115, [.sc (.pointer none)], false⟩ := by kernel_rfl
theorem tb_113 : E0.tb 113 = some ⟨1, 24, .slice 5, [.sc (.slice none 0 0)], false⟩ := by kernel_rfl
theorem tb_114 : E0.tb 114 = some ⟨2, 32, .struct [⟨0, 1, false, 112, false⟩, ⟨1, 1, false, 113, false⟩], [.sc (.pointer none), .sc (.slice none 0 0)], false⟩ := by kernel_rfl
theorem tb_115 : E0.tb 115 = some ⟨2, 32, .struct [⟨0, 1, false, 112, false⟩, ⟨1, 1, false, 113, false⟩], [.sc (.pointer none), .sc (.slice none 0 0)], false⟩ := by kernel_rfl
theorem tb_116 : E0.tb 116 = some ⟨1, 8, .func, [.sc .nilFunc], false⟩ := by kernel_rfl
theorem tb_117 : E0.tb 117 = some ⟨1, 16, .other, [.sc .nilIface], false⟩ := by kernel_rfl
theorem tb_118 : E0.tb 118 = some ⟨1, 16, .other, [.sc .nilIface], false⟩ := by kernel_rfl
theorem tb_120 : E0.tb 120 = some ⟨1, 8, .func, [.sc .nilFunc], false⟩ := by kernel_rfl
theorem tb_121 : E0.tb 121 = some ⟨1, 8, .func, [.sc .nilFunc], false⟩ := by kernel_rfl
theorem tb_123 : E0.tb 123 = some ⟨1, 8, .func, [.sc .nilFunc], false⟩ := by kernel_rfl
theorem tb_124 : E0.tb 124 = some ⟨1, 24, .slice 3, [.sc (.slice none 0 0)], false⟩ := by kernel_rfl
theorem tb_125 : E0.tb 125 = some ⟨1, 4, .int .u32, [.sc (.int .u32 0)], false⟩ := by kernel_rfl
theorem tb_126 : E0.tb 126 = some ⟨1, 8, .func, [.sc .nilFunc], false⟩ := by kernel_rfl
theorem tb_127 : E0.tb 127 = some ⟨1, 8, .func, [.sc .nilFunc], false⟩ := by kernel_rfl
theorem tb_128 : E0.tb 128 = some ⟨1, 8, .func, [.sc .nilFunc], false⟩ := by kernel_rfl
theorem tb_129 : E0.tb 129 = some ⟨1, 8, .func, [.sc .nilFunc], false⟩ := by kernel_rfl
theorem tb_130 : E0.tb 130 = some ⟨1, 8, .func, [.sc .nilFunc], false⟩ := by kernel_rfl
theorem tb_131 : E0.tb 131 = some ⟨1, 8, .func, [.sc .nilFunc], false⟩ := by kernel_rfl
theorem tb_133 : E0.tb 133 = some ⟨1, 8, .func, [.sc .nilFunc], false⟩ := by kernel_rfl
theorem tb_134 : E0.tb 134 = some ⟨1, 8, .func, [.sc .nilFunc], false⟩ := by kernel_rfl
theorem tb_135 : E0.tb 135 = some ⟨1, 8, .int .u64, [.sc (.int .u64 0)], false⟩ := by kernel_rfl
theorem tb_136 : E0.tb 136 = some ⟨1, 8, .func, [.sc .nilFunc], false⟩ := by kernel_rfl
theorem tb_137 : E0.tb 137 = some ⟨1, 8, .ptr 5, [.sc (.pointer none)], false⟩ := by kernel_rfl
theorem tb_139 : E0.tb 139 = some ⟨1, 8, .func, [.sc .nilFunc], false⟩ := by kernel_rfl
theorem tb_140 : E0.tb 140 = some ⟨1, 8, .func, [.sc .nilFunc], false⟩ := by kernel_rfl
theorem tb_141 : E0.tb 141 = some ⟨1, 8, .func, [.sc .nilFunc], false⟩ := by kernel_rfl
theorem tb_142 : E0.tb 142 = some ⟨1, 8, .map 9 3, [.sc (.map none)], false⟩ := by kernel_rfl
theorem tb_143 : E0.tb 143 = some ⟨2, 24, .struct [⟨0, 1, false, 9, false⟩, ⟨1, 1, false, 142, false⟩], [.sc (.string ⟨#[]⟩), .sc (.map none)], false⟩ := by kernel_rfl
theorem tb_144 : E0.tb 144 = some ⟨2, 24, .struct [⟨0, 1, false, 9, false⟩, ⟨1, 1, false, 142, false⟩], [.sc (.string ⟨#[]⟩), .sc (.map none)], false⟩ := by kernel_rfl
theorem tb_146 : E0.tb 146 = some ⟨1, 8, .func, [.sc .nilFunc], false⟩ := by kernel_rfl
theorem tb_148 : E0.tb 148 = some ⟨1, 8, .func, [.sc .nilFunc], false⟩ := by kernel_rfl
theorem tb_149 : E0.tb 149 = some ⟨1, 8, .func, [.sc .nilFunc], false⟩ := by kernel_rfl
theorem tb_151 : E0.tb 151 = some ⟨1, 8, .func, [.sc .nilFunc], false⟩ := by kernel_rfl
theorem tb_152 : E0.tb 152 = some ⟨1, 8, .func, [.sc .nilFunc], false⟩ := by kernel_rfl
theorem tb_153 : E0.tb 153 = some ⟨1, 8, .func, [.sc .nilFunc], false⟩ := by kernel_rfl
theorem tb_155 : E0.tb 155 = some ⟨1, 8, .func, [.sc .nilFunc], false⟩ := by kernel_rfl
theorem tb_156 : E0.tb 156 = some ⟨1, 8, .func, [.sc .nilFunc], false⟩ := by kernel_rfl
theorem tb_157 : E0.tb 157 = some ⟨1, 8, .ptr 144, [.sc (.pointer none)], false⟩ := by kernel_rfl
theorem tb_158 : E0.tb 158 = some ⟨1, 8, .func, [.sc .nilFunc], false⟩ := by kernel_rfl
theorem tb_160 : E0.tb 160 = some ⟨1, 8, .func, [.sc .nilFunc], false⟩ := by kernel_rfl
theorem tb_161 : E0.tb 161 = some ⟨256, 256, .array 256 5, [.sc (.int .u8 0), .sc (.int .u8 0), .sc (.int .u8 0), .sc (.int .u8 0), .sc (.int .u8 0), .sc (.int .u8 0), .sc (.int .u8 0), .sc (.int .u8 0), .sc (.int .u8 0), .sc (.int .u8 0), .sc (.int .u8 0), .sc (.int .u8 0), .sc (.int .u8 0), .sc (.int .u8 0), .sc (.int .u8 0), .sc (.int .u8 0), .sc (.int .u8 0), .sc (.int .u8 0), .sc (.int .u8 0), .sc (.int .u8 0), .sc (.int .u8 0), .sc (.int .u8 0), .sc (.int .u8 0), .sc (.int .u8 0), .sc (.int .u8 0), .sc (.int .u8 0), .sc (.int .u8 0), .sc (.int .u8 0), .sc (.int .u8 0), .sc (.int .u8 0), .sc (.int .u8 0), .sc (.int .u8 0), .sc (.int .u8 0), .sc (.int .u8 0), .sc (.int .u8 0), .sc (.int .u8 0), .sc (.int .u8 0), .sc (.int .u8 0), .sc (.int .u8 0), .sc (.int .u8 0), .sc (.int .u8 0), .sc (.int .u8 0), .sc (.int .u8 0), .sc (.int .u8 0), .sc (.int .u8 0), .sc (.int .u8 0), .sc (.int .u8 0), .sc (.int .u8 0), .sc (.int .u8 0), .sc (.int .u8 0), .sc (.int .u8 0), .sc (.int .u8 0), .sc (.int .u8 0), .sc (.int .u8 0), .sc (.int .u8 0), .sc (.int .u8 0), .sc (.int .u8 0), .sc (.int .u8 0), .sc (.int .u8 0), .sc (.int .u8 0), .sc (.int .u8 0), .sc (.int .u8 0), .sc (.int .u8 0), .sc (.int .u8 0), .sc (.int .u8 0), .sc (.int .u8 0), .sc (.int .u8 0), .sc (.int .u8 0), .sc (.int .u8 0), .sc (.int .u8 0), .sc (.int .u8 0), .sc (.int .u8 0), .sc (.int .u8 0), .sc (.int .u8 0), .sc (.int .u8 0), .sc (.int .u8 0), .sc (.int .u8 0), .sc (.int .u8 0), .sc (.int .u8 0), .sc (.int .u8 0), .sc (.int .u8 0), .sc (.int .u8 0), .sc (.int .u8 0), .sc (.int .u8 0), .sc (.int .u8 0), .sc (.int .u8 0), .sc (.int .u8 0), .sc (.int .u8 0), .sc (.int .u8 0), .sc (.int .u8 0), .sc (.int .u8 0), .sc (.int .u8 0), .sc (.int .u8 0), .sc (.int .u8 0), .sc (.int .u8 0), .sc (.int .u8 0), .sc (.int .u8 0), .sc (.int .u8 0), .sc (.int .u8 0), .sc (.int .u8 0), .sc (.int .u8 0), .sc (.int .u8 0), .sc (.int .u8 0), .sc (.int .u8 0), .sc (.int .u8 0), .sc (.int .u8 0), .sc (.int .u8 0), .sc (.int .u8 0), .sc (.int .u8 0), .sc (.int .u8 0), .sc (.int .u8 0), .sc (.int .u8 0), .sc (.int .u8 0), .sc (.int .u8 0), .sc (.int .u8 0), .sc (.int .u8 0), .sc (.int .u8 0), .sc (.int .u8 0), .sc (.int .u8 0), .sc (.int .u8 0), .sc (.int .u8 0), .sc (.int .u8 0), .sc (.int .u8 0), .sc (.int .u8 0), .sc (.int .u8 0), .sc (.int .u8 0), .sc (.int .u8 0), .sc (.int .u8 0), .sc (.int .u8 0), .sc (.int .u8 0), .sc (.int .u8 0), .sc (.int .u8 0), .sc (.int .u8 0), .sc (.int .u8 0), .sc (.int .u8 0), .sc (.int .u8 0), .sc (.int .u8 0), .sc (.int .u8 0), .sc (.int .u8 0), .sc (.int .u8 0), .sc (.int .u8 0), .sc (.int .u8 0), .sc (.int .u8 0), .sc (.int .u8 0), .sc (.int .u8 0), .sc (.int .u8 0), .sc (.int .u8 0), .sc (.int .u8 0), .sc (.int .u8 0), .sc (.int .u8 0), .sc (.int .u8 0), .sc (.int .u8 0), .sc (.int .u8 0), .sc (.int .u8 0), .sc (.int .u8 0), .sc (.int .u8 0), .sc (.int .u8 0), .sc (.int .u8 0), .sc (.int .u8 0), .sc (.int .u8 0), .sc (.int .u8 0), .sc (.int .u8 0), .sc (.int .u8 0), .sc (.int .u8 0), .sc (.int .u8 0), .sc (.int .u8 0), .sc (.int .u8 0), .sc (.int .u8 0), .sc (.int .u8 0), .sc (.int .u8 0), .sc (.int .u8 0), .sc (.int .u8 0), .sc (.int .u8 0), .sc (.int .u8 0), .sc (.int .u8 0), .sc (.int .u8 0), .sc (.int .u8 0), .sc (.int .u8 0), .sc (.int .u8 0), .sc (.int .u8 0), .sc (.int .u8 0), .sc (.int .u8 0), .sc (.int .u8 0), .sc (.int .u8 0), .sc (.int .u8 0), .sc (.int .u8 0), .sc (.int .u8 0), .sc (.int .u8 0), .sc (.int .u8 0), .sc (.int .u8 0), .sc (.int .u8 0), .sc (.int .u8 0), .sc (.int .u8 0), .sc (.int .u8 0), .sc (.int .u8 0), .sc (.int .u8 0), .sc (.int .u8 0), .sc (.int .u8 0), .sc (.int .u8 0), .sc (.int .u8 0), .sc (.int .u8 0), .sc (.int .u8 0), .sc (.int .u8 0), .sc (.int .u8 0), .sc (.int .u8 0), .sc (.int .u8 0), .sc (.int .u8 0), .sc (.int .u8 0), .sc (.int .u8 0), .sc (.int .u8 0), .sc (.int .u8 0), .sc (.int .u8 0), .sc (.int .u8 0), .sc (.int .u8 0), .sc (.int .u8 0), .sc (.int .u8 0), .sc (.int .u8 0), .sc (.int .u8 0), .sc (.int .u8 0), .sc (.int .u8 0), .sc (.int .u8 0), .sc (.int .u8 0), .sc (.int .u8 0), .sc (.int .u8 0), .sc (.int .u8 0), .sc (.int .u8 0), .sc (.int .u8 0), .sc (.int .u8 0), .sc (.int .u8 0), .sc (.int .u8 0), .sc (.int .u8 0), .sc (.int .u8 0), .sc (.int .u8 0), .sc (.int .u8 0), .sc (.int .u8 0), .sc (.int .u8 0), .sc (.int .u8 0), .sc (.int .u8 0), .sc (.int .u8 0), .sc (.int .u8 0), .sc (.int .u8 0), .sc (.int .u8 0), .sc (.int .u8 0), .sc (.int .u8 0), .sc (.int .u8 0), .sc (.int .u8 0), .sc (.int .u8 0), .sc (.int .u8 0), .sc (.int .u8 0), .sc (.int .u8 0), .sc (.int .u8 0), .sc (.int .u8 0), .sc (.int .u8 0), .sc (.int .u8 0), .sc (.int .u8 0), .sc (.int .u8 0)], false⟩ := by kernel_rfl
theorem tb_162 : E0.tb 162 = some ⟨2, 2, .struct [⟨0, 1, false, 5, false⟩, ⟨1, 1, false, 5, false⟩], [.sc (.int .u8 0), .sc (.int .u8 0)], false⟩ := by kernel_rfl
theorem tb_163 : E0.tb 163 = some ⟨2, 2, .struct [⟨0, 1, false, 5, false⟩, ⟨1, 1, false, 5, false⟩], [.sc (.int .u8 0), .sc (.int .u8 0)], false⟩ := by kernel_rfl
theorem tb_164 : E0.tb 164 = some ⟨32, 32, .array 16 163, [.sc (.int .u8 0), .sc (.int .u8 0), .sc (.int .u8 0), .sc (.int .u8 0), .sc (.int .u8 0), .sc (.int .u8 0), .sc (.int .u8 0), .sc (.int .u8 0), .sc (.int .u8 0), .sc (.int .u8 0), .sc (.int .u8 0), .sc (.int .u8 0), .sc (.int .u8 0), .sc (.int .u8 0), .sc (.int .u8 0), .sc (.int .u8 0), .sc (.int .u8 0), .sc (.int .u8 0), .sc (.int .u8 0), .sc (.int .u8 0), .sc (.int .u8 0), .sc (.int .u8 0), .sc (.int .u8 0), .sc (.int .u8 0), .sc (.int .u8 0), .sc (.int .u8 0), .sc (.int .u8 0), .sc (.int .u8 0), .sc (.int .u8 0), .sc (.int .u8 0), .sc (.int .u8 0), .sc (.int .u8 0)], false⟩ := by kernel_rfl
theorem tb_165 : E0.tb 165 = some ⟨4, 40, .struct [⟨0, 1, false, 17, false⟩, ⟨1, 1, false, 17, false⟩, ⟨2, 1, false, 17, false⟩, ⟨3, 1, false, 9, false⟩], [.sc (.pointer none), .sc (.pointer none), .sc (.pointer none), .sc (.string ⟨#[]⟩)], false⟩ := by kernel_rfl
theorem tb_166 : E0.tb 166 = some ⟨4, 40, .struct [⟨0, 1, false, 17, false⟩, ⟨1, 1, false, 17, false⟩, ⟨2, 1, false, 17, false⟩, ⟨3, 1, false, 9, false⟩], [.sc (.pointer none), .sc (.pointer none), .sc (.pointer none), .sc (.string ⟨#[]⟩)], false⟩ := by kernel_rfl
theorem tb_167 : E0.tb 167 = some ⟨0, 0, .array 0 16, [], false⟩ := by kernel_rfl
theorem tb_168 : E0.tb 168 = some ⟨0, 0, .struct [⟨0, 0, true, 167, true⟩], [], false⟩ := by kernel_rfl
theorem tb_169 : E0.tb 169 = some ⟨0, 0, .struct [⟨0, 0, true, 167, true⟩], [], false⟩ := by kernel_rfl
theorem tb_170 : E0.tb 170 = some ⟨1, 8, .func, [.sc .nilFunc], false⟩ := by kernel_rfl
theorem tb_171 : E0.tb 171 = some ⟨1, 1, .int .u8, [.sc (.int .u8 0)], false⟩ := by kernel_rfl
theorem tb_172 : E0.tb 172 = some ⟨1, 1, .int .u8, [.sc (.int .u8 0)], false⟩ := by kernel_rfl
theorem tb_173 : E0.tb 173 = some ⟨1, 8, .func, [.sc .nilFunc], false⟩ := by kernel_rfl
theorem tb_174 : E0.tb 174 = some ⟨1, 4, .int .i32, [.sc (.int .i32 0)], false⟩ := by kernel_rfl
theorem tb_175 : E0.tb 175 = some ⟨1, 4, .int .i32, [.sc (.int .i32 0)], false⟩ := by kernel_rfl
theorem tb_176 : E0.tb 176 = some ⟨11, 48, .struct [⟨0, 1, false, 12, false⟩, ⟨1, 1, false, 12, false⟩, ⟨2, 1, false, 125, false⟩, ⟨3, 1, false, 171, false⟩, ⟨4, 1, false, 5, false⟩, ⟨5, 1, false, 5, false⟩, ⟨6, 1, false, 172, false⟩, ⟨7, 1, false, 173, false⟩, ⟨8, 1, false, 137, false⟩, ⟨9, 1, false, 174, false⟩, ⟨10, 1, false, 175, false⟩], [.sc (.int .u64 0), .sc (.int .u64 0), .sc (.int .u32 0), .sc (.int .u8 0), .sc (.int .u8 0), .sc (.int .u8 0), .sc (.int .u8 0), .sc .nilFunc, .sc (.pointer none), .sc (.int .i32 0), .sc (.int .i32 0)], false⟩ := by kernel_rfl
theorem tb_177 : E0.tb 177 = some ⟨11, 48, .struct [⟨0, 1, false, 12, false⟩, ⟨1, 1, false, 12, false⟩, ⟨2, 1, false, 125, false⟩, ⟨3, 1, false, 171, false⟩, ⟨4, 1, false, 5, false⟩, ⟨5, 1, false, 5, false⟩, ⟨6, 1, false, 172, false⟩, ⟨7, 1, false, 173, false⟩, ⟨8, 1, false, 137, false⟩, ⟨9, 1, false, 174, false⟩, ⟨10, 1, false, 175, false⟩], [.sc (.int .u64 0), .sc (.int .u64 0), .sc (.int .u32 0), .sc (.int .u8 0), .sc (.int .u8 0), .sc (.int .u8 0), .sc (.int .u8 0), .sc .nilFunc, .sc (.pointer none), .sc (.int .i32 0), .sc (.int .i32 0)], false⟩ := by kernel_rfl
theorem fn_0 : E0.fn 0 = some Tryd.f0 := by kernel_rfl
theorem fn_1 : E0.fn 1 = some Tryd.f1 := by kernel_rfl
theorem fn_2 : E0.fn 2 = some Tryd.f2 := by kernel_rfl
theorem fn_3 : E0.fn 3 = some Tryd.f3 := by kernel_rfl
theorem fn_4 : E0.fn 4 = some Tryd.f4 := by kernel_rfl
theorem fn_5 : E0.fn 5 = some Tryd.f5 := by kernel_rfl
theorem fn_6 : E0.fn 6 = some Tryd.f6 := by kernel_rfl
theorem fn_7 : E0.fn 7 = some Tryd.f7 := by kernel_rfl
theorem fn_8 : E0.fn 8 = some Tryd.f8 := by kernel_rfl
theorem fn_9 : E0.fn 9 = some Tryd.f9 := by kernel_rfl
theorem fn_10 : E0.fn 10 = some Tryd.f10 := by kernel_rfl
theorem fn_11 : E0.fn 11 = some Tryd.f11 := by kernel_rfl
theorem fn_12 : E0.fn 12 = some Tryd.f12 := by kernel_rfl
theorem fn_13 : E0.fn 13 = some Tryd.f13 := by kernel_rfl
theorem fn_14 : E0.fn 14 = some Tryd.f14 := by kernel_rfl
theorem fn_15 : E0.fn 15 = some Tryd.f15 := by kernel_rfl
theorem fn_16 : E0.fn 16 = some Tryd.f16 := by kernel_rfl
theorem fn_17 : E0.fn 17 = some Tryd.f17 := by kernel_rfl
theorem fn_18 : E0.fn 18 = some Tryd.f18 := by kernel_rfl
theorem fn_19 : E0.fn 19 = some Tryd.f19 := by kernel_rfl
theorem fn_20 : E0.fn 20 = some Tryd.f20 := by kernel_rfl
theorem fn_21 : E0.fn 21 = some Tryd.f21 := by kernel_rfl
theorem fn_22 : E0.fn 22 = some Tryd.f22 := by kernel_rfl
theorem fn_23 : E0.fn 23 = some Tryd.f23 := by kernel_rfl
theorem fn_24 : E0.fn 24 = some Tryd.f24 := by kernel_rfl
theorem fn_25 : E0.fn 25 = some Tryd.f25 := by kernel_rfl
theorem fn_26 : E0.fn 26 = some Tryd.f26 := by kernel_rfl
theorem fn_27 : E0.fn 27 = some Tryd.f27 := by kernel_rfl
theorem fn_28 : E0.fn 28 = some Tryd.f28 := by kernel_rfl
theorem fn_29 : E0.fn 29 = some Tryd.f29 := by kernel_rfl
theorem fn_30 : E0.fn 30 = some Tryd.f30 := by kernel_rfl
theorem fn_31 : E0.fn 31 = some Tryd.f31 := by kernel_rfl
theorem fn_32 : E0.fn 32 = some Tryd.f32 := by kernel_rfl
theorem fn_33 : E0.fn 33 = some Tryd.f33 := by kernel_rfl
theorem fn_34 : E0.fn 34 = some Tryd.f34 := by kernel_rfl
theorem fn_35 : E0.fn 35 = some Tryd.f35 := by kernel_rfl
theorem fn_36 : E0.fn 36 = some Tryd.f36 := by kernel_rfl
theorem fn_37 : E0.fn 37 = some Tryd.f37 := by kernel_rfl
theorem fn_38 : E0.fn 38 = some Tryd.f38 := by kernel_rfl
theorem fn_39 : E0.fn 39 = some Tryd.f39 := by kernel_rfl
theorem fn_40 : E0.fn 40 = some Tryd.f40 := by kernel_rfl
theorem fn_41 : E0.fn 41 = some Tryd.f41 := by kernel_rfl
theorem fn_42 : E0.fn 42 = some Tryd.f42 := by kernel_rfl
theorem fn_43 : E0.fn 43 = some Tryd.f43 := by kernel_rfl
theorem fn_44 : E0.fn 44 = some Tryd.f44 := by kernel_rfl
theorem fn_45 : E0.fn 45 = some Tryd.f45 := by kernel_rfl
theorem fn_46 : E0.fn 46 = some Tryd.f46 := by kernel_rfl
theorem fn_47 : E0.fn 47 = some Tryd.f47 := by kernel_rfl
theorem fn_48 : E0.fn 48 = some Tryd.f48 := by kernel_rfl
theorem fn_49 : E0.fn 49 = some Tryd.f49 := by kernel_rfl
theorem fn_50 : E0.fn 50 = some Tryd.f50 := by kernel_rfl
theorem fn_51 : E0.fn 51 = some Tryd.f51 := by kernel_rfl
theorem fn_52 : E0.fn 52 = some Tryd.f52 := by kernel_rfl
theorem fn_53 : E0.fn 53 = some Tryd.f53 := by kernel_rfl
theorem fn_54 : E0.fn 54 = some Tryd.f54 := by kernel_rfl
theorem fn_55 : E0.fn 55 = some Tryd.f55 := by kernel_rfl
theorem fn_56 : E0.fn 56 = some Tryd.f56 := by kernel_rfl
theorem fn_57 : E0.fn 57 = some Tryd.f57 := by kernel_rfl
theorem fn_58 : E0.fn 58 = some Tryd.f58 := by kernel_rfl
theorem fn_59 : E0.fn 59 = some Tryd.f59 := by kernel_rfl
theorem fn_60 : E0.fn 60 = some Tryd.f60 := by kernel_rfl
theorem fn_61 : E0.fn 61 = some Tryd.f61 := by kernel_rfl
theorem fn_62 : E0.fn 62 = some Tryd.f62 := by kernel_rfl
theorem fn_63 : E0.fn 63 = some Tryd.f63 := by kernel_rfl
theorem fn_64 : E0.fn 64 = some Tryd.f64 := by kernel_rfl
theorem fn_65 : E0.fn 65 = some Tryd.f65 := by kernel_rfl
theorem fn_66 : E0.fn 66 = some Tryd.f66 := by kernel_rfl
theorem fn_67 : E0.fn 67 = some Tryd.f67 := by kernel_rfl
theorem fn_68 : E0.fn 68 = some Tryd.f68 := by kernel_rfl
theorem fn_69 : E0.fn 69 = some Tryd.f69 := by kernel_rfl
theorem fn_70 : E0.fn 70 = some Tryd.f70 := by kernel_rfl
theorem fn_71 : E0.fn 71 = some Tryd.f71 := by kernel_rfl
theorem fn_72 : E0.fn 72 = some Tryd.f72 := by kernel_rfl
theorem fn_73 : E0.fn 73 = some Tryd.f73 := by kernel_rfl
theorem fn_74 : E0.fn 74 = some Tryd.f74 := by kernel_rfl
theorem fn_75 : E0.fn 75 = some Tryd.f75 := by kernel_rfl
theorem fn_76 : E0.fn 76 = some Tryd.f76 := by kernel_rfl
theorem fn_77 : E0.fn 77 = some Tryd.f77 := by kernel_rfl
theorem fn_78 : E0.fn 78 = some Tryd.f78 := by kernel_rfl
theorem fn_79 : E0.fn 79 = some Tryd.f79 := by kernel_rfl
theorem fn_80 : E0.fn 80 = some Tryd.f80 := by kernel_rfl
theorem fn_81 : E0.fn 81 = some Tryd.f81 := by kernel_rfl
theorem fn_82 : E0.fn 82 = some Tryd.f82 := by kernel_rfl
theorem fn_83 : E0.fn 83 = some Tryd.f83 := by kernel_rfl
theorem fn_84 : E0.fn 84 = some Tryd.f84 := by kernel_rfl
theorem fn_85 : E0.fn 85 = some Tryd.f85 := by kernel_rfl
theorem fn_86 : E0.fn 86 = some Tryd.f86 := by kernel_rfl
theorem fn_87 : E0.fn 87 = some Tryd.f87 := by kernel_rfl
theorem fn_88 : E0.fn 88 = some Tryd.f88 := by kernel_rfl
theorem fn_89 : E0.fn 89 = some Tryd.f89 := by kernel_rfl
theorem fn_90 : E0.fn 90 = some Tryd.f90 := by kernel_rfl
theorem fn_91 : E0.fn 91 = some Tryd.f91 := by kernel_rfl
theorem fn_92 : E0.fn 92 = some Tryd.f92 := by kernel_rfl
theorem fn_93 : E0.fn 93 = some Tryd.f93 := by kernel_rfl
theorem fn_94 : E0.fn 94 = some Tryd.f94 := by kernel_rfl
theorem fn_95 : E0.fn 95 = some Tryd.f95 := by kernel_rfl
theorem fn_96 : E0.fn 96 = some Tryd.f96 := by kernel_rfl
theorem fn_97 : E0.fn 97 = some Tryd.f97 := by kernel_rfl
theorem fn_98 : E0.fn 98 = some Tryd.f98 := by kernel_rfl
theorem fn_99 : E0.fn 99 = some Tryd.f99 := by kernel_rfl
theorem fn_100 : E0.fn 100 = some Tryd.f100 := by kernel_rfl
theorem fn_101 : E0.fn 101 = some Tryd.f101 := by kernel_rfl
theorem fn_102 : E0.fn 102 = some Tryd.f102 := by kernel_rfl
theorem fn_103 : E0.fn 103 = some Tryd.f103 := by kernel_rfl
theorem fn_104 : E0.fn 104 = some Tryd.f104 := by kernel_rfl
theorem fn_105 : E0.fn 105 = some Tryd.f105 := by kernel_rfl
theorem fn_106 : E0.fn 106 = some Tryd.f106 := by kernel_rfl
theorem fn_107 : E0.fn 107 = some Tryd.f107 := by kernel_rfl
theorem fn_108 : E0.fn 108 = some Tryd.f108 := by kernel_rfl
theorem fn_109 : E0.fn 109 = some Tryd.f109 := by kernel_rfl
theorem fn_110 : E0.fn 110 = some Tryd.f110 := by kernel_rfl
theorem fn_111 : E0.fn 111 = some Tryd.f111 := by kernel_rfl
theorem fn_112 : E0.fn 112 = some Tryd.f112 := by kernel_rfl
theorem fn_113 : E0.fn 113 = some Tryd.f113 := by kernel_rfl
theorem fn_114 : E0.fn 114 = some Tryd.f114 := by kernel_rfl
theorem fn_115 : E0.fn 115 = some Tryd.f115 := by kernel_rfl
theorem fn_116 : E0.fn 116 = some Tryd.f116 := by kernel_rfl
theorem fn_117 : E0.fn 117 = some Tryd.f117 := by kernel_rfl
theorem fn_118 : E0.fn 118 = some Tryd.f118 := by kernel_rfl
theorem fn_119 : E0.fn 119 = some Tryd.f119 := by kernel_rfl
theorem fn_120 : E0.fn 120 = some Tryd.f120 := by kernel_rfl
theorem fn_121 : E0.fn 121 = some Tryd.f121 := by kernel_rfl
theorem fn_122 : E0.fn 122 = some Tryd.f122 := by kernel_rfl
theorem fn_123 : E0.fn 123 = some Tryd.f123 := by kernel_rfl
theorem fn_124 : E0.fn 124 = some Tryd.f124 := by kernel_rfl
theorem fn_125 : E0.fn 125 = some Tryd.f125 := by kernel_rfl
theorem fn_126 : E0.fn 126 = some Tryd.f126 := by kernel_rfl
theorem fn_127 : E0.fn 127 = some Tryd.f127 := by kernel_rfl
theorem fn_128 : E0.fn 128 = some Tryd.f128 := by kernel_rfl
theorem fn_129 : E0.fn 129 = some Tryd.f129 := by kernel_rfl
theorem fn_130 : E0.fn 130 = some Tryd.f130 := by kernel_rfl
theorem fn_131 : E0.fn 131 = some Tryd.f131 := by kernel_rfl
theorem fn_132 : E0.fn 132 = some Tryd.f132 := by kernel_rfl
theorem fn_133 : E0.fn 133 = some Tryd.f133 := by kernel_rfl
theorem fn_134 : E0.fn 134 = some Tryd.f134 := by kernel_rfl
theorem fn_135 : E0.fn 135 = some Tryd.f135 := by kernel_rfl
theorem fn_136 : E0.fn 136 = some Tryd.f136 := by kernel_rfl
theorem fn_137 : E0.fn 137 = some Tryd.f137 := by kernel_rfl
theorem fn_138 : E0.fn 138 = some Tryd.f138 := by kernel_rfl
theorem fn_139 : E0.fn 139 = some Tryd.f139 := by kernel_rfl
theorem fn_140 : E0.fn 140 = some Tryd.f140 := by kernel_rfl
theorem fn_141 : E0.fn 141 = some Tryd.f141 := by kernel_rfl
theorem fn_142 : E0.fn 142 = some Tryd.f142 := by kernel_rfl
theorem fn_143 : E0.fn 143 = some Tryd.f143 := by kernel_rfl
theorem fn_144 : E0.fn 144 = some Tryd.f144 := by kernel_rfl
theorem fn_145 : E0.fn 145 = some Tryd.f145 := by kernel_rfl
theorem fn_146 : E0.fn 146 = some Tryd.f146 := by kernel_rfl
theorem fn_147 : E0.fn 147 = some Tryd.f147 := by kernel_rfl
theorem fn_148 : E0.fn 148 = some Tryd.f148 := by kernel_rfl
theorem fn_149 : E0.fn 149 = some Tryd.f149 := by kernel_rfl
theorem fn_150 : E0.fn 150 = some Tryd.f150 := by kernel_rfl
theorem fn_151 : E0.fn 151 = some Tryd.f151 := by kernel_rfl
theorem fn_152 : E0.fn 152 = some Tryd.f152 := by kernel_rfl
theorem fn_153 : E0.fn 153 = some Tryd.f153 := by kernel_rfl
theorem fn_154 : E0.fn 154 = some Tryd.f154 := by kernel_rfl
theorem fn_155 : E0.fn 155 = some Tryd.f155 := by kernel_rfl
theorem fn_156 : E0.fn 156 = some Tryd.f156 := by kernel_rfl
theorem fn_157 : E0.fn 157 = some Tryd.f157 := by kernel_rfl
theorem fn_158 : E0.fn 158 = some Tryd.f158 := by kernel_rfl
theorem fn_159 : E0.fn 159 = some Tryd.f159 := by kernel_rfl
theorem fn_160 : E0.fn 160 = some Tryd.f160 := by kernel_rfl
theorem fn_161 : E0.fn 161 = some Tryd.f161 := by kernel_rfl
theorem fn_162 : E0.fn 162 = some Tryd.f162 := by kernel_rfl
theorem fn_163 : E0.fn 163 = some Tryd.f163 := by kernel_rfl
theorem fn_164 : E0.fn 164 = some Tryd.f164 := by kernel_rfl
theorem fn_165 : E0.fn 165 = some Tryd.f165 := by kernel_rfl
theorem fn_166 : E0.fn 166 = some Tryd.f166 := by kernel_rfl
theorem fn_167 : E0.fn 167 = some Tryd.f167 := by kernel_rfl
theorem fn_168 : E0.fn 168 = some Tryd.f168 := by kernel_rfl
theorem fn_169 : E0.fn 169 = some Tryd.f169 := by kernel_rfl
theorem fn_170 : E0.fn 170 = some Tryd.f170 := by kernel_rfl
theorem fn_171 : E0.fn 171 = some Tryd.f171 := by kernel_rfl
theorem fn_172 : E0.fn 172 = some Tryd.f172 := by kernel_rfl
theorem fn_173 : E0.fn 173 = some Tryd.f173 := by kernel_rfl

end Go.Proofs.YticlelmlnadclaaDoor
