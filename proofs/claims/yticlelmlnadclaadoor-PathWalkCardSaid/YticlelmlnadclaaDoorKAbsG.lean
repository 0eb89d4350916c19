/-
  What is known of the package-level variables when a call begins. A definition alone; no condition.
-/
import Derived.Calls
set_option linter.unusedVariables false
set_option linter.unusedSimpArgs false
set_option linter.unusedSectionVars false
set_option linter.unnecessarySimpa false
set_option linter.deprecated false
namespace Go.Abs
/-- a variable of the library's holds a number -/
def Glob (w : Go.World) : Prop := ∃ m, w.cell? ⟨0, 0, none⟩ = some (.int .i64 m)
end Go.Abs
