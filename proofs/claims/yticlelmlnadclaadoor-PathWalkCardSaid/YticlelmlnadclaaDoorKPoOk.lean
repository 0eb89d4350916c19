/-
  What is known of the sizes of a value that was read. Printed by program. Definitions; no condition.
-/
import Derived.Test.YticlelmlnadclaaDoorKPoTypes
import Derived.Lay
set_option linter.unusedVariables false
set_option linter.unusedSimpArgs false
set_option linter.unusedSectionVars false
set_option linter.unnecessarySimpa false
set_option linter.deprecated false
namespace Go.P
open Go Go.Abs


structure GProp.Ok (x : GProp) : Prop where
  name : x.name.length ≤ maxLen
  value : x.value.length ≤ maxLen

inductive GNode.Ok : GNode → Prop where
  | mk (name : Str) (props : List GProp) (kids : List GNode) (h_name : name.length ≤ maxLen) (h_props : props.length ≤ maxLen ∧ ∀ q ∈ props, GProp.Ok q) (h_kids : kids.length ≤ maxLen) (h_kids_all : ∀ x ∈ kids, GNode.Ok x) : GNode.Ok (.mk name props kids)

theorem GNode.Ok.name {x : GNode} (h : x.Ok) : x.name.length ≤ maxLen := by
  cases h
  assumption

theorem GNode.Ok.props {x : GNode} (h : x.Ok) : x.props.length ≤ maxLen ∧ ∀ q ∈ x.props, GProp.Ok q := by
  cases h
  assumption

theorem GNode.Ok.kids {x : GNode} (h : x.Ok) : x.kids.length ≤ maxLen ∧ ∀ q ∈ x.kids, GNode.Ok q := by
  cases h
  exact ⟨‹_›, ‹_›⟩

end Go.P
