/-
  The program's types. Printed by program. No condition.
-/
import Derived.Test.YticlelmlnadclaaDoorKAbsE
set_option linter.unusedVariables false
set_option linter.unusedSimpArgs false
set_option linter.unusedSectionVars false
set_option linter.unnecessarySimpa false
set_option linter.deprecated false
namespace Go.P
open Go Go.Abs

structure GProp where
  name : Str
  value : Str
  deriving DecidableEq

def tProp : Ty GProp where
  cells := fun x => [strV x.name, strV x.value]
  size := 2
  len := fun _ => rfl
  pure := fun x => by simp [pureL, AV.pure, sl_pure, strV]
  one := fun _ => rfl
  norm := fun n0 x => by simp [scrubL, AV.scrub, sl_scrub, strV, nilz]

theorem tProp_cells (x : GProp) : tProp.cells x = [strV x.name, strV x.value] := rfl

inductive GNode where
  | mk (name : Str) (props : List GProp) (kids : List GNode)

def GNode.name : GNode → Str | .mk x _ _ => x

def GNode.props : GNode → List GProp | .mk _ x _ => x

def GNode.kids : GNode → List GNode | .mk _ _ x => x

theorem GNode.eta (x : GNode) : GNode.mk x.name x.props x.kids = x := by cases x; rfl

mutual
def tNodeC : GNode → List AV
  | .mk name props kids => [strV name, Ty.sl tProp props, .lst kids.length (tNodeCs kids)]
def tNodeCs : List GNode → List AV
  | [] => []
  | x :: l => tNodeC x ++ tNodeCs l
end

theorem tNodeCs_eq : ∀ l, tNodeCs l = l.flatMap tNodeC
  | [] => rfl
  | x :: l => by rw [tNodeCs, tNodeCs_eq l]; rfl

mutual
theorem tNodeC_pure : ∀ x, pureL (tNodeC x) = true
  | .mk name props kids => by simp [tNodeC, pureL, AV.pure, sl_pure, strV, tNodeCs_pure kids]
theorem tNodeCs_pure : ∀ l, pureL (tNodeCs l) = true
  | [] => rfl
  | x :: l => by rw [tNodeCs, pureL_append, tNodeC_pure x, tNodeCs_pure l]; rfl
end

mutual
theorem tNodeC_norm (n0 : Nat) : ∀ x, scrubL n0 (tNodeC x) = tNodeC x
  | .mk name props kids => by simp [tNodeC, scrubL, AV.scrub, sl_scrub, strV, nilz, tNodeCs_norm n0 kids]
theorem tNodeCs_norm (n0 : Nat) : ∀ l, scrubL n0 (tNodeCs l) = tNodeCs l
  | [] => rfl
  | x :: l => by rw [tNodeCs, scrubL_append, tNodeC_norm n0 x, tNodeCs_norm n0 l]
end

def tNode : Ty GNode where
  cells := tNodeC
  size := 3
  len := fun x => by cases x; rfl
  pure := tNodeC_pure
  one := fun x => by cases x; rfl
  norm := tNodeC_norm

theorem tNode_cells (x : GNode) : tNode.cells x = [strV x.name, Ty.sl tProp x.props, Ty.sl tNode x.kids] := by
  cases x
  simp [tNode, tNodeC, Ty.sl, tNodeCs_eq, GNode.name, GNode.props, GNode.kids]

structure GSpot where
  path : Str
  node : GNode

def tSpot : Ty GSpot where
  cells := fun x => [strV x.path, strV x.node.name, Ty.sl tProp x.node.props, Ty.sl tNode x.node.kids]
  size := 4
  len := fun _ => rfl
  pure := fun x => by simp [pureL, AV.pure, sl_pure, strV]
  one := fun _ => rfl
  norm := fun n0 x => by simp [scrubL, AV.scrub, sl_scrub, strV, nilz]

theorem tSpot_cells (x : GSpot) : tSpot.cells x = [strV x.path, strV x.node.name, Ty.sl tProp x.node.props, Ty.sl tNode x.node.kids] := rfl

/-- a bool's and an int's value -/

abbrev vB (b : Bool) : AV := .sc (.bool b)

abbrev vI (i : Int) : AV := .sc (.int .i64 i)

abbrev cProp (x : GProp) : List AV := [strV x.name, strV x.value]

abbrev cNode (x : GNode) : List AV := [strV x.name, Ty.sl tProp x.props, Ty.sl tNode x.kids]

abbrev cSpot (x : GSpot) : List AV := [strV x.path, strV x.node.name, Ty.sl tProp x.node.props, Ty.sl tNode x.node.kids]

end Go.P
