/-
  Structs that are compared. Printed by program. No condition.
-/
import Derived.Test.YticlelmlnadclaaDoorKE
set_option linter.unusedVariables false
set_option linter.unusedSimpArgs false
set_option linter.unusedSectionVars false
set_option linter.unnecessarySimpa false
set_option linter.deprecated false
namespace Go.Proofs.YticlelmlnadclaaDoor
open Go.P
open Go Go.Abs

set_option maxRecDepth 100000
set_option maxHeartbeats 4000000

theorem tProp_eql_78 (st : Store) (a b : GProp) : abin E0.tb st .eql 78 (.agg [strV a.name, strV a.value]) (.agg [strV b.name, strV b.value]) = some (.sc (.bool (a == b))) := by
  have h : (E0.tb 78).any (·.safe) = true := by rw [tb_78]; rfl
  have hv : eqv E0.tb 10000 78 (.agg [strV a.name, strV a.value]) (.agg [strV b.name, strV b.value]) = some (a == b) := by
    have hz : (a == b) = (a.name == b.name && a.value == b.value) := by
      cases a; cases b
      rw [Bool.eq_iff_iff]
      simp [Bool.and_eq_true]
    rw [hz, show (10000 : Nat) = 9998 + 1 + 1 from rfl]
    have q0 : eqv E0.tb (9998 + 1) 9 (strV a.name) (strV b.name) = some (a.name == b.name) := by
      unfold eqv
      simp only [tb_9]
      exact congrArg some (beq_str _ _)
    have q1 : eqv E0.tb (9998 + 1) 9 (strV a.value) (strV b.value) = some (a.value == b.value) := by
      unfold eqv
      simp only [tb_9]
      exact congrArg some (beq_str _ _)
    unfold eqv
    simp only [tb_78, eqv.eqFs, ofCells, Bool.false_eq_true, if_false, List.getElem?_cons_zero, List.getElem?_cons_succ, if_true, q0, q1]
    cases (a.name == b.name) <;> simp only [Bool.false_and, Bool.true_and, Bool.and_false, Bool.and_true]
    skip
    all_goals (try (cases (a.value == b.value) <;> simp))
  unfold abin
  simp only [h, if_true, hv]
  rfl

theorem tProp_neq_78 (st : Store) (a b : GProp) : abin E0.tb st .neq 78 (.agg [strV a.name, strV a.value]) (.agg [strV b.name, strV b.value]) = some (.sc (.bool (!(a == b)))) := by
  have h : (E0.tb 78).any (·.safe) = true := by rw [tb_78]; rfl
  have hv : eqv E0.tb 10000 78 (.agg [strV a.name, strV a.value]) (.agg [strV b.name, strV b.value]) = some (a == b) := by
    have hz : (a == b) = (a.name == b.name && a.value == b.value) := by
      cases a; cases b
      rw [Bool.eq_iff_iff]
      simp [Bool.and_eq_true]
    rw [hz, show (10000 : Nat) = 9998 + 1 + 1 from rfl]
    have q0 : eqv E0.tb (9998 + 1) 9 (strV a.name) (strV b.name) = some (a.name == b.name) := by
      unfold eqv
      simp only [tb_9]
      exact congrArg some (beq_str _ _)
    have q1 : eqv E0.tb (9998 + 1) 9 (strV a.value) (strV b.value) = some (a.value == b.value) := by
      unfold eqv
      simp only [tb_9]
      exact congrArg some (beq_str _ _)
    unfold eqv
    simp only [tb_78, eqv.eqFs, ofCells, Bool.false_eq_true, if_false, List.getElem?_cons_zero, List.getElem?_cons_succ, if_true, q0, q1]
    cases (a.name == b.name) <;> simp only [Bool.false_and, Bool.true_and, Bool.and_false, Bool.and_true]
    skip
    all_goals (try (cases (a.value == b.value) <;> simp))
  unfold abin
  simp only [h, if_true, hv]
  rfl

end Go.Proofs.YticlelmlnadclaaDoor
