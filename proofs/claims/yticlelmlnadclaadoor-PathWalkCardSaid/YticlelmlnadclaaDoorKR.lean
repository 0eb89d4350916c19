/-
  A value that is read of an argument is a typed value. Printed by program. No condition.
-/
import Derived.Test.YticlelmlnadclaaDoorKPoOk
import Derived.Test.YticlelmlnadclaaDoorKE
import Derived.Test.YticlelmlnadclaaDoorKAbsW
set_option linter.unusedVariables false
set_option linter.unusedSimpArgs false
set_option linter.unusedSectionVars false
set_option linter.unnecessarySimpa false
set_option linter.deprecated false
namespace Go.Proofs.YticlelmlnadclaaDoor
open Go.P Go.RowKit
set_option maxRecDepth 100000
open Go Go.Abs


theorem rd_78 (n : Nat) : Reads Tryd.prog tProp 78 GProp.Ok n := reads_struct_any Tryd.underlying78 (by kernel_rfl) rfl (fun p => GProp.mk p.1 p.2.1) (fun p => by rw [tProp_cells]; rfl) (fun p h => ⟨h.1, h.2.1⟩) fun m hm => readsFs_cons (by kernel_rfl) (reads_str Tryd.underlying9) (readsFs_cons (by kernel_rfl) (reads_str Tryd.underlying9) (readsFs_nil))

theorem rd_25 (n : Nat) : Reads Tryd.prog tNode 25 GNode.Ok n := by
  induction n using Nat.strongRecOn with
  | ind n ih => exact reads_struct_any Tryd.underlying25 (by kernel_rfl) rfl (fun p => GNode.mk p.1 p.2.1 p.2.2.1) (fun p => by rw [tNode_cells]; rfl) (fun p h => .mk _ _ _ h.1 h.2.1 h.2.2.1.1 h.2.2.1.2) fun m hm => readsFs_cons (by kernel_rfl) (reads_str Tryd.underlying9) (readsFs_cons (by kernel_rfl) (reads_slice_any Tryd.underlying22 (by kernel_rfl) (by decide) fun k hk => rd_78 k) (readsFs_cons (by kernel_rfl) (reads_slice_any Tryd.underlying23 (by kernel_rfl) (by decide) fun k hk => ih k (by omega)) (readsFs_nil)))

theorem rd_9 (n : Nat) : Reads Tryd.prog tS 9 (fun x => x.length ≤ maxLen) n := reads_str Tryd.underlying9

end Go.Proofs.YticlelmlnadclaaDoor
