/-
  The tables are the translation's own, and the library's functions answer as they are told: what the evaluator says holds of the model. Printed by program. No condition.
-/
import Derived.Test.YticlelmlnadclaaDoorKE
import Derived.Test.YticlelmlnadclaaDoorKShelf
import Derived.Test.YticlelmlnadclaaDoorKAbsX
set_option linter.unusedVariables false
set_option linter.unusedSimpArgs false
set_option linter.unusedSectionVars false
set_option linter.unnecessarySimpa false
set_option linter.deprecated false
namespace Go.Proofs.YticlelmlnadclaaDoor
open Go Go.Abs Go.P Go.RowKit
set_option maxRecDepth 100000

theorem ext_61 : ExtOk Tryd.prog 61 extSplit := extSplit_ok (fun args w => callFunc_enter (fn := Tryd.f61) Tryd.func61 (by kernel_rfl) rfl args w) (fun s sep m w h1 h2 h3 => Tryd.strings_Split s sep m w h1 h2 h3)
theorem ext_63 : ExtOk Tryd.prog 63 extJoin := extJoin_ok (fun args w => callFunc_enter (fn := Tryd.f63) Tryd.func63 (by kernel_rfl) rfl args w) (fun bk o c xs sep w h1 h2 h3 h4 h5 => Tryd.strings_Join bk o c xs sep w h1 h2 h3 h4 h5) (fun a c sep w => Tryd.strings_Join_none a c sep w)
theorem ext_91 : ExtOk Tryd.prog 91 extContains := extContains_ok (fun args w => callFunc_enter (fn := Tryd.f91) Tryd.func91 (by kernel_rfl) rfl args w) (fun s sep m w h1 h2 => Tryd.strings_Contains s sep m w h1 h2)
theorem ext_106 : ExtOk Tryd.prog 106 extCut := extCut_ok (fun args w => callFunc_enter (fn := Tryd.f106) Tryd.func106 (by kernel_rfl) rfl args w) (fun s sep m w h1 h2 => Tryd.strings_Cut s sep m w h1 h2)

theorem env_ok : EnvOk Tryd.prog E0 where
  tb := tb_ok
  mixed := by kernel_rfl
  fn := fns_ok
  ext := fun f g args r hg hr => by
    have hg : ext0 f = some g := hg
    unfold ext0 at hg
    split at hg
    · obtain rfl := Option.some.inj hg; exact ext_61 args r hr
    · obtain rfl := Option.some.inj hg; exact ext_63 args r hr
    · obtain rfl := Option.some.inj hg; exact ext_91 args r hr
    · obtain rfl := Option.some.inj hg; exact ext_106 args r hr
    · cases hg
end Go.Proofs.YticlelmlnadclaaDoor
