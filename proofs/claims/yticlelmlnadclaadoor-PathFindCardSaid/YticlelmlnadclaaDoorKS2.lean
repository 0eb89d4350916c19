/-
  What the evaluator's calls come to. Printed by program. No condition.
-/
import Derived.Test.YticlelmlnadclaaDoorKQ
import Derived.Test.YticlelmlnadclaaDoorKS0
import Derived.Test.YticlelmlnadclaaDoorKS1
set_option linter.unusedVariables false
set_option linter.unusedSimpArgs false
set_option linter.unusedSectionVars false
set_option linter.unnecessarySimpa false
set_option linter.deprecated false
namespace Go.Proofs.YticlelmlnadclaaDoor
open Go.P
open Go Go.Abs

set_option maxRecDepth 100000
set_option maxHeartbeats 4000000

theorem ref12_same_b_C (rec_ : GNode → GNode → Int → Option Bool) (hrec_ : ∀ (a_0 : GNode) (b_1 : GNode) (levels_2 : Int) (r : Bool) (st : Store), rec_ a_0 b_1 levels_2 = some r → fcall E0 52 [.agg (cNode a_0), .agg (cNode b_1), (vI levels_2)] st = some ((vB r), st)) (a_0 : GNode) (b_1 : GNode) (levels_2 : Int) (r : Bool) (st : Store) (h : ref12_same_b rec_ a_0 b_1 levels_2 = some r) : fcall E0 52 [.agg (cNode a_0), .agg (cNode b_1), (vI levels_2)] st = some ((vB r), st) := by
  unfold ref12_same_b at h
  refine fn_alone (fn := Tryd.f52) (av' := [.agg (cNode a_0), .agg (cNode b_1), (vI levels_2), .bad, .bad, .bad, .bad, .bad, .bad, .bad, .bad, .bad, .bad, .bad, .bad, .bad, .bad, .bad, .bad, .bad, .bad, .bad, .bad, .bad, .bad, .bad, .bad, .bad, .bad, .bad, .bad, .bad, .bad, .bad, .bad, .bad, .bad, .bad, .bad, .bad, .bad, .bad, .bad, .bad, .bad, .bad, .bad, .bad, .bad, .bad, .bad, .bad, .bad, .bad, .bad, .bad, .bad, .bad, .bad, .bad, .bad, .bad, .bad, .bad]) rfl fn_52 rfl (pC (pAgg (pC rfl (pC (sl_pure tProp _) (pC (sl_pure tNode _) pN)))) (pC (pAgg (pC rfl (pC (sl_pure tProp _) (pC (sl_pure tNode _) pN)))) (pC rfl pN))) rfl rfl rfl (has_go (as1 := [.agg (cNode a_0), .agg (cNode b_1), (vI levels_2)]) (lC (sAgg (lC (by kernel_rfl) (lC (sl_scrub tProp _ _) (lC (sl_scrub tNode _ _) lN)))) (lC (sAgg (lC (by kernel_rfl) (lC (sl_scrub tProp _ _) (lC (sl_scrub tNode _ _) lN)))) (lC (by kernel_rfl) lN))) (by kernel_rfl)) ?_
  refine J_seq ?_
  refine J_region ?_
  refine JS_end [.agg (cNode a_0), .agg (cNode b_1), (vI levels_2), .ref 0 0 0, .ref 1 0 0, .bad, (vB false), .bad, .bad, .bad, .bad, .bad, .bad, .bad, .bad, .bad, .bad, .bad, .bad, .bad, .bad, .bad, .bad, .bad, .bad, .bad, .bad, .bad, .bad, .bad, .bad, .bad, .bad, .bad, .bad, .bad, .bad, .bad, .bad, .bad, .bad, .bad, .bad, .bad, .bad, .bad, .bad, .bad, .bad, .bad, .bad, .bad, .bad, .bad, .bad, .bad, .bad, .bad, .bad, .bad, .bad, .bad, .bad, .bad] [.box 25 (cNode a_0), .box 25 (cNode b_1)] (by kernel_rfl) ?_
  refine JK_sq ?_
  refine J_seq ?_
  refine J_seq ?_
  refine J_region ?_
  refine JS_seg 3 [.agg (cNode a_0), .agg (cNode b_1), (vI levels_2), .ref 0 0 0, .ref 1 0 0, .bad, (vB false), .bad, (vI levels_2), .sc (.bool (levels_2 == 0)), .sc (.bool (levels_2 == 0)), .bad, .bad, .bad, .bad, .bad, .bad, .bad, .bad, .bad, .bad, .bad, .bad, .bad, .bad, .bad, .bad, .bad, .bad, .bad, .bad, .bad, .bad, .bad, .bad, .bad, .bad, .bad, .bad, .bad, .bad, .bad, .bad, .bad, .bad, .bad, .bad, .bad, .bad, .bad, .bad, .bad, .bad, .bad, .bad, .bad, .bad, .bad, .bad, .bad, .bad, .bad, .bad, .bad] [.box 25 (cNode a_0), .box 25 (cNode b_1)] (by kernel_rfl) ?_
  rcases bool_cases (levels_2 == 0) with h1 | h1
  · rw [if_pos h1] at h
    refine JS_cast (tm' := [.agg (cNode a_0), .agg (cNode b_1), (vI levels_2), .ref 0 0 0, .ref 1 0 0, .bad, (vB false), .bad, (vI levels_2), (vB true), (vB true), .bad, .bad, .bad, .bad, .bad, .bad, .bad, .bad, .bad, .bad, .bad, .bad, .bad, .bad, .bad, .bad, .bad, .bad, .bad, .bad, .bad, .bad, .bad, .bad, .bad, .bad, .bad, .bad, .bad, .bad, .bad, .bad, .bad, .bad, .bad, .bad, .bad, .bad, .bad, .bad, .bad, .bad, .bad, .bad, .bad, .bad, .bad, .bad, .bad, .bad, .bad, .bad, .bad]) (by rw [h1]) rfl ?_
    refine JS_end [.agg (cNode a_0), .agg (cNode b_1), (vI levels_2), .ref 0 0 0, .ref 1 0 0, .bad, (vB false), .bad, (vI levels_2), (vB true), (vB true), .tup [], .tup [], .tup [], .tup [], .tup [], (vB true), (vB true), .tup [], .tup [], .tup [], .tup [], .tup [], .tup [], (vB true), (vB true), .tup [], .tup [], .tup [], .tup [], .tup [], .tup [], .tup [], (vB true), .bad, .bad, .bad, .bad, .bad, .bad, .bad, .bad, .bad, .bad, .bad, .bad, .bad, .bad, .bad, .bad, .bad, .bad, .bad, .bad, .bad, .bad, .bad, .bad, .bad, .bad, .bad, .bad, .bad, .bad] [.box 25 (cNode a_0), .box 25 (cNode b_1)] (by kernel_rfl) ?_
    refine JK_sq ?_
    refine J_condT (v := true) (by kernel_rfl) rfl ?_
    refine J_seq ?_
    refine J_region ?_
    refine JS_end [.agg (cNode a_0), .agg (cNode b_1), (vI levels_2), .ref 0 0 0, .ref 1 0 0, .bad, .sc (.bool (levels_2 == 0)), .bad, (vI levels_2), (vB true), (vB true), .tup [], .tup [], .tup [], .tup [], .tup [], (vB true), (vB true), .tup [], .tup [], .tup [], .tup [], .tup [], .tup [], (vB true), (vB true), .tup [], .tup [], .tup [], .tup [], .tup [], .tup [], .tup [], (vB true), (vI levels_2), .sc (.bool (levels_2 == 0)), .bad, .bad, .bad, .bad, .bad, .bad, .bad, .bad, .bad, .bad, .bad, .bad, .bad, .bad, .bad, .bad, .bad, .bad, .bad, .bad, .bad, .bad, .bad, .bad, .bad, .bad, .bad, .bad] [.box 25 (cNode a_0), .box 25 (cNode b_1)] (by kernel_rfl) ?_
    refine JK_sq ?_
    refine J_ret ?_
    refine JK_sq_ret ?_
    refine JK_nil ?_
    obtain rfl := Option.some.inj h
    exact ret_A (r := .sc (.bool (levels_2 == 0))) (r' := .sc (.bool (levels_2 == 0))) (.inl rfl) (by kernel_rfl) (by kernel_rfl) rfl ⟨by kernel_rfl, rfl⟩
  · rw [if_neg (ne_true h1)] at h
    refine JS_cast (tm' := [.agg (cNode a_0), .agg (cNode b_1), (vI levels_2), .ref 0 0 0, .ref 1 0 0, .bad, (vB false), .bad, (vI levels_2), (vB false), (vB false), .bad, .bad, .bad, .bad, .bad, .bad, .bad, .bad, .bad, .bad, .bad, .bad, .bad, .bad, .bad, .bad, .bad, .bad, .bad, .bad, .bad, .bad, .bad, .bad, .bad, .bad, .bad, .bad, .bad, .bad, .bad, .bad, .bad, .bad, .bad, .bad, .bad, .bad, .bad, .bad, .bad, .bad, .bad, .bad, .bad, .bad, .bad, .bad, .bad, .bad, .bad, .bad, .bad]) (by rw [h1]) rfl ?_
    refine JS_seg 7 [.agg (cNode a_0), .agg (cNode b_1), (vI levels_2), .ref 0 0 0, .ref 1 0 0, .bad, (vB false), .bad, (vI levels_2), (vB false), (vB false), .ref 0 0 0, strV a_0.name, .ref 1 0 0, strV b_1.name, .bad, .bad, .bad, .bad, .bad, .bad, .bad, .bad, .bad, .bad, .bad, .bad, .bad, .bad, .bad, .bad, .bad, .bad, .bad, .bad, .bad, .bad, .bad, .bad, .bad, .bad, .bad, .bad, .bad, .bad, .bad, .bad, .bad, .bad, .bad, .bad, .bad, .bad, .bad, .bad, .bad, .bad, .bad, .bad, .bad, .bad, .bad, .bad, .bad] [.box 25 (cNode a_0), .box 25 (cNode b_1)] (by kernel_rfl) ?_
    refine JS_val (fun s => abin E0.tb s .neq 9 (strV a_0.name) (strV b_1.name)) (by kernel_rfl) (str_ne a_0.name b_1.name) ?_
    refine JS_seg 10 [.agg (cNode a_0), .agg (cNode b_1), (vI levels_2), .ref 0 0 0, .ref 1 0 0, .bad, (vB false), .bad, (vI levels_2), (vB false), (vB false), .ref 0 0 0, strV a_0.name, .ref 1 0 0, strV b_1.name, .sc (.bool (!(a_0.name == b_1.name))), .sc (.bool (!(a_0.name == b_1.name))), .sc (.bool (!(a_0.name == b_1.name))), .bad, .bad, .bad, .bad, .bad, .bad, .bad, .bad, .bad, .bad, .bad, .bad, .bad, .bad, .bad, .bad, .bad, .bad, .bad, .bad, .bad, .bad, .bad, .bad, .bad, .bad, .bad, .bad, .bad, .bad, .bad, .bad, .bad, .bad, .bad, .bad, .bad, .bad, .bad, .bad, .bad, .bad, .bad, .bad, .bad, .bad] [.box 25 (cNode a_0), .box 25 (cNode b_1)] (by kernel_rfl) ?_
    rcases bool_cases (!(a_0.name == b_1.name)) with h2 | h2
    · rw [if_pos h2] at h
      refine JS_cast (tm' := [.agg (cNode a_0), .agg (cNode b_1), (vI levels_2), .ref 0 0 0, .ref 1 0 0, .bad, (vB false), .bad, (vI levels_2), (vB false), (vB false), .ref 0 0 0, strV a_0.name, .ref 1 0 0, strV b_1.name, (vB true), (vB true), (vB true), .bad, .bad, .bad, .bad, .bad, .bad, .bad, .bad, .bad, .bad, .bad, .bad, .bad, .bad, .bad, .bad, .bad, .bad, .bad, .bad, .bad, .bad, .bad, .bad, .bad, .bad, .bad, .bad, .bad, .bad, .bad, .bad, .bad, .bad, .bad, .bad, .bad, .bad, .bad, .bad, .bad, .bad, .bad, .bad, .bad, .bad]) (by rw [h2]) rfl ?_
      refine JS_end [.agg (cNode a_0), .agg (cNode b_1), (vI levels_2), .ref 0 0 0, .ref 1 0 0, .bad, (vB false), .bad, (vI levels_2), (vB false), (vB false), .ref 0 0 0, strV a_0.name, .ref 1 0 0, strV b_1.name, (vB true), (vB true), (vB true), .tup [], .tup [], .tup [], .tup [], .tup [], .tup [], (vB true), (vB true), .tup [], .tup [], .tup [], .tup [], .tup [], .tup [], .tup [], (vB true), .bad, .bad, .bad, .bad, .bad, .bad, .bad, .bad, .bad, .bad, .bad, .bad, .bad, .bad, .bad, .bad, .bad, .bad, .bad, .bad, .bad, .bad, .bad, .bad, .bad, .bad, .bad, .bad, .bad, .bad] [.box 25 (cNode a_0), .box 25 (cNode b_1)] (by kernel_rfl) ?_
      refine JK_sq ?_
      refine J_condT (v := true) (by kernel_rfl) rfl ?_
      refine J_seq ?_
      refine J_region ?_
      refine JS_end [.agg (cNode a_0), .agg (cNode b_1), (vI levels_2), .ref 0 0 0, .ref 1 0 0, .bad, .sc (.bool (levels_2 == 0)), .bad, (vI levels_2), (vB false), (vB false), .ref 0 0 0, strV a_0.name, .ref 1 0 0, strV b_1.name, (vB true), (vB true), (vB true), .tup [], .tup [], .tup [], .tup [], .tup [], .tup [], (vB true), (vB true), .tup [], .tup [], .tup [], .tup [], .tup [], .tup [], .tup [], (vB true), (vI levels_2), .sc (.bool (levels_2 == 0)), .bad, .bad, .bad, .bad, .bad, .bad, .bad, .bad, .bad, .bad, .bad, .bad, .bad, .bad, .bad, .bad, .bad, .bad, .bad, .bad, .bad, .bad, .bad, .bad, .bad, .bad, .bad, .bad] [.box 25 (cNode a_0), .box 25 (cNode b_1)] (by kernel_rfl) ?_
      refine JK_sq ?_
      refine J_ret ?_
      refine JK_sq_ret ?_
      refine JK_nil ?_
      obtain rfl := Option.some.inj h
      exact ret_A (r := .sc (.bool (levels_2 == 0))) (r' := .sc (.bool (levels_2 == 0))) (.inl rfl) (by kernel_rfl) (by kernel_rfl) rfl ⟨by kernel_rfl, rfl⟩
    · rw [if_neg (ne_true h2)] at h
      refine JS_cast (tm' := [.agg (cNode a_0), .agg (cNode b_1), (vI levels_2), .ref 0 0 0, .ref 1 0 0, .bad, (vB false), .bad, (vI levels_2), (vB false), (vB false), .ref 0 0 0, strV a_0.name, .ref 1 0 0, strV b_1.name, (vB false), (vB false), (vB false), .bad, .bad, .bad, .bad, .bad, .bad, .bad, .bad, .bad, .bad, .bad, .bad, .bad, .bad, .bad, .bad, .bad, .bad, .bad, .bad, .bad, .bad, .bad, .bad, .bad, .bad, .bad, .bad, .bad, .bad, .bad, .bad, .bad, .bad, .bad, .bad, .bad, .bad, .bad, .bad, .bad, .bad, .bad, .bad, .bad, .bad]) (by rw [h2]) rfl ?_
      refine JS_seg 14 [.agg (cNode a_0), .agg (cNode b_1), (vI levels_2), .ref 0 0 0, .ref 1 0 0, .bad, (vB false), .bad, (vI levels_2), (vB false), (vB false), .ref 0 0 0, strV a_0.name, .ref 1 0 0, strV b_1.name, (vB false), (vB false), (vB false), .ref 0 0 1, Ty.sl tProp a_0.props, .ref 1 0 1, Ty.sl tProp b_1.props, .bad, .bad, .bad, .bad, .bad, .bad, .bad, .bad, .bad, .bad, .bad, .bad, .bad, .bad, .bad, .bad, .bad, .bad, .bad, .bad, .bad, .bad, .bad, .bad, .bad, .bad, .bad, .bad, .bad, .bad, .bad, .bad, .bad, .bad, .bad, .bad, .bad, .bad, .bad, .bad, .bad, .bad] [.box 25 (cNode a_0), .box 25 (cNode b_1)] (by kernel_rfl) ?_
      obtain ⟨r3, h4, h⟩ := Option.bind_eq_some_iff.1 h
      refine JS_upd (fun s => fcall E0 95 [Ty.sl tProp a_0.props, Ty.sl tProp b_1.props] s) (by kernel_rfl) (ref12_SameProps_C a_0.props b_1.props _ _ h4) ?_
      refine JS_seg 18 [.agg (cNode a_0), .agg (cNode b_1), (vI levels_2), .ref 0 0 0, .ref 1 0 0, .bad, (vB false), .bad, (vI levels_2), (vB false), (vB false), .ref 0 0 0, strV a_0.name, .ref 1 0 0, strV b_1.name, (vB false), (vB false), (vB false), .ref 0 0 1, Ty.sl tProp a_0.props, .ref 1 0 1, Ty.sl tProp b_1.props, (vB r3), .sc (.bool (!r3)), .sc (.bool (!r3)), .sc (.bool (!r3)), .bad, .bad, .bad, .bad, .bad, .bad, .bad, .bad, .bad, .bad, .bad, .bad, .bad, .bad, .bad, .bad, .bad, .bad, .bad, .bad, .bad, .bad, .bad, .bad, .bad, .bad, .bad, .bad, .bad, .bad, .bad, .bad, .bad, .bad, .bad, .bad, .bad, .bad] [.box 25 (cNode a_0), .box 25 (cNode b_1)] (by kernel_rfl) ?_
      rcases bool_cases (!r3) with h5 | h5
      · rw [if_pos h5] at h
        refine JS_cast (tm' := [.agg (cNode a_0), .agg (cNode b_1), (vI levels_2), .ref 0 0 0, .ref 1 0 0, .bad, (vB false), .bad, (vI levels_2), (vB false), (vB false), .ref 0 0 0, strV a_0.name, .ref 1 0 0, strV b_1.name, (vB false), (vB false), (vB false), .ref 0 0 1, Ty.sl tProp a_0.props, .ref 1 0 1, Ty.sl tProp b_1.props, (vB r3), (vB true), (vB true), (vB true), .bad, .bad, .bad, .bad, .bad, .bad, .bad, .bad, .bad, .bad, .bad, .bad, .bad, .bad, .bad, .bad, .bad, .bad, .bad, .bad, .bad, .bad, .bad, .bad, .bad, .bad, .bad, .bad, .bad, .bad, .bad, .bad, .bad, .bad, .bad, .bad, .bad, .bad]) (by rw [h5]) rfl ?_
        refine JS_end [.agg (cNode a_0), .agg (cNode b_1), (vI levels_2), .ref 0 0 0, .ref 1 0 0, .bad, (vB false), .bad, (vI levels_2), (vB false), (vB false), .ref 0 0 0, strV a_0.name, .ref 1 0 0, strV b_1.name, (vB false), (vB false), (vB false), .ref 0 0 1, Ty.sl tProp a_0.props, .ref 1 0 1, Ty.sl tProp b_1.props, (vB r3), (vB true), (vB true), (vB true), .tup [], .tup [], .tup [], .tup [], .tup [], .tup [], .tup [], (vB true), .bad, .bad, .bad, .bad, .bad, .bad, .bad, .bad, .bad, .bad, .bad, .bad, .bad, .bad, .bad, .bad, .bad, .bad, .bad, .bad, .bad, .bad, .bad, .bad, .bad, .bad, .bad, .bad, .bad, .bad] [.box 25 (cNode a_0), .box 25 (cNode b_1)] (by kernel_rfl) ?_
        refine JK_sq ?_
        refine J_condT (v := true) (by kernel_rfl) rfl ?_
        refine J_seq ?_
        refine J_region ?_
        refine JS_end [.agg (cNode a_0), .agg (cNode b_1), (vI levels_2), .ref 0 0 0, .ref 1 0 0, .bad, .sc (.bool (levels_2 == 0)), .bad, (vI levels_2), (vB false), (vB false), .ref 0 0 0, strV a_0.name, .ref 1 0 0, strV b_1.name, (vB false), (vB false), (vB false), .ref 0 0 1, Ty.sl tProp a_0.props, .ref 1 0 1, Ty.sl tProp b_1.props, (vB r3), (vB true), (vB true), (vB true), .tup [], .tup [], .tup [], .tup [], .tup [], .tup [], .tup [], (vB true), (vI levels_2), .sc (.bool (levels_2 == 0)), .bad, .bad, .bad, .bad, .bad, .bad, .bad, .bad, .bad, .bad, .bad, .bad, .bad, .bad, .bad, .bad, .bad, .bad, .bad, .bad, .bad, .bad, .bad, .bad, .bad, .bad, .bad, .bad] [.box 25 (cNode a_0), .box 25 (cNode b_1)] (by kernel_rfl) ?_
        refine JK_sq ?_
        refine J_ret ?_
        refine JK_sq_ret ?_
        refine JK_nil ?_
        obtain rfl := Option.some.inj h
        exact ret_A (r := .sc (.bool (levels_2 == 0))) (r' := .sc (.bool (levels_2 == 0))) (.inl rfl) (by kernel_rfl) (by kernel_rfl) rfl ⟨by kernel_rfl, rfl⟩
      · rw [if_neg (ne_true h5)] at h
        refine JS_cast (tm' := [.agg (cNode a_0), .agg (cNode b_1), (vI levels_2), .ref 0 0 0, .ref 1 0 0, .bad, (vB false), .bad, (vI levels_2), (vB false), (vB false), .ref 0 0 0, strV a_0.name, .ref 1 0 0, strV b_1.name, (vB false), (vB false), (vB false), .ref 0 0 1, Ty.sl tProp a_0.props, .ref 1 0 1, Ty.sl tProp b_1.props, (vB r3), (vB false), (vB false), (vB false), .bad, .bad, .bad, .bad, .bad, .bad, .bad, .bad, .bad, .bad, .bad, .bad, .bad, .bad, .bad, .bad, .bad, .bad, .bad, .bad, .bad, .bad, .bad, .bad, .bad, .bad, .bad, .bad, .bad, .bad, .bad, .bad, .bad, .bad, .bad, .bad, .bad, .bad]) (by rw [h5]) rfl ?_
        refine JS_end [.agg (cNode a_0), .agg (cNode b_1), (vI levels_2), .ref 0 0 0, .ref 1 0 0, .bad, (vB false), .bad, (vI levels_2), (vB false), (vB false), .ref 0 0 0, strV a_0.name, .ref 1 0 0, strV b_1.name, (vB false), (vB false), (vB false), .ref 0 0 1, Ty.sl tProp a_0.props, .ref 1 0 1, Ty.sl tProp b_1.props, (vB r3), (vB false), (vB false), (vB false), .ref 0 0 2, Ty.sl tNode a_0.kids, .sc (.int .i64 (a_0.kids.length : Int)), .ref 1 0 2, Ty.sl tNode b_1.kids, .sc (.int .i64 (b_1.kids.length : Int)), .sc (.bool ((a_0.kids.length : Int) != (b_1.kids.length : Int))), .sc (.bool ((a_0.kids.length : Int) != (b_1.kids.length : Int))), .bad, .bad, .bad, .bad, .bad, .bad, .bad, .bad, .bad, .bad, .bad, .bad, .bad, .bad, .bad, .bad, .bad, .bad, .bad, .bad, .bad, .bad, .bad, .bad, .bad, .bad, .bad, .bad, .bad, .bad] [.box 25 (cNode a_0), .box 25 (cNode b_1)] (by kernel_rfl) ?_
        refine JK_sq ?_
        rcases bool_cases ((a_0.kids.length : Int) != (b_1.kids.length : Int)) with h6 | h6
        · rw [if_pos h6] at h
          refine J_condT (v := ((a_0.kids.length : Int) != (b_1.kids.length : Int))) (by kernel_rfl) h6 ?_
          refine J_seq ?_
          refine J_region ?_
          refine JS_end [.agg (cNode a_0), .agg (cNode b_1), (vI levels_2), .ref 0 0 0, .ref 1 0 0, .bad, .sc (.bool (levels_2 == 0)), .bad, (vI levels_2), (vB false), (vB false), .ref 0 0 0, strV a_0.name, .ref 1 0 0, strV b_1.name, (vB false), (vB false), (vB false), .ref 0 0 1, Ty.sl tProp a_0.props, .ref 1 0 1, Ty.sl tProp b_1.props, (vB r3), (vB false), (vB false), (vB false), .ref 0 0 2, Ty.sl tNode a_0.kids, .sc (.int .i64 (a_0.kids.length : Int)), .ref 1 0 2, Ty.sl tNode b_1.kids, .sc (.int .i64 (b_1.kids.length : Int)), .sc (.bool ((a_0.kids.length : Int) != (b_1.kids.length : Int))), .sc (.bool ((a_0.kids.length : Int) != (b_1.kids.length : Int))), (vI levels_2), .sc (.bool (levels_2 == 0)), .bad, .bad, .bad, .bad, .bad, .bad, .bad, .bad, .bad, .bad, .bad, .bad, .bad, .bad, .bad, .bad, .bad, .bad, .bad, .bad, .bad, .bad, .bad, .bad, .bad, .bad, .bad, .bad] [.box 25 (cNode a_0), .box 25 (cNode b_1)] (by kernel_rfl) ?_
          refine JK_sq ?_
          refine J_ret ?_
          refine JK_sq_ret ?_
          refine JK_nil ?_
          obtain rfl := Option.some.inj h
          exact ret_A (r := .sc (.bool (levels_2 == 0))) (r' := .sc (.bool (levels_2 == 0))) (.inl rfl) (by kernel_rfl) (by kernel_rfl) rfl ⟨by kernel_rfl, rfl⟩
        · rw [if_neg (ne_true h6)] at h
          refine J_condF (v := ((a_0.kids.length : Int) != (b_1.kids.length : Int))) (by kernel_rfl) h6 ?_
          refine J_skip ?_
          refine JK_sq ?_
          refine J_seq ?_
          refine J_seq ?_
          refine J_region ?_
          refine JS_end [.agg (cNode a_0), .agg (cNode b_1), (vI levels_2), .ref 0 0 0, .ref 1 0 0, .bad, (vB false), (vI 0), (vI levels_2), (vB false), (vB false), .ref 0 0 0, strV a_0.name, .ref 1 0 0, strV b_1.name, (vB false), (vB false), (vB false), .ref 0 0 1, Ty.sl tProp a_0.props, .ref 1 0 1, Ty.sl tProp b_1.props, (vB r3), (vB false), (vB false), (vB false), .ref 0 0 2, Ty.sl tNode a_0.kids, .sc (.int .i64 (a_0.kids.length : Int)), .ref 1 0 2, Ty.sl tNode b_1.kids, .sc (.int .i64 (b_1.kids.length : Int)), .sc (.bool ((a_0.kids.length : Int) != (b_1.kids.length : Int))), .sc (.bool ((a_0.kids.length : Int) != (b_1.kids.length : Int))), .bad, .bad, .bad, .bad, .bad, .bad, .bad, .bad, .bad, .bad, .bad, .bad, .bad, .bad, .bad, .bad, .bad, .bad, .bad, .bad, .bad, .bad, .bad, .bad, .bad, .bad, .bad, .bad, .bad, .bad] [.box 25 (cNode a_0), .box 25 (cNode b_1)] (by kernel_rfl) ?_
          refine JK_sq ?_
          refine J_block ?_
          obtain ⟨r17, h18, h⟩ := Option.bind_eq_some_iff.1 h
          refine J_loop (γ := Unit) h18 2 [.agg (cNode a_0), .agg (cNode b_1), (vI levels_2), .ref 0 0 0, .ref 1 0 0, .bad, (vB false), (vI 0), (vI levels_2), (vB false), (vB false), .ref 0 0 0, strV a_0.name, .ref 1 0 0, strV b_1.name, (vB false), (vB false), (vB false), .ref 0 0 1, Ty.sl tProp a_0.props, .ref 1 0 1, Ty.sl tProp b_1.props, (vB r3), (vB false), (vB false), (vB false), .ref 0 0 2, Ty.sl tNode a_0.kids, .sc (.int .i64 (a_0.kids.length : Int)), .ref 1 0 2, Ty.sl tNode b_1.kids, .sc (.int .i64 (b_1.kids.length : Int)), .sc (.bool ((a_0.kids.length : Int) != (b_1.kids.length : Int))), .sc (.bool ((a_0.kids.length : Int) != (b_1.kids.length : Int))), .bad, .bad, .bad, .bad, .bad, .bad, .bad, .bad, .bad, .bad, .bad, .bad, .bad, .bad, .bad, .bad, .bad, .bad, .bad, .bad, .bad, .bad, .bad, .bad, .bad, .bad, .bad, .bad, .bad, .bad] [.box 25 (cNode a_0), .box 25 (cNode b_1)] (fun s g => [.bad, .bad, (vI levels_2), .ref 0 0 0, .ref 1 0 0, .bad, .bad, (vI s), .bad, .bad, .bad, .bad, .bad, .bad, .bad, .bad, .bad, .bad, .bad, .bad, .bad, .bad, .bad, .bad, .bad, .bad, .bad, .bad, .bad, .bad, .bad, .bad, .bad, .bad, .bad, .bad, .bad, .bad, .bad, .bad, .bad, .bad, .bad, .bad, .bad, .bad, .bad, .bad, .bad, .bad, .bad, .bad, .bad, .bad, .bad, .bad, .bad, .bad, .bad, .bad, .bad, .bad, .bad, .bad]) (fun s g => [.box 25 (cNode a_0), .box 25 (cNode b_1)]) (fun r g => match r with | (.inl r) => (.exit 0, [.bad, .bad, .bad, .bad, .bad, .bad, .bad, .bad, .bad, .bad, .bad, .bad, .bad, .bad, .bad, .bad, .bad, .bad, .bad, .bad, .bad, .bad, .bad, .bad, .bad, .bad, .bad, .bad, .bad, .bad, .bad, .bad, .bad, .bad, .bad, .bad, .bad, .bad, .bad, .bad, .bad, .bad, .bad, .bad, .bad, .bad, .bad, .bad, .bad, .bad, .bad, .bad, .bad, .bad, .bad, .bad, .bad, .bad, .bad, .bad, .bad, .bad, .bad, .bad], [.box 25 (cNode a_0), .box 25 (cNode b_1)]) | (.inr r) => (.ret, [.bad, .bad, .bad, .bad, .bad, .bad, (vB false), .bad, .bad, .bad, .bad, .bad, .bad, .bad, .bad, .bad, .bad, .bad, .bad, .bad, .bad, .bad, .bad, .bad, .bad, .bad, .bad, .bad, .bad, .bad, .bad, .bad, .bad, .bad, .bad, .bad, .bad, .bad, .bad, .bad, .bad, .bad, .bad, .bad, .bad, .bad, .bad, .bad, .bad, .bad, .bad, .bad, .bad, .bad, .bad, .bad, .bad, .bad, .bad, .bad, .bad, .bad, .bad, .bad], [.box 25 (cNode a_0), .box 25 (cNode b_1)])) () (by kernel_rfl) (by kernel_rfl) (kill_go (mid := [.bad, .bad, (vI levels_2), .ref 0 0 0, .ref 1 0 0, .bad, .bad, (vI 0), .bad, .bad, .bad, .bad, .bad, .bad, .bad, .bad, .bad, .bad, .bad, .bad, .bad, .bad, .bad, .bad, .bad, .bad, .bad, .bad, .bad, .bad, .bad, .bad, .bad, .bad, .bad, .bad, .bad, .bad, .bad, .bad, .bad, .bad, .bad, .bad, .bad, .bad, .bad, .bad, .bad, .bad, .bad, .bad, .bad, .bad, .bad, .bad, .bad, .bad, .bad, .bad, .bad, .bad, .bad, .bad]) (by kernel_rfl) (mB (mB (mC (by kernel_rfl) (mC (by kernel_rfl) (mC (by kernel_rfl) (mB (mB (mC (by kernel_rfl) (mB (mB (mB (mB (mB (mB (mB (mB (mB (mB (mB (mB (mB (mB (mB (mB (mB (mB (mB (mB (mB (mB (mB (mB (mB (mB (mB (mB (mB (mB (mB (mB (mB (mB (mB (mB (mB (mB (mB (mB (mB (mB (mB (mB (mB (mB (mB (mB (mB (mB (mB (mB (mB (mB (mB (mB mN))))))))))))))))))))))))))))))))))))))))))))))))))))))))))))))))) (cut_go (mid := [.box 25 (cNode a_0), .box 25 (cNode b_1)]) (by kernel_rfl) (oC (oB (lC (by kernel_rfl) (lC (sl_scrub tProp _ _) (lC (sl_scrub tNode _ _) lN)))) (oC (oB (lC (by kernel_rfl) (lC (sl_scrub tProp _ _) (lC (sl_scrub tNode _ _) lN)))) oN))) ?_ ?_
          · rintro v7 _ y h
            unfold ref12_same_l1 at h
            refine J_seq ?_
            refine J_seq ?_
            refine J_region ?_
            refine JS_seg 6 [.bad, .bad, (vI levels_2), .ref 0 0 0, .ref 1 0 0, .bad, .bad, (vI v7), .bad, .bad, .bad, .bad, .bad, .bad, .bad, .bad, .bad, .bad, .bad, .bad, .bad, .bad, .bad, .bad, .bad, .bad, .bad, .bad, .bad, .bad, .bad, .bad, .bad, .bad, .bad, .bad, (vI v7), .ref 0 0 2, Ty.sl tNode a_0.kids, .sc (.int .i64 (a_0.kids.length : Int)), .sc (.bool (decide (v7 < (a_0.kids.length : Int)))), .sc (.bool (decide (v7 < (a_0.kids.length : Int)))), .bad, .bad, .bad, .bad, .bad, .bad, .bad, .bad, .bad, .bad, .bad, .bad, .bad, .bad, .bad, .bad, .bad, .bad, .bad, .bad, .bad, .bad] [.box 25 (cNode a_0), .box 25 (cNode b_1)] (by kernel_rfl) ?_
            rcases bool_cases (decide (v7 < (a_0.kids.length : Int))) with h8 | h8
            · rw [if_pos h8] at h
              refine JS_cast (tm' := [.bad, .bad, (vI levels_2), .ref 0 0 0, .ref 1 0 0, .bad, .bad, (vI v7), .bad, .bad, .bad, .bad, .bad, .bad, .bad, .bad, .bad, .bad, .bad, .bad, .bad, .bad, .bad, .bad, .bad, .bad, .bad, .bad, .bad, .bad, .bad, .bad, .bad, .bad, .bad, .bad, (vI v7), .ref 0 0 2, Ty.sl tNode a_0.kids, .sc (.int .i64 (a_0.kids.length : Int)), (vB true), (vB true), .bad, .bad, .bad, .bad, .bad, .bad, .bad, .bad, .bad, .bad, .bad, .bad, .bad, .bad, .bad, .bad, .bad, .bad, .bad, .bad, .bad, .bad]) (by rw [h8]) rfl ?_
              refine JS_end [.bad, .bad, (vI levels_2), .ref 0 0 0, .ref 1 0 0, .bad, .bad, (vI v7), .bad, .bad, .bad, .bad, .bad, .bad, .bad, .bad, .bad, .bad, .bad, .bad, .bad, .bad, .bad, .bad, .bad, .bad, .bad, .bad, .bad, .bad, .bad, .bad, .bad, .bad, .bad, .bad, (vI v7), .ref 0 0 2, Ty.sl tNode a_0.kids, .sc (.int .i64 (a_0.kids.length : Int)), (vB true), (vB true), (vI v7), .ref 1 0 2, Ty.sl tNode b_1.kids, .sc (.int .i64 (b_1.kids.length : Int)), .sc (.bool (decide (v7 < (b_1.kids.length : Int)))), .sc (.bool (decide (v7 < (b_1.kids.length : Int)))), .bad, .bad, .bad, .bad, .bad, .bad, .bad, .bad, .bad, .bad, .bad, .bad, .bad, .bad, .bad, .bad] [.box 25 (cNode a_0), .box 25 (cNode b_1)] (by kernel_rfl) ?_
              refine JK_sq ?_
              rcases bool_cases (decide (v7 < (b_1.kids.length : Int))) with h9 | h9
              · rw [if_pos h9] at h
                refine J_condT (v := (decide (v7 < (b_1.kids.length : Int)))) (by kernel_rfl) h9 ?_
                refine J_skip ?_
                refine JK_sq ?_
                refine J_seq ?_
                refine J_block ?_
                refine J_seq ?_
                refine J_draw ?_
                refine JD_seg [] [.bad, .bad, (vI levels_2), .ref 0 0 0, .ref 1 0 0, .bad, .bad, (vI v7), .bad, .bad, .bad, .bad, .bad, .bad, .bad, .bad, .bad, .bad, .bad, .bad, .bad, .bad, .bad, .bad, .bad, .bad, .bad, .bad, .bad, .bad, .bad, .bad, .bad, .bad, .bad, .bad, (vI v7), .ref 0 0 2, Ty.sl tNode a_0.kids, .sc (.int .i64 (a_0.kids.length : Int)), (vB true), (vB true), (vI v7), .ref 1 0 2, Ty.sl tNode b_1.kids, .sc (.int .i64 (b_1.kids.length : Int)), .sc (.bool (decide (v7 < (b_1.kids.length : Int)))), .sc (.bool (decide (v7 < (b_1.kids.length : Int)))), .bad, .bad, .bad, .bad, .bad, .bad, .bad, .bad, .bad, .bad, .bad, .bad, .bad, .bad, .bad, .bad] [.box 25 (cNode a_0), .box 25 (cNode b_1)] (by kernel_rfl) (by kernel_rfl) (by kernel_rfl) ?_
                refine JD_upd (c := .reads) (fun s => some (.ref 0 0 2, [.box 25 (cNode a_0), .box 25 (cNode b_1)])) (by kernel_rfl) rfl (by kernel_rfl) ?_
                refine JD_upd (c := .reads) (fun s => some (Ty.sl tNode a_0.kids, [.box 25 (cNode a_0), .box 25 (cNode b_1)])) (by kernel_rfl) rfl (by kernel_rfl) ?_
                refine JD_upd (c := .free) (fun s => some ((vI v7), [.box 25 (cNode a_0), .box 25 (cNode b_1)])) (by kernel_rfl) rfl (by kernel_rfl) ?_
                refine JD_seg [.reads, .reads, .free] [.bad, .bad, (vI levels_2), .ref 0 0 0, .ref 1 0 0, .bad, .bad, (vI v7), .bad, .bad, .bad, .bad, .bad, .bad, .bad, .bad, .bad, .bad, .bad, .bad, .bad, .bad, .bad, .bad, .bad, .bad, .bad, .bad, .bad, .bad, .bad, .bad, .bad, .bad, .bad, .bad, (vI v7), .ref 0 0 2, Ty.sl tNode a_0.kids, .sc (.int .i64 (a_0.kids.length : Int)), (vB true), (vB true), (vI v7), .ref 1 0 2, Ty.sl tNode b_1.kids, .sc (.int .i64 (b_1.kids.length : Int)), .sc (.bool (decide (v7 < (b_1.kids.length : Int)))), .sc (.bool (decide (v7 < (b_1.kids.length : Int)))), .bad, .bad, .ref 0 0 2, Ty.sl tNode a_0.kids, (vI v7), .bad, .bad, .bad, .bad, .bad, .bad, .bad, .bad, .bad, .bad, .bad] [.box 25 (cNode a_0), .box 25 (cNode b_1)] (by kernel_rfl) (by kernel_rfl) (by kernel_rfl) ?_
                obtain ⟨x10, h11, h⟩ := Option.bind_eq_some_iff.1 h
                refine JD_val (c := .reads) (fun s => aindexAddr E0.tb s 23 (Ty.sl tNode a_0.kids) ((vI v7))) (by kernel_rfl) (sl_addr tNode tb_23 rfl tb_25 rfl h11) (by kernel_rfl) ?_
                refine JD_seg [.reads, .reads, .free, .reads] [.bad, .bad, (vI levels_2), .ref 0 0 0, .ref 1 0 0, .bad, .bad, (vI v7), .bad, .bad, .bad, .bad, .bad, .bad, .bad, .bad, .bad, .bad, .bad, .bad, .bad, .bad, .bad, .bad, .bad, .bad, .bad, .bad, .bad, .bad, .bad, .bad, .bad, .bad, .bad, .bad, (vI v7), .ref 0 0 2, Ty.sl tNode a_0.kids, .sc (.int .i64 (a_0.kids.length : Int)), (vB true), (vB true), (vI v7), .ref 1 0 2, Ty.sl tNode b_1.kids, .sc (.int .i64 (b_1.kids.length : Int)), .sc (.bool (decide (v7 < (b_1.kids.length : Int)))), .sc (.bool (decide (v7 < (b_1.kids.length : Int)))), .bad, .bad, .ref 0 0 2, Ty.sl tNode a_0.kids, (vI v7), .fp (List.flatMap (Ty.cells tNode) a_0.kids) (v7.toNat * Ty.size tNode), .bad, .bad, .bad, .bad, .bad, .bad, .bad, .bad, .bad, .bad] [.box 25 (cNode a_0), .box 25 (cNode b_1)] (by kernel_rfl) (by kernel_rfl) (by kernel_rfl) ?_
                refine JD_val (c := .reads) (fun s => aload E0.tb s 25 (.fp (List.flatMap (Ty.cells tNode) a_0.kids) (v7.toNat * Ty.size tNode))) (by kernel_rfl) (fp_loadN tNode (o := 0) (vs := (cNode x10)) tb_25 rfl h11 (by decide) (by rw [tNode_cells]; rfl)) (by kernel_rfl) ?_
                refine JD_upd (c := .reads) (fun s => some (.ref 1 0 2, [.box 25 (cNode a_0), .box 25 (cNode b_1)])) (by kernel_rfl) rfl (by kernel_rfl) ?_
                refine JD_upd (c := .reads) (fun s => some (Ty.sl tNode b_1.kids, [.box 25 (cNode a_0), .box 25 (cNode b_1)])) (by kernel_rfl) rfl (by kernel_rfl) ?_
                refine JD_upd (c := .free) (fun s => some ((vI v7), [.box 25 (cNode a_0), .box 25 (cNode b_1)])) (by kernel_rfl) rfl (by kernel_rfl) ?_
                refine JD_seg [.reads, .reads, .free, .reads, .reads, .reads, .reads, .free] [.bad, .bad, (vI levels_2), .ref 0 0 0, .ref 1 0 0, .bad, .bad, (vI v7), .bad, .bad, .bad, .bad, .bad, .bad, .bad, .bad, .bad, .bad, .bad, .bad, .bad, .bad, .bad, .bad, .bad, .bad, .bad, .bad, .bad, .bad, .bad, .bad, .bad, .bad, .bad, .bad, (vI v7), .ref 0 0 2, Ty.sl tNode a_0.kids, .sc (.int .i64 (a_0.kids.length : Int)), (vB true), (vB true), (vI v7), .ref 1 0 2, Ty.sl tNode b_1.kids, .sc (.int .i64 (b_1.kids.length : Int)), .sc (.bool (decide (v7 < (b_1.kids.length : Int)))), .sc (.bool (decide (v7 < (b_1.kids.length : Int)))), .bad, .bad, .ref 0 0 2, Ty.sl tNode a_0.kids, (vI v7), .fp (List.flatMap (Ty.cells tNode) a_0.kids) (v7.toNat * Ty.size tNode), .agg (cNode x10), .ref 1 0 2, Ty.sl tNode b_1.kids, (vI v7), .bad, .bad, .bad, .bad, .bad, .bad] [.box 25 (cNode a_0), .box 25 (cNode b_1)] (by kernel_rfl) (by kernel_rfl) (by kernel_rfl) ?_
                obtain ⟨x12, h13, h⟩ := Option.bind_eq_some_iff.1 h
                refine JD_val (c := .reads) (fun s => aindexAddr E0.tb s 23 (Ty.sl tNode b_1.kids) ((vI v7))) (by kernel_rfl) (sl_addr tNode tb_23 rfl tb_25 rfl h13) (by kernel_rfl) ?_
                refine JD_seg [.reads, .reads, .free, .reads, .reads, .reads, .reads, .free, .reads] [.bad, .bad, (vI levels_2), .ref 0 0 0, .ref 1 0 0, .bad, .bad, (vI v7), .bad, .bad, .bad, .bad, .bad, .bad, .bad, .bad, .bad, .bad, .bad, .bad, .bad, .bad, .bad, .bad, .bad, .bad, .bad, .bad, .bad, .bad, .bad, .bad, .bad, .bad, .bad, .bad, (vI v7), .ref 0 0 2, Ty.sl tNode a_0.kids, .sc (.int .i64 (a_0.kids.length : Int)), (vB true), (vB true), (vI v7), .ref 1 0 2, Ty.sl tNode b_1.kids, .sc (.int .i64 (b_1.kids.length : Int)), .sc (.bool (decide (v7 < (b_1.kids.length : Int)))), .sc (.bool (decide (v7 < (b_1.kids.length : Int)))), .bad, .bad, .ref 0 0 2, Ty.sl tNode a_0.kids, (vI v7), .fp (List.flatMap (Ty.cells tNode) a_0.kids) (v7.toNat * Ty.size tNode), .agg (cNode x10), .ref 1 0 2, Ty.sl tNode b_1.kids, (vI v7), .fp (List.flatMap (Ty.cells tNode) b_1.kids) (v7.toNat * Ty.size tNode), .bad, .bad, .bad, .bad, .bad] [.box 25 (cNode a_0), .box 25 (cNode b_1)] (by kernel_rfl) (by kernel_rfl) (by kernel_rfl) ?_
                refine JD_val (c := .reads) (fun s => aload E0.tb s 25 (.fp (List.flatMap (Ty.cells tNode) b_1.kids) (v7.toNat * Ty.size tNode))) (by kernel_rfl) (fp_loadN tNode (o := 0) (vs := (cNode x12)) tb_25 rfl h13 (by decide) (by rw [tNode_cells]; rfl)) (by kernel_rfl) ?_
                refine JD_upd (c := .free) (fun s => some ((vI levels_2), [.box 25 (cNode a_0), .box 25 (cNode b_1)])) (by kernel_rfl) rfl (by kernel_rfl) ?_
                refine JD_upd (c := .reads) (fun s => some (.sc (.int .i64 (IntKind.wrap .i64 (levels_2 - 1))), [.box 25 (cNode a_0), .box 25 (cNode b_1)])) (by kernel_rfl) rfl (by kernel_rfl) ?_
                refine JD_seg [.reads, .reads, .free, .reads, .reads, .reads, .reads, .free, .reads, .reads, .free, .reads] [.bad, .bad, (vI levels_2), .ref 0 0 0, .ref 1 0 0, .bad, .bad, (vI v7), .bad, .bad, .bad, .bad, .bad, .bad, .bad, .bad, .bad, .bad, .bad, .bad, .bad, .bad, .bad, .bad, .bad, .bad, .bad, .bad, .bad, .bad, .bad, .bad, .bad, .bad, .bad, .bad, (vI v7), .ref 0 0 2, Ty.sl tNode a_0.kids, .sc (.int .i64 (a_0.kids.length : Int)), (vB true), (vB true), (vI v7), .ref 1 0 2, Ty.sl tNode b_1.kids, .sc (.int .i64 (b_1.kids.length : Int)), .sc (.bool (decide (v7 < (b_1.kids.length : Int)))), .sc (.bool (decide (v7 < (b_1.kids.length : Int)))), .bad, .bad, .ref 0 0 2, Ty.sl tNode a_0.kids, (vI v7), .fp (List.flatMap (Ty.cells tNode) a_0.kids) (v7.toNat * Ty.size tNode), .agg (cNode x10), .ref 1 0 2, Ty.sl tNode b_1.kids, (vI v7), .fp (List.flatMap (Ty.cells tNode) b_1.kids) (v7.toNat * Ty.size tNode), .agg (cNode x12), (vI levels_2), .sc (.int .i64 (IntKind.wrap .i64 (levels_2 - 1))), .bad, .bad] [.box 25 (cNode a_0), .box 25 (cNode b_1)] (by kernel_rfl) (by kernel_rfl) (by kernel_rfl) ?_
                obtain ⟨r14, h15, h⟩ := Option.bind_eq_some_iff.1 h
                refine JD_upd (c := .free) (fun s => fcall E0 52 [.agg (cNode x10), .agg (cNode x12), .sc (.int .i64 (IntKind.wrap .i64 (levels_2 - 1)))] s) (by kernel_rfl) (hrec_ x10 x12 (IntKind.wrap .i64 (levels_2 - 1)) _ _ h15) (Eq.trans (b := if pureL [.agg (cNode x10), .agg (cNode x12), .sc (.int .i64 (IntKind.wrap .i64 (levels_2 - 1)))] = true then Cls.free else Cls.writes) (by kernel_rfl) (cls_if (pC (pAgg (pC rfl (pC (sl_pure tProp _) (pC (sl_pure tNode _) pN)))) (pC (pAgg (pC rfl (pC (sl_pure tProp _) (pC (sl_pure tNode _) pN)))) (pC rfl pN))))) ?_
                refine JD_upd (c := .free) (fun s => some (.sc (.bool (!r14)), [.box 25 (cNode a_0), .box 25 (cNode b_1)])) (by kernel_rfl) rfl (by kernel_rfl) ?_
                refine JD_seg [.reads, .reads, .free, .reads, .reads, .reads, .reads, .free, .reads, .reads, .free, .reads, .free, .free] [.bad, .bad, (vI levels_2), .ref 0 0 0, .ref 1 0 0, .bad, .bad, (vI v7), .bad, .bad, .bad, .bad, .bad, .bad, .bad, .bad, .bad, .bad, .bad, .bad, .bad, .bad, .bad, .bad, .bad, .bad, .bad, .bad, .bad, .bad, .bad, .bad, .bad, .bad, .bad, .bad, (vI v7), .ref 0 0 2, Ty.sl tNode a_0.kids, .sc (.int .i64 (a_0.kids.length : Int)), (vB true), (vB true), (vI v7), .ref 1 0 2, Ty.sl tNode b_1.kids, .sc (.int .i64 (b_1.kids.length : Int)), .sc (.bool (decide (v7 < (b_1.kids.length : Int)))), .sc (.bool (decide (v7 < (b_1.kids.length : Int)))), .bad, .bad, .ref 0 0 2, Ty.sl tNode a_0.kids, (vI v7), .fp (List.flatMap (Ty.cells tNode) a_0.kids) (v7.toNat * Ty.size tNode), .agg (cNode x10), .ref 1 0 2, Ty.sl tNode b_1.kids, (vI v7), .fp (List.flatMap (Ty.cells tNode) b_1.kids) (v7.toNat * Ty.size tNode), .agg (cNode x12), (vI levels_2), .sc (.int .i64 (IntKind.wrap .i64 (levels_2 - 1))), (vB r14), .sc (.bool (!r14))] [.box 25 (cNode a_0), .box 25 (cNode b_1)] (by kernel_rfl) (by kernel_rfl) (by kernel_rfl) ?_
                refine JD_end (by kernel_rfl) (by kernel_rfl) ?_
                refine JK_sq ?_
                rcases bool_cases (!r14) with h16 | h16
                · rw [if_pos h16] at h
                  refine J_condT (v := (!r14)) (by kernel_rfl) h16 ?_
                  refine J_seq ?_
                  refine J_region ?_
                  refine JS_end [.bad, .bad, (vI levels_2), .ref 0 0 0, .ref 1 0 0, .bad, (vB false), (vI v7), .bad, .bad, .bad, .bad, .bad, .bad, .bad, .bad, .bad, .bad, .bad, .bad, .bad, .bad, .bad, .bad, .bad, .bad, .bad, .bad, .bad, .bad, .bad, .bad, .bad, .bad, .bad, .bad, (vI v7), .ref 0 0 2, Ty.sl tNode a_0.kids, .sc (.int .i64 (a_0.kids.length : Int)), (vB true), (vB true), (vI v7), .ref 1 0 2, Ty.sl tNode b_1.kids, .sc (.int .i64 (b_1.kids.length : Int)), .sc (.bool (decide (v7 < (b_1.kids.length : Int)))), .sc (.bool (decide (v7 < (b_1.kids.length : Int)))), .bad, .bad, .ref 0 0 2, Ty.sl tNode a_0.kids, (vI v7), .fp (List.flatMap (Ty.cells tNode) a_0.kids) (v7.toNat * Ty.size tNode), .agg (cNode x10), .ref 1 0 2, Ty.sl tNode b_1.kids, (vI v7), .fp (List.flatMap (Ty.cells tNode) b_1.kids) (v7.toNat * Ty.size tNode), .agg (cNode x12), (vI levels_2), .sc (.int .i64 (IntKind.wrap .i64 (levels_2 - 1))), (vB r14), .sc (.bool (!r14))] [.box 25 (cNode a_0), .box 25 (cNode b_1)] (by kernel_rfl) ?_
                  refine JK_sq ?_
                  refine J_ret ?_
                  refine JK_bl_ret ?_
                  refine JK_sq_ret ?_
                  refine JK_nil ?_
                  obtain rfl := Option.some.inj h
                  exact turn_ret (tm' := [.bad, .bad, .bad, .bad, .bad, .bad, (vB false), .bad, .bad, .bad, .bad, .bad, .bad, .bad, .bad, .bad, .bad, .bad, .bad, .bad, .bad, .bad, .bad, .bad, .bad, .bad, .bad, .bad, .bad, .bad, .bad, .bad, .bad, .bad, .bad, .bad, .bad, .bad, .bad, .bad, .bad, .bad, .bad, .bad, .bad, .bad, .bad, .bad, .bad, .bad, .bad, .bad, .bad, .bad, .bad, .bad, .bad, .bad, .bad, .bad, .bad, .bad, .bad, .bad]) (st' := [.box 25 (cNode a_0), .box 25 (cNode b_1)]) () (kill_go (mid := [.bad, .bad, .bad, .bad, .bad, .bad, (vB false), .bad, .bad, .bad, .bad, .bad, .bad, .bad, .bad, .bad, .bad, .bad, .bad, .bad, .bad, .bad, .bad, .bad, .bad, .bad, .bad, .bad, .bad, .bad, .bad, .bad, .bad, .bad, .bad, .bad, .bad, .bad, .bad, .bad, .bad, .bad, .bad, .bad, .bad, .bad, .bad, .bad, .bad, .bad, .bad, .bad, .bad, .bad, .bad, .bad, .bad, .bad, .bad, .bad, .bad, .bad, .bad, .bad]) (by kernel_rfl) (mB (mB (mB (mB (mB (mB (mC (by kernel_rfl) (mB (mB (mB (mB (mB (mB (mB (mB (mB (mB (mB (mB (mB (mB (mB (mB (mB (mB (mB (mB (mB (mB (mB (mB (mB (mB (mB (mB (mB (mB (mB (mB (mB (mB (mB (mB (mB (mB (mB (mB (mB (mB (mB (mB (mB (mB (mB (mB (mB (mB (mB (mB (mB (mB (mB (mB (mB mN))))))))))))))))))))))))))))))))))))))))))))))))))))))))))))))))) (cut_go (mid := [.box 25 (cNode a_0), .box 25 (cNode b_1)]) (by kernel_rfl) (oC (oB (lC (by kernel_rfl) (lC (sl_scrub tProp _ _) (lC (sl_scrub tNode _ _) lN)))) (oC (oB (lC (by kernel_rfl) (lC (sl_scrub tProp _ _) (lC (sl_scrub tNode _ _) lN)))) oN))) (by kernel_rfl)
                · rw [if_neg (ne_true h16)] at h
                  refine J_condF (v := (!r14)) (by kernel_rfl) h16 ?_
                  refine J_skip ?_
                  refine JK_bl ?_
                  refine JK_sq ?_
                  refine J_region ?_
                  refine JS_end [.bad, .bad, (vI levels_2), .ref 0 0 0, .ref 1 0 0, .bad, .bad, .sc (.int .i64 (IntKind.wrap .i64 (v7 + 1))), .bad, .bad, .bad, .bad, .bad, .bad, .bad, .bad, .bad, .bad, .bad, .bad, .bad, .bad, .bad, .bad, .bad, .bad, .bad, .bad, .bad, .bad, .bad, .bad, .bad, .bad, .bad, .bad, (vI v7), .ref 0 0 2, Ty.sl tNode a_0.kids, .sc (.int .i64 (a_0.kids.length : Int)), (vB true), (vB true), (vI v7), .ref 1 0 2, Ty.sl tNode b_1.kids, .sc (.int .i64 (b_1.kids.length : Int)), .sc (.bool (decide (v7 < (b_1.kids.length : Int)))), .sc (.bool (decide (v7 < (b_1.kids.length : Int)))), (vI v7), .sc (.int .i64 (IntKind.wrap .i64 (v7 + 1))), .ref 0 0 2, Ty.sl tNode a_0.kids, (vI v7), .fp (List.flatMap (Ty.cells tNode) a_0.kids) (v7.toNat * Ty.size tNode), .agg (cNode x10), .ref 1 0 2, Ty.sl tNode b_1.kids, (vI v7), .fp (List.flatMap (Ty.cells tNode) b_1.kids) (v7.toNat * Ty.size tNode), .agg (cNode x12), (vI levels_2), .sc (.int .i64 (IntKind.wrap .i64 (levels_2 - 1))), (vB r14), .sc (.bool (!r14))] [.box 25 (cNode a_0), .box 25 (cNode b_1)] (by kernel_rfl) ?_
                  refine JK_nil ?_
                  obtain rfl := Option.some.inj h
                  exact turn_next () (kill_go (mid := [.bad, .bad, (vI levels_2), .ref 0 0 0, .ref 1 0 0, .bad, .bad, .sc (.int .i64 (IntKind.wrap .i64 (v7 + 1))), .bad, .bad, .bad, .bad, .bad, .bad, .bad, .bad, .bad, .bad, .bad, .bad, .bad, .bad, .bad, .bad, .bad, .bad, .bad, .bad, .bad, .bad, .bad, .bad, .bad, .bad, .bad, .bad, .bad, .bad, .bad, .bad, .bad, .bad, .bad, .bad, .bad, .bad, .bad, .bad, .bad, .bad, .bad, .bad, .bad, .bad, .bad, .bad, .bad, .bad, .bad, .bad, .bad, .bad, .bad, .bad]) (by kernel_rfl) (mB (mB (mC (by kernel_rfl) (mC (by kernel_rfl) (mC (by kernel_rfl) (mB (mB (mC (by kernel_rfl) (mB (mB (mB (mB (mB (mB (mB (mB (mB (mB (mB (mB (mB (mB (mB (mB (mB (mB (mB (mB (mB (mB (mB (mB (mB (mB (mB (mB (mB (mB (mB (mB (mB (mB (mB (mB (mB (mB (mB (mB (mB (mB (mB (mB (mB (mB (mB (mB (mB (mB (mB (mB (mB (mB (mB (mB mN))))))))))))))))))))))))))))))))))))))))))))))))))))))))))))))))) (cut_go (mid := [.box 25 (cNode a_0), .box 25 (cNode b_1)]) (by kernel_rfl) (oC (oB (lC (by kernel_rfl) (lC (sl_scrub tProp _ _) (lC (sl_scrub tNode _ _) lN)))) (oC (oB (lC (by kernel_rfl) (lC (sl_scrub tProp _ _) (lC (sl_scrub tNode _ _) lN)))) oN)))
              · rw [if_neg (ne_true h9)] at h
                refine J_condF (v := (decide (v7 < (b_1.kids.length : Int)))) (by kernel_rfl) h9 ?_
                refine J_exit ?_
                refine JK_sq_exit ?_
                refine JK_nil ?_
                obtain rfl := Option.some.inj h
                exact turn_exit (tm' := [.bad, .bad, .bad, .bad, .bad, .bad, .bad, .bad, .bad, .bad, .bad, .bad, .bad, .bad, .bad, .bad, .bad, .bad, .bad, .bad, .bad, .bad, .bad, .bad, .bad, .bad, .bad, .bad, .bad, .bad, .bad, .bad, .bad, .bad, .bad, .bad, .bad, .bad, .bad, .bad, .bad, .bad, .bad, .bad, .bad, .bad, .bad, .bad, .bad, .bad, .bad, .bad, .bad, .bad, .bad, .bad, .bad, .bad, .bad, .bad, .bad, .bad, .bad, .bad]) (st' := [.box 25 (cNode a_0), .box 25 (cNode b_1)]) () (kill_go (mid := [.bad, .bad, .bad, .bad, .bad, .bad, .bad, .bad, .bad, .bad, .bad, .bad, .bad, .bad, .bad, .bad, .bad, .bad, .bad, .bad, .bad, .bad, .bad, .bad, .bad, .bad, .bad, .bad, .bad, .bad, .bad, .bad, .bad, .bad, .bad, .bad, .bad, .bad, .bad, .bad, .bad, .bad, .bad, .bad, .bad, .bad, .bad, .bad, .bad, .bad, .bad, .bad, .bad, .bad, .bad, .bad, .bad, .bad, .bad, .bad, .bad, .bad, .bad, .bad]) (by kernel_rfl) (mB (mB (mB (mB (mB (mB (mB (mB (mB (mB (mB (mB (mB (mB (mB (mB (mB (mB (mB (mB (mB (mB (mB (mB (mB (mB (mB (mB (mB (mB (mB (mB (mB (mB (mB (mB (mB (mB (mB (mB (mB (mB (mB (mB (mB (mB (mB (mB (mB (mB (mB (mB (mB (mB (mB (mB (mB (mB (mB (mB (mB (mB (mB (mB mN))))))))))))))))))))))))))))))))))))))))))))))))))))))))))))))))) (cut_go (mid := [.box 25 (cNode a_0), .box 25 (cNode b_1)]) (by kernel_rfl) (oC (oB (lC (by kernel_rfl) (lC (sl_scrub tProp _ _) (lC (sl_scrub tNode _ _) lN)))) (oC (oB (lC (by kernel_rfl) (lC (sl_scrub tProp _ _) (lC (sl_scrub tNode _ _) lN)))) oN))) (by kernel_rfl)
            · rw [if_neg (ne_true h8)] at h
              refine JS_cast (tm' := [.bad, .bad, (vI levels_2), .ref 0 0 0, .ref 1 0 0, .bad, .bad, (vI v7), .bad, .bad, .bad, .bad, .bad, .bad, .bad, .bad, .bad, .bad, .bad, .bad, .bad, .bad, .bad, .bad, .bad, .bad, .bad, .bad, .bad, .bad, .bad, .bad, .bad, .bad, .bad, .bad, (vI v7), .ref 0 0 2, Ty.sl tNode a_0.kids, .sc (.int .i64 (a_0.kids.length : Int)), (vB false), (vB false), .bad, .bad, .bad, .bad, .bad, .bad, .bad, .bad, .bad, .bad, .bad, .bad, .bad, .bad, .bad, .bad, .bad, .bad, .bad, .bad, .bad, .bad]) (by rw [h8]) rfl ?_
              refine JS_end [.bad, .bad, (vI levels_2), .ref 0 0 0, .ref 1 0 0, .bad, .bad, (vI v7), .bad, .bad, .bad, .bad, .bad, .bad, .bad, .bad, .bad, .bad, .bad, .bad, .bad, .bad, .bad, .bad, .bad, .bad, .bad, .bad, .bad, .bad, .bad, .bad, .bad, .bad, .bad, .bad, (vI v7), .ref 0 0 2, Ty.sl tNode a_0.kids, .sc (.int .i64 (a_0.kids.length : Int)), (vB false), (vB false), .tup [], .tup [], .tup [], .tup [], .tup [], (vB false), .bad, .bad, .bad, .bad, .bad, .bad, .bad, .bad, .bad, .bad, .bad, .bad, .bad, .bad, .bad, .bad] [.box 25 (cNode a_0), .box 25 (cNode b_1)] (by kernel_rfl) ?_
              refine JK_sq ?_
              refine J_condF (v := false) (by kernel_rfl) rfl ?_
              refine J_exit ?_
              refine JK_sq_exit ?_
              refine JK_nil ?_
              obtain rfl := Option.some.inj h
              exact turn_exit (tm' := [.bad, .bad, .bad, .bad, .bad, .bad, .bad, .bad, .bad, .bad, .bad, .bad, .bad, .bad, .bad, .bad, .bad, .bad, .bad, .bad, .bad, .bad, .bad, .bad, .bad, .bad, .bad, .bad, .bad, .bad, .bad, .bad, .bad, .bad, .bad, .bad, .bad, .bad, .bad, .bad, .bad, .bad, .bad, .bad, .bad, .bad, .bad, .bad, .bad, .bad, .bad, .bad, .bad, .bad, .bad, .bad, .bad, .bad, .bad, .bad, .bad, .bad, .bad, .bad]) (st' := [.box 25 (cNode a_0), .box 25 (cNode b_1)]) () (kill_go (mid := [.bad, .bad, .bad, .bad, .bad, .bad, .bad, .bad, .bad, .bad, .bad, .bad, .bad, .bad, .bad, .bad, .bad, .bad, .bad, .bad, .bad, .bad, .bad, .bad, .bad, .bad, .bad, .bad, .bad, .bad, .bad, .bad, .bad, .bad, .bad, .bad, .bad, .bad, .bad, .bad, .bad, .bad, .bad, .bad, .bad, .bad, .bad, .bad, .bad, .bad, .bad, .bad, .bad, .bad, .bad, .bad, .bad, .bad, .bad, .bad, .bad, .bad, .bad, .bad]) (by kernel_rfl) (mB (mB (mB (mB (mB (mB (mB (mB (mB (mB (mB (mB (mB (mB (mB (mB (mB (mB (mB (mB (mB (mB (mB (mB (mB (mB (mB (mB (mB (mB (mB (mB (mB (mB (mB (mB (mB (mB (mB (mB (mB (mB (mB (mB (mB (mB (mB (mB (mB (mB (mB (mB (mB (mB (mB (mB (mB (mB (mB (mB (mB (mB (mB (mB mN))))))))))))))))))))))))))))))))))))))))))))))))))))))))))))))))) (cut_go (mid := [.box 25 (cNode a_0), .box 25 (cNode b_1)]) (by kernel_rfl) (oC (oB (lC (by kernel_rfl) (lC (sl_scrub tProp _ _) (lC (sl_scrub tNode _ _) lN)))) (oC (oB (lC (by kernel_rfl) (lC (sl_scrub tProp _ _) (lC (sl_scrub tNode _ _) lN)))) oN))) (by kernel_rfl)
          · intro g_
            rcases r17 with r19 | r20
            · dsimp only at h
              refine (show JK _ _ _ _ (.exit 0, [.bad, .bad, .bad, .bad, .bad, .bad, .bad, .bad, .bad, .bad, .bad, .bad, .bad, .bad, .bad, .bad, .bad, .bad, .bad, .bad, .bad, .bad, .bad, .bad, .bad, .bad, .bad, .bad, .bad, .bad, .bad, .bad, .bad, .bad, .bad, .bad, .bad, .bad, .bad, .bad, .bad, .bad, .bad, .bad, .bad, .bad, .bad, .bad, .bad, .bad, .bad, .bad, .bad, .bad, .bad, .bad, .bad, .bad, .bad, .bad, .bad, .bad, .bad, .bad], [.box 25 (cNode a_0), .box 25 (cNode b_1)]) from ?_)
              refine JK_bl_hit ?_
              refine JK_sq ?_
              refine J_seq ?_
              refine J_region ?_
              refine JS_end [.bad, .bad, .bad, .bad, .bad, .bad, (vB true), .bad, .bad, .bad, .bad, .bad, .bad, .bad, .bad, .bad, .bad, .bad, .bad, .bad, .bad, .bad, .bad, .bad, .bad, .bad, .bad, .bad, .bad, .bad, .bad, .bad, .bad, .bad, .bad, .bad, .bad, .bad, .bad, .bad, .bad, .bad, .bad, .bad, .bad, .bad, .bad, .bad, .bad, .bad, .bad, .bad, .bad, .bad, .bad, .bad, .bad, .bad, .bad, .bad, .bad, .bad, .bad, .bad] [.box 25 (cNode a_0), .box 25 (cNode b_1)] (by kernel_rfl) ?_
              refine JK_sq ?_
              refine J_ret ?_
              refine JK_nil ?_
              obtain rfl := Option.some.inj h
              exact ret_A (r := (vB true)) (r' := (vB true)) (.inl rfl) (by kernel_rfl) (by kernel_rfl) rfl ⟨by kernel_rfl, rfl⟩
            · dsimp only at h
              refine (show JK _ _ _ _ (.ret, [.bad, .bad, .bad, .bad, .bad, .bad, (vB false), .bad, .bad, .bad, .bad, .bad, .bad, .bad, .bad, .bad, .bad, .bad, .bad, .bad, .bad, .bad, .bad, .bad, .bad, .bad, .bad, .bad, .bad, .bad, .bad, .bad, .bad, .bad, .bad, .bad, .bad, .bad, .bad, .bad, .bad, .bad, .bad, .bad, .bad, .bad, .bad, .bad, .bad, .bad, .bad, .bad, .bad, .bad, .bad, .bad, .bad, .bad, .bad, .bad, .bad, .bad, .bad, .bad], [.box 25 (cNode a_0), .box 25 (cNode b_1)]) from ?_)
              refine JK_bl_ret ?_
              refine JK_sq_ret ?_
              refine JK_nil ?_
              obtain rfl := Option.some.inj h
              exact ret_A (r := (vB false)) (r' := (vB false)) (.inl rfl) (by kernel_rfl) (by kernel_rfl) rfl ⟨by kernel_rfl, rfl⟩

theorem ref12_same_k_C : ∀ (k : Nat) (a_0 : GNode) (b_1 : GNode) (levels_2 : Int) (r : Bool) (st : Store), ref12_same_k k a_0 b_1 levels_2 = some r → fcall E0 52 [.agg (cNode a_0), .agg (cNode b_1), (vI levels_2)] st = some ((vB r), st)
  | 0, a_0, b_1, levels_2, r, st, h => by simp [ref12_same_k] at h
  | k + 1, a_0, b_1, levels_2, r, st, h => ref12_same_b_C (ref12_same_k k) (ref12_same_k_C k) a_0 b_1 levels_2 r st (by simpa only [ref12_same_k] using h)

theorem ref12_same_C (a_0 : GNode) (b_1 : GNode) (levels_2 : Int) (r : Bool) (st : Store) (h : ref12_same a_0 b_1 levels_2 = some r) : fcall E0 52 [.agg (cNode a_0), .agg (cNode b_1), (vI levels_2)] st = some ((vB r), st) := by
  obtain ⟨k, hk⟩ := limF_some h
  exact ref12_same_k_C k a_0 b_1 levels_2 r st hk

theorem ref12_Same_C (a_0 : GNode) (b_1 : GNode) (r : Bool) (st : Store) (h : ref12_Same a_0 b_1 = some r) : fcall E0 15 [.agg (cNode a_0), .agg (cNode b_1)] st = some ((vB r), st) := by
  unfold ref12_Same at h
  refine fn_alone (fn := Tryd.f15) (av' := [.agg (cNode a_0), .agg (cNode b_1), .bad, .bad, .bad, .bad, .bad, .bad]) rfl fn_15 rfl (pC (pAgg (pC rfl (pC (sl_pure tProp _) (pC (sl_pure tNode _) pN)))) (pC (pAgg (pC rfl (pC (sl_pure tProp _) (pC (sl_pure tNode _) pN)))) pN)) rfl rfl rfl (has_go (as1 := [.agg (cNode a_0), .agg (cNode b_1)]) (lC (sAgg (lC (by kernel_rfl) (lC (sl_scrub tProp _ _) (lC (sl_scrub tNode _ _) lN)))) (lC (sAgg (lC (by kernel_rfl) (lC (sl_scrub tProp _ _) (lC (sl_scrub tNode _ _) lN)))) lN)) (by kernel_rfl)) ?_
  refine J_seq ?_
  refine J_region ?_
  refine JS_end [.agg (cNode a_0), .agg (cNode b_1), .ref 0 0 0, .ref 1 0 0, (vB false), .bad, .bad, .bad] [.box 25 (cNode a_0), .box 25 (cNode b_1)] (by kernel_rfl) ?_
  refine JK_sq ?_
  refine J_seq ?_
  refine J_region ?_
  refine JS_seg 2 [.agg (cNode a_0), .agg (cNode b_1), .ref 0 0 0, .ref 1 0 0, (vB false), .agg (cNode a_0), .agg (cNode b_1), .bad] [.box 25 (cNode a_0), .box 25 (cNode b_1)] (by kernel_rfl) ?_
  obtain ⟨r1, h2, h⟩ := Option.bind_eq_some_iff.1 h
  refine JS_upd (fun s => fcall E0 52 [.agg (cNode a_0), .agg (cNode b_1), (vI 20)] s) (by kernel_rfl) (ref12_same_C a_0 b_1 20 _ _ h2) ?_
  refine JS_end [.agg (cNode a_0), .agg (cNode b_1), .ref 0 0 0, .ref 1 0 0, (vB r1), .agg (cNode a_0), .agg (cNode b_1), (vB r1)] [.box 25 (cNode a_0), .box 25 (cNode b_1)] (by kernel_rfl) ?_
  refine JK_sq ?_
  refine J_ret ?_
  refine JK_nil ?_
  obtain rfl := Option.some.inj h
  exact ret_A (r := (vB r1)) (r' := (vB r1)) (.inl rfl) (by kernel_rfl) (by kernel_rfl) rfl ⟨by kernel_rfl, rfl⟩

theorem path_Value_C (n_0 : GNode) (name_1 : Str) (r : Str × Bool) (st : Store) (h : path_Value n_0 name_1 = some r) : fcall E0 16 [.agg (cNode n_0), strV name_1] st = some (.tup [strV r.1, .sc (.bool r.2)], st) := by
  unfold path_Value at h
  refine fn_alone (fn := Tryd.f16) (av' := [.agg (cNode n_0), strV name_1, .bad, .bad, .bad, .bad, .bad, .bad, .bad, .bad, .bad, .bad, .bad, .bad, .bad, .bad, .bad, .bad, .bad]) rfl fn_16 rfl (pC (pAgg (pC rfl (pC (sl_pure tProp _) (pC (sl_pure tNode _) pN)))) (pC rfl pN)) rfl rfl rfl (has_go (as1 := [.agg (cNode n_0), strV name_1]) (lC (sAgg (lC (by kernel_rfl) (lC (sl_scrub tProp _ _) (lC (sl_scrub tNode _ _) lN)))) (lC (by kernel_rfl) lN)) (by kernel_rfl)) ?_
  refine J_seq ?_
  refine J_region ?_
  refine JS_end [.agg (cNode n_0), strV name_1, .ref 0 0 0, .ref 1 0 0, strV [], (vB false), .bad, .bad, .bad, .bad, .bad, .bad, .bad, .bad, .bad, .bad, .bad, .bad, .bad] [.box 25 (cNode n_0), .box 9 [strV name_1]] (by kernel_rfl) ?_
  refine JK_sq ?_
  refine J_seq ?_
  refine J_region ?_
  refine JS_seg 3 [.agg (cNode n_0), strV name_1, .ref 0 0 0, .ref 1 0 0, strV [], (vB false), .bad, .ref 0 0 1, Ty.sl tProp n_0.props, .fn 54 [.ref 1 0 0], .bad, .bad, .bad, .bad, .bad, .bad, .bad, .bad, .bad] [.box 25 (cNode n_0), .box 9 [strV name_1]] (by kernel_rfl) ?_
  refine JS_call (av := [Ty.sl tProp n_0.props, .fn 54 [.ref 1 0 0]]) (av' := [Ty.sl tProp n_0.props, .fn 54 [.ref 1 0 0], .bad, .bad, .bad, .bad, .bad, .bad, .bad, .bad, .bad, .bad, .bad, .bad, .bad, .bad, .bad, .bad, .bad]) (n0 := 2) (by kernel_rfl) rfl fn_53 rfl (nP2 (nP1 (nP1 rfl))) rfl rfl rfl rfl (has_go (as1 := [Ty.sl tProp n_0.props, .fn 54 [.ref 1 0 0]]) (lC (sl_scrub tProp _ _) (lC (sFn (lC (by kernel_rfl) lN)) lN)) (by kernel_rfl)) ?_
  refine J_seq ?_
  refine J_region ?_
  refine JS_end [Ty.sl tProp n_0.props, .fn 54 [.ref 1 0 0], .bad, .bad, (vI 0), .bad, .bad, .bad, .bad, .bad, .bad, .bad, .bad, .bad, .bad, .bad, .bad, .bad, .bad] [.box 25 (cNode n_0), .box 9 [strV name_1]] (by kernel_rfl) ?_
  refine JK_sq ?_
  refine J_seq ?_
  refine J_seq ?_
  refine J_region ?_
  refine JS_end [Ty.sl tProp n_0.props, .fn 54 [.ref 1 0 0], .bad, .bad, (vI 0), .bad, Ty.sl tProp n_0.props, .sc (.int .i64 (n_0.props.length : Int)), (vI 0), .bad, .bad, .bad, .bad, .bad, .bad, .bad, .bad, .bad, .bad] [.box 25 (cNode n_0), .box 9 [strV name_1]] (by kernel_rfl) ?_
  refine JK_sq ?_
  refine J_block ?_
  obtain ⟨r6, h7, h⟩ := Option.bind_eq_some_iff.1 h
  refine J_loop (γ := Unit) h7 2 [Ty.sl tProp n_0.props, .fn 54 [.ref 1 0 0], .bad, .bad, (vI 0), .bad, Ty.sl tProp n_0.props, .sc (.int .i64 (n_0.props.length : Int)), (vI 0), .bad, .bad, .bad, .bad, .bad, .bad, .bad, .bad, .bad, .bad] [.box 25 (cNode n_0), .box 9 [strV name_1]] (fun s g => [Ty.sl tProp n_0.props, .fn 54 [.ref 1 0 0], .bad, .bad, .bad, .bad, .bad, .sc (.int .i64 (n_0.props.length : Int)), (vI s), .bad, .bad, .bad, .bad, .bad, .bad, .bad, .bad, .bad, .bad]) (fun s g => [.box 25 (cNode n_0), .box 9 [strV name_1]]) (fun r g => match r with | (.inl r) => (.exit 0, [.bad, .bad, .bad, .bad, .bad, .bad, .bad, .bad, .bad, .bad, .bad, .bad, .bad, .bad, .bad, .bad, .bad, .bad, .bad], [.box 25 (cNode n_0), .box 9 [strV name_1]]) | (.inr r) => (.ret, [.bad, .bad, .bad, .bad, (vI r), .bad, .bad, .bad, .bad, .bad, .bad, .bad, .bad, .bad, .bad, .bad, .bad, .bad, .bad], [.box 25 (cNode n_0), .box 9 [strV name_1]])) () (by kernel_rfl) (by kernel_rfl) (kill_go (mid := [Ty.sl tProp n_0.props, .fn 54 [.ref 1 0 0], .bad, .bad, .bad, .bad, .bad, .sc (.int .i64 (n_0.props.length : Int)), (vI 0), .bad, .bad, .bad, .bad, .bad, .bad, .bad, .bad, .bad, .bad]) (by kernel_rfl) (mC (sl_scrub tProp _ _) (mC (sFn (lC (by kernel_rfl) lN)) (mB (mB (mB (mB (mB (mC (by kernel_rfl) (mC (by kernel_rfl) (mB (mB (mB (mB (mB (mB (mB (mB (mB (mB mN)))))))))))))))))))) (cut_go (mid := [.box 25 (cNode n_0), .box 9 [strV name_1]]) (by kernel_rfl) (oC (oB (lC (by kernel_rfl) (lC (sl_scrub tProp _ _) (lC (sl_scrub tNode _ _) lN)))) (oC (oB (lC (by kernel_rfl) lN)) oN))) ?_ ?_
  · rintro v1 _ y h
    unfold path_Value_l1 at h
    refine J_seq ?_
    refine J_region ?_
    refine JS_end [Ty.sl tProp n_0.props, .fn 54 [.ref 1 0 0], .bad, .bad, .bad, .bad, .bad, .sc (.int .i64 (n_0.props.length : Int)), (vI v1), .sc (.bool (decide (v1 < (n_0.props.length : Int)))), .bad, .bad, .bad, .bad, .bad, .bad, .bad, .bad, .bad] [.box 25 (cNode n_0), .box 9 [strV name_1]] (by kernel_rfl) ?_
    refine JK_sq ?_
    refine J_seq ?_
    rcases bool_cases (decide (v1 < (n_0.props.length : Int))) with h2 | h2
    · rw [if_pos h2] at h
      refine J_condT (v := (decide (v1 < (n_0.props.length : Int)))) (by kernel_rfl) h2 ?_
      refine J_skip ?_
      refine JK_sq ?_
      refine J_seq ?_
      refine J_block ?_
      refine J_seq ?_
      refine J_region ?_
      refine JS_end [Ty.sl tProp n_0.props, .fn 54 [.ref 1 0 0], .bad, .bad, .bad, (vI v1), .bad, .sc (.int .i64 (n_0.props.length : Int)), (vI v1), .sc (.bool (decide (v1 < (n_0.props.length : Int)))), (vI v1), .bad, .bad, .bad, .bad, .bad, .bad, .bad, .bad] [.box 25 (cNode n_0), .box 9 [strV name_1]] (by kernel_rfl) ?_
      refine JK_sq ?_
      refine J_seq ?_
      refine J_region ?_
      refine JS_seg 3 [Ty.sl tProp n_0.props, .fn 54 [.ref 1 0 0], .bad, .bad, .bad, (vI v1), .bad, .sc (.int .i64 (n_0.props.length : Int)), (vI v1), .sc (.bool (decide (v1 < (n_0.props.length : Int)))), (vI v1), .fn 54 [.ref 1 0 0], Ty.sl tProp n_0.props, (vI v1), .bad, .bad, .bad, .bad, .bad] [.box 25 (cNode n_0), .box 9 [strV name_1]] (by kernel_rfl) ?_
      obtain ⟨x3, h4, h⟩ := Option.bind_eq_some_iff.1 h
      refine JS_val (fun s => aindexAddr E0.tb s 22 (Ty.sl tProp n_0.props) ((vI v1))) (by kernel_rfl) (sl_addr tProp tb_22 rfl tb_78 rfl h4) ?_
      refine JS_seg 4 [Ty.sl tProp n_0.props, .fn 54 [.ref 1 0 0], .bad, .bad, .bad, (vI v1), .bad, .sc (.int .i64 (n_0.props.length : Int)), (vI v1), .sc (.bool (decide (v1 < (n_0.props.length : Int)))), (vI v1), .fn 54 [.ref 1 0 0], Ty.sl tProp n_0.props, (vI v1), .fp (List.flatMap (Ty.cells tProp) n_0.props) (v1.toNat * Ty.size tProp), .bad, .bad, .bad, .bad] [.box 25 (cNode n_0), .box 9 [strV name_1]] (by kernel_rfl) ?_
      refine JS_val (fun s => aload E0.tb s 78 (.fp (List.flatMap (Ty.cells tProp) n_0.props) (v1.toNat * Ty.size tProp))) (by kernel_rfl) (fp_loadN tProp (o := 0) (vs := (cProp x3)) tb_78 rfl h4 (by decide) (by rw [tProp_cells]; rfl)) ?_
      refine JS_seg 5 [Ty.sl tProp n_0.props, .fn 54 [.ref 1 0 0], .bad, .bad, .bad, (vI v1), .bad, .sc (.int .i64 (n_0.props.length : Int)), (vI v1), .sc (.bool (decide (v1 < (n_0.props.length : Int)))), (vI v1), .fn 54 [.ref 1 0 0], Ty.sl tProp n_0.props, (vI v1), .fp (List.flatMap (Ty.cells tProp) n_0.props) (v1.toNat * Ty.size tProp), .agg (cProp x3), .bad, .bad, .bad] [.box 25 (cNode n_0), .box 9 [strV name_1]] (by kernel_rfl) ?_
      refine JS_call (av := [.agg (cProp x3), .ref 1 0 0]) (av' := [.agg (cProp x3), .ref 1 0 0, .bad, .bad, .bad, .bad, .bad, .bad]) (n0 := 2) (by kernel_rfl) rfl fn_54 rfl (nP2 (nP1 rfl)) rfl rfl rfl rfl (has_go (as1 := [.agg (cProp x3), .ref 1 0 0]) (lC (sAgg (lC (by kernel_rfl) (lC (by kernel_rfl) lN))) (lC (by kernel_rfl) lN)) (by kernel_rfl)) ?_
      refine J_seq ?_
      refine J_region ?_
      refine JS_end [.agg (cProp x3), .ref 1 0 0, .ref 2 0 0, (vB false), .bad, .bad, .bad, .bad] [.box 25 (cNode n_0), .box 9 [strV name_1], .box 78 (cProp x3)] (by kernel_rfl) ?_
      refine JK_sq ?_
      refine J_seq ?_
      refine J_region ?_
      refine JS_seg 3 [.agg (cProp x3), .ref 1 0 0, .ref 2 0 0, (vB false), .ref 2 0 0, strV x3.name, strV name_1, .bad] [.box 25 (cNode n_0), .box 9 [strV name_1], .box 78 (cProp x3)] (by kernel_rfl) ?_
      refine JS_val (fun s => abin E0.tb s .eql 9 (strV x3.name) (strV name_1)) (by kernel_rfl) (str_eq x3.name name_1) ?_
      refine JS_end [.agg (cProp x3), .ref 1 0 0, .ref 2 0 0, .sc (.bool (x3.name == name_1)), .ref 2 0 0, strV x3.name, strV name_1, .sc (.bool (x3.name == name_1))] [.box 25 (cNode n_0), .box 9 [strV name_1], .box 78 (cProp x3)] (by kernel_rfl) ?_
      refine JK_sq ?_
      refine J_ret ?_
      refine JK_nil ?_
      refine ret_M (r := .sc (.bool (x3.name == name_1))) (r' := .sc (.bool (x3.name == name_1))) (st2 := [.box 25 (cNode n_0), .box 9 [strV name_1]]) (.inl rfl) (by kernel_rfl) (by kernel_rfl) (cut_go (mid := [.box 25 (cNode n_0), .box 9 [strV name_1]]) (by kernel_rfl) (oC (oB (lC (by kernel_rfl) (lC (sl_scrub tProp _ _) (lC (sl_scrub tNode _ _) lN)))) (oC (oB (lC (by kernel_rfl) lN)) oN))) ?_
      refine JS_end [Ty.sl tProp n_0.props, .fn 54 [.ref 1 0 0], .bad, .bad, .bad, (vI v1), .bad, .sc (.int .i64 (n_0.props.length : Int)), (vI v1), .sc (.bool (decide (v1 < (n_0.props.length : Int)))), (vI v1), .fn 54 [.ref 1 0 0], Ty.sl tProp n_0.props, (vI v1), .fp (List.flatMap (Ty.cells tProp) n_0.props) (v1.toNat * Ty.size tProp), .agg (cProp x3), .sc (.bool (x3.name == name_1)), .bad, .bad] [.box 25 (cNode n_0), .box 9 [strV name_1]] (by kernel_rfl) ?_
      refine JK_sq ?_
      rcases bool_cases (x3.name == name_1) with h5 | h5
      · rw [if_pos h5] at h
        refine J_condT (v := (x3.name == name_1)) (by kernel_rfl) h5 ?_
        refine J_seq ?_
        refine J_region ?_
        refine JS_end [Ty.sl tProp n_0.props, .fn 54 [.ref 1 0 0], .bad, .bad, (vI v1), (vI v1), .bad, .sc (.int .i64 (n_0.props.length : Int)), (vI v1), .sc (.bool (decide (v1 < (n_0.props.length : Int)))), (vI v1), .fn 54 [.ref 1 0 0], Ty.sl tProp n_0.props, (vI v1), .fp (List.flatMap (Ty.cells tProp) n_0.props) (v1.toNat * Ty.size tProp), .agg (cProp x3), .sc (.bool (x3.name == name_1)), (vI v1), .bad] [.box 25 (cNode n_0), .box 9 [strV name_1]] (by kernel_rfl) ?_
        refine JK_sq ?_
        refine J_ret ?_
        refine JK_bl_ret ?_
        refine JK_sq_ret ?_
        refine JK_nil ?_
        obtain rfl := Option.some.inj h
        exact turn_ret (tm' := [.bad, .bad, .bad, .bad, (vI v1), .bad, .bad, .bad, .bad, .bad, .bad, .bad, .bad, .bad, .bad, .bad, .bad, .bad, .bad]) (st' := [.box 25 (cNode n_0), .box 9 [strV name_1]]) () (kill_go (mid := [.bad, .bad, .bad, .bad, (vI v1), .bad, .bad, .bad, .bad, .bad, .bad, .bad, .bad, .bad, .bad, .bad, .bad, .bad, .bad]) (by kernel_rfl) (mB (mB (mB (mB (mC (by kernel_rfl) (mB (mB (mB (mB (mB (mB (mB (mB (mB (mB (mB (mB (mB (mB mN)))))))))))))))))))) (cut_go (mid := [.box 25 (cNode n_0), .box 9 [strV name_1]]) (by kernel_rfl) (oC (oB (lC (by kernel_rfl) (lC (sl_scrub tProp _ _) (lC (sl_scrub tNode _ _) lN)))) (oC (oB (lC (by kernel_rfl) lN)) oN))) (by kernel_rfl)
      · rw [if_neg (ne_true h5)] at h
        refine J_condF (v := (x3.name == name_1)) (by kernel_rfl) h5 ?_
        refine J_skip ?_
        refine JK_bl ?_
        refine JK_sq ?_
        refine J_region ?_
        refine JS_end [Ty.sl tProp n_0.props, .fn 54 [.ref 1 0 0], .bad, .bad, .bad, (vI v1), .bad, .sc (.int .i64 (n_0.props.length : Int)), .sc (.int .i64 (IntKind.wrap .i64 (v1 + 1))), .sc (.bool (decide (v1 < (n_0.props.length : Int)))), (vI v1), .fn 54 [.ref 1 0 0], Ty.sl tProp n_0.props, (vI v1), .fp (List.flatMap (Ty.cells tProp) n_0.props) (v1.toNat * Ty.size tProp), .agg (cProp x3), .sc (.bool (x3.name == name_1)), .bad, .sc (.int .i64 (IntKind.wrap .i64 (v1 + 1)))] [.box 25 (cNode n_0), .box 9 [strV name_1]] (by kernel_rfl) ?_
        refine JK_nil ?_
        obtain rfl := Option.some.inj h
        exact turn_next () (kill_go (mid := [Ty.sl tProp n_0.props, .fn 54 [.ref 1 0 0], .bad, .bad, .bad, .bad, .bad, .sc (.int .i64 (n_0.props.length : Int)), .sc (.int .i64 (IntKind.wrap .i64 (v1 + 1))), .bad, .bad, .bad, .bad, .bad, .bad, .bad, .bad, .bad, .bad]) (by kernel_rfl) (mC (sl_scrub tProp _ _) (mC (sFn (lC (by kernel_rfl) lN)) (mB (mB (mB (mB (mB (mC (by kernel_rfl) (mC (by kernel_rfl) (mB (mB (mB (mB (mB (mB (mB (mB (mB (mB mN)))))))))))))))))))) (cut_go (mid := [.box 25 (cNode n_0), .box 9 [strV name_1]]) (by kernel_rfl) (oC (oB (lC (by kernel_rfl) (lC (sl_scrub tProp _ _) (lC (sl_scrub tNode _ _) lN)))) (oC (oB (lC (by kernel_rfl) lN)) oN)))
    · rw [if_neg (ne_true h2)] at h
      refine J_condF (v := (decide (v1 < (n_0.props.length : Int)))) (by kernel_rfl) h2 ?_
      refine J_exit ?_
      refine JK_sq_exit ?_
      refine JK_nil ?_
      obtain rfl := Option.some.inj h
      exact turn_exit (tm' := [.bad, .bad, .bad, .bad, .bad, .bad, .bad, .bad, .bad, .bad, .bad, .bad, .bad, .bad, .bad, .bad, .bad, .bad, .bad]) (st' := [.box 25 (cNode n_0), .box 9 [strV name_1]]) () (kill_go (mid := [.bad, .bad, .bad, .bad, .bad, .bad, .bad, .bad, .bad, .bad, .bad, .bad, .bad, .bad, .bad, .bad, .bad, .bad, .bad]) (by kernel_rfl) (mB (mB (mB (mB (mB (mB (mB (mB (mB (mB (mB (mB (mB (mB (mB (mB (mB (mB (mB mN)))))))))))))))))))) (cut_go (mid := [.box 25 (cNode n_0), .box 9 [strV name_1]]) (by kernel_rfl) (oC (oB (lC (by kernel_rfl) (lC (sl_scrub tProp _ _) (lC (sl_scrub tNode _ _) lN)))) (oC (oB (lC (by kernel_rfl) lN)) oN))) (by kernel_rfl)
  · intro g_
    rcases r6 with r8 | r9
    · dsimp only at h
      refine (show JK _ _ _ _ (.exit 0, [.bad, .bad, .bad, .bad, .bad, .bad, .bad, .bad, .bad, .bad, .bad, .bad, .bad, .bad, .bad, .bad, .bad, .bad, .bad], [.box 25 (cNode n_0), .box 9 [strV name_1]]) from ?_)
      refine JK_bl_hit ?_
      refine JK_sq ?_
      refine J_seq ?_
      refine J_region ?_
      refine JS_end [.bad, .bad, .bad, .bad, .sc (.int .i64 (-1)), .bad, .bad, .bad, .bad, .bad, .bad, .bad, .bad, .bad, .bad, .bad, .bad, .bad, .bad] [.box 25 (cNode n_0), .box 9 [strV name_1]] (by kernel_rfl) ?_
      refine JK_sq ?_
      refine J_ret ?_
      refine JK_nil ?_
      refine ret_M (r := .sc (.int .i64 (-1))) (r' := .sc (.int .i64 (-1))) (st2 := [.box 25 (cNode n_0), .box 9 [strV name_1]]) (.inl rfl) (by kernel_rfl) (by kernel_rfl) (cut_go (mid := [.box 25 (cNode n_0), .box 9 [strV name_1]]) (by kernel_rfl) (oC (oB (lC (by kernel_rfl) (lC (sl_scrub tProp _ _) (lC (sl_scrub tNode _ _) lN)))) (oC (oB (lC (by kernel_rfl) lN)) oN))) ?_
      refine JS_end [.agg (cNode n_0), strV name_1, .ref 0 0 0, .ref 1 0 0, strV [], (vB false), .sc (.int .i64 (-1)), .ref 0 0 1, Ty.sl tProp n_0.props, .fn 54 [.ref 1 0 0], .sc (.int .i64 (-1)), .bad, .bad, .bad, .bad, .bad, .bad, .bad, .bad] [.box 25 (cNode n_0), .box 9 [strV name_1]] (by kernel_rfl) ?_
      refine JK_sq ?_
      refine J_seq ?_
      refine J_seq ?_
      refine J_region ?_
      refine JS_end [.agg (cNode n_0), strV name_1, .ref 0 0 0, .ref 1 0 0, strV [], (vB false), .sc (.int .i64 (-1)), .ref 0 0 1, Ty.sl tProp n_0.props, .fn 54 [.ref 1 0 0], .sc (.int .i64 (-1)), .sc (.int .i64 (-1)), (vB true), .bad, .bad, .bad, .bad, .bad, .bad] [.box 25 (cNode n_0), .box 9 [strV name_1]] (by kernel_rfl) ?_
      refine JK_sq ?_
      refine J_condT (v := true) (by kernel_rfl) rfl ?_
      refine J_seq ?_
      refine J_region ?_
      refine JS_end [.agg (cNode n_0), strV name_1, .ref 0 0 0, .ref 1 0 0, strV [], (vB false), .sc (.int .i64 (-1)), .ref 0 0 1, Ty.sl tProp n_0.props, .fn 54 [.ref 1 0 0], .sc (.int .i64 (-1)), .sc (.int .i64 (-1)), (vB true), .bad, .bad, .bad, .bad, .bad, .bad] [.box 25 (cNode n_0), .box 9 [strV name_1]] (by kernel_rfl) ?_
      refine JK_sq ?_
      refine J_ret ?_
      refine JK_sq_ret ?_
      refine JK_nil ?_
      obtain rfl := Option.some.inj h
      exact ret_A (r := .tup [strV [], (vB false)]) (r' := .tup [strV [], (vB false)]) (.inl rfl) (by kernel_rfl) (fTup (fC (by kernel_rfl) (fC (by kernel_rfl) fN))) (pTup (pC rfl (pC rfl pN))) ⟨by kernel_rfl, rfl⟩
    · dsimp only at h
      refine (show JK _ _ _ _ (.ret, [.bad, .bad, .bad, .bad, (vI r9), .bad, .bad, .bad, .bad, .bad, .bad, .bad, .bad, .bad, .bad, .bad, .bad, .bad, .bad], [.box 25 (cNode n_0), .box 9 [strV name_1]]) from ?_)
      refine JK_bl_ret ?_
      refine JK_sq_ret ?_
      refine JK_nil ?_
      refine ret_M (r := (vI r9)) (r' := (vI r9)) (st2 := [.box 25 (cNode n_0), .box 9 [strV name_1]]) (.inl rfl) (by kernel_rfl) (by kernel_rfl) (cut_go (mid := [.box 25 (cNode n_0), .box 9 [strV name_1]]) (by kernel_rfl) (oC (oB (lC (by kernel_rfl) (lC (sl_scrub tProp _ _) (lC (sl_scrub tNode _ _) lN)))) (oC (oB (lC (by kernel_rfl) lN)) oN))) ?_
      refine JS_end [.agg (cNode n_0), strV name_1, .ref 0 0 0, .ref 1 0 0, strV [], (vB false), (vI r9), .ref 0 0 1, Ty.sl tProp n_0.props, .fn 54 [.ref 1 0 0], (vI r9), .bad, .bad, .bad, .bad, .bad, .bad, .bad, .bad] [.box 25 (cNode n_0), .box 9 [strV name_1]] (by kernel_rfl) ?_
      refine JK_sq ?_
      refine J_seq ?_
      refine J_seq ?_
      refine J_region ?_
      refine JS_end [.agg (cNode n_0), strV name_1, .ref 0 0 0, .ref 1 0 0, strV [], (vB false), (vI r9), .ref 0 0 1, Ty.sl tProp n_0.props, .fn 54 [.ref 1 0 0], (vI r9), (vI r9), .sc (.bool (decide (r9 < 0))), .bad, .bad, .bad, .bad, .bad, .bad] [.box 25 (cNode n_0), .box 9 [strV name_1]] (by kernel_rfl) ?_
      refine JK_sq ?_
      rcases bool_cases (decide (r9 < 0)) with h10 | h10
      · rw [if_pos h10] at h
        refine J_condT (v := (decide (r9 < 0))) (by kernel_rfl) h10 ?_
        refine J_seq ?_
        refine J_region ?_
        refine JS_end [.agg (cNode n_0), strV name_1, .ref 0 0 0, .ref 1 0 0, strV [], (vB false), (vI r9), .ref 0 0 1, Ty.sl tProp n_0.props, .fn 54 [.ref 1 0 0], (vI r9), (vI r9), .sc (.bool (decide (r9 < 0))), .bad, .bad, .bad, .bad, .bad, .bad] [.box 25 (cNode n_0), .box 9 [strV name_1]] (by kernel_rfl) ?_
        refine JK_sq ?_
        refine J_ret ?_
        refine JK_sq_ret ?_
        refine JK_nil ?_
        obtain rfl := Option.some.inj h
        exact ret_A (r := .tup [strV [], (vB false)]) (r' := .tup [strV [], (vB false)]) (.inl rfl) (by kernel_rfl) (fTup (fC (by kernel_rfl) (fC (by kernel_rfl) fN))) (pTup (pC rfl (pC rfl pN))) ⟨by kernel_rfl, rfl⟩
      · rw [if_neg (ne_true h10)] at h
        refine J_condF (v := (decide (r9 < 0))) (by kernel_rfl) h10 ?_
        refine J_skip ?_
        refine JK_sq ?_
        refine J_seq ?_
        refine J_region ?_
        refine JS_seg 3 [.agg (cNode n_0), strV name_1, .ref 0 0 0, .ref 1 0 0, strV [], (vB false), (vI r9), .ref 0 0 1, Ty.sl tProp n_0.props, .fn 54 [.ref 1 0 0], (vI r9), (vI r9), .sc (.bool (decide (r9 < 0))), .ref 0 0 1, Ty.sl tProp n_0.props, (vI r9), .bad, .bad, .bad] [.box 25 (cNode n_0), .box 9 [strV name_1]] (by kernel_rfl) ?_
        obtain ⟨x11, h12, h⟩ := Option.bind_eq_some_iff.1 h
        refine JS_val (fun s => aindexAddr E0.tb s 22 (Ty.sl tProp n_0.props) ((vI r9))) (by kernel_rfl) (sl_addr tProp tb_22 rfl tb_78 rfl h12) ?_
        refine JS_seg 5 [.agg (cNode n_0), strV name_1, .ref 0 0 0, .ref 1 0 0, strV [], (vB false), (vI r9), .ref 0 0 1, Ty.sl tProp n_0.props, .fn 54 [.ref 1 0 0], (vI r9), (vI r9), .sc (.bool (decide (r9 < 0))), .ref 0 0 1, Ty.sl tProp n_0.props, (vI r9), .fp (List.flatMap (Ty.cells tProp) n_0.props) (r9.toNat * Ty.size tProp), .fp (List.flatMap (Ty.cells tProp) n_0.props) (r9.toNat * Ty.size tProp + 1), .bad] [.box 25 (cNode n_0), .box 9 [strV name_1]] (by kernel_rfl) ?_
        refine JS_val (fun s => aload E0.tb s 9 (.fp (List.flatMap (Ty.cells tProp) n_0.props) (r9.toNat * Ty.size tProp + 1))) (by kernel_rfl) (fp_load1 tProp (o := 1) tb_9 rfl h12 (by rw [tProp_cells]; rfl)) ?_
        refine JS_end [.agg (cNode n_0), strV name_1, .ref 0 0 0, .ref 1 0 0, strV x11.value, (vB true), (vI r9), .ref 0 0 1, Ty.sl tProp n_0.props, .fn 54 [.ref 1 0 0], (vI r9), (vI r9), .sc (.bool (decide (r9 < 0))), .ref 0 0 1, Ty.sl tProp n_0.props, (vI r9), .fp (List.flatMap (Ty.cells tProp) n_0.props) (r9.toNat * Ty.size tProp), .fp (List.flatMap (Ty.cells tProp) n_0.props) (r9.toNat * Ty.size tProp + 1), strV x11.value] [.box 25 (cNode n_0), .box 9 [strV name_1]] (by kernel_rfl) ?_
        refine JK_sq ?_
        refine J_ret ?_
        refine JK_nil ?_
        obtain rfl := Option.some.inj h
        exact ret_A (r := .tup [strV x11.value, (vB true)]) (r' := .tup [strV x11.value, (vB true)]) (.inl rfl) (by kernel_rfl) (fTup (fC (by kernel_rfl) (fC (by kernel_rfl) fN))) (pTup (pC rfl (pC rfl pN))) ⟨by kernel_rfl, rfl⟩

theorem ref16_Value_C (n_0 : GNode) (name_1 : Str) (r : Str × Bool) (st : Store) (h : ref16_Value n_0 name_1 = some r) : fcall E0 17 [.agg (cNode n_0), strV name_1] st = some (.tup [strV r.1, .sc (.bool r.2)], st) := by
  unfold ref16_Value at h
  refine fn_alone (fn := Tryd.f17) (av' := [.agg (cNode n_0), strV name_1, .bad, .bad, .bad, .bad, .bad, .bad, .bad, .bad, .bad, .bad, .bad, .bad, .bad, .bad, .bad, .bad, .bad, .bad, .bad, .bad, .bad, .bad, .bad, .bad, .bad, .bad]) rfl fn_17 rfl (pC (pAgg (pC rfl (pC (sl_pure tProp _) (pC (sl_pure tNode _) pN)))) (pC rfl pN)) rfl rfl rfl (has_go (as1 := [.agg (cNode n_0), strV name_1]) (lC (sAgg (lC (by kernel_rfl) (lC (sl_scrub tProp _ _) (lC (sl_scrub tNode _ _) lN)))) (lC (by kernel_rfl) lN)) (by kernel_rfl)) ?_
  refine J_seq ?_
  refine J_region ?_
  refine JS_end [.agg (cNode n_0), strV name_1, .ref 0 0 0, .bad, strV [], (vB false), .bad, .bad, .bad, .bad, .bad, .bad, .bad, .bad, .bad, .bad, .bad, .bad, .bad, .bad, .bad, .bad, .bad, .bad, .bad, .bad, .bad, .bad] [.box 25 (cNode n_0)] (by kernel_rfl) ?_
  refine JK_sq ?_
  refine J_seq ?_
  refine J_seq ?_
  refine J_region ?_
  refine JS_end [.agg (cNode n_0), strV name_1, .ref 0 0 0, .bad, strV [], (vB false), (vI 0), .bad, .bad, .bad, .bad, .bad, .bad, .bad, .bad, .bad, .bad, .bad, .bad, .bad, .bad, .bad, .bad, .bad, .bad, .bad, .bad, .bad] [.box 25 (cNode n_0)] (by kernel_rfl) ?_
  refine JK_sq ?_
  refine J_block ?_
  obtain ⟨r8, h9, h⟩ := Option.bind_eq_some_iff.1 h
  refine J_loop (γ := Unit) h9 1 [.agg (cNode n_0), strV name_1, .ref 0 0 0, .bad, strV [], (vB false), (vI 0), .bad, .bad, .bad, .bad, .bad, .bad, .bad, .bad, .bad, .bad, .bad, .bad, .bad, .bad, .bad, .bad, .bad, .bad, .bad, .bad, .bad] [.box 25 (cNode n_0)] (fun s g => [.bad, strV name_1, .ref 0 0 0, .bad, .bad, .bad, (vI s), .bad, .bad, .bad, .bad, .bad, .bad, .bad, .bad, .bad, .bad, .bad, .bad, .bad, .bad, .bad, .bad, .bad, .bad, .bad, .bad, .bad]) (fun s g => [.box 25 (cNode n_0)]) (fun r g => match r with | (.inl r) => (.exit 0, [.bad, .bad, .bad, .bad, .bad, .bad, .bad, .bad, .bad, .bad, .bad, .bad, .bad, .bad, .bad, .bad, .bad, .bad, .bad, .bad, .bad, .bad, .bad, .bad, .bad, .bad, .bad, .bad], [.box 25 (cNode n_0)]) | (.inr r) => (.ret, [.bad, .bad, .bad, .bad, strV r, (vB true), .bad, .bad, .bad, .bad, .bad, .bad, .bad, .bad, .bad, .bad, .bad, .bad, .bad, .bad, .bad, .bad, .bad, .bad, .bad, .bad, .bad, .bad], [.box 25 (cNode n_0)])) () (by kernel_rfl) (by kernel_rfl) (kill_go (mid := [.bad, strV name_1, .ref 0 0 0, .bad, .bad, .bad, (vI 0), .bad, .bad, .bad, .bad, .bad, .bad, .bad, .bad, .bad, .bad, .bad, .bad, .bad, .bad, .bad, .bad, .bad, .bad, .bad, .bad, .bad]) (by kernel_rfl) (mB (mC (by kernel_rfl) (mC (by kernel_rfl) (mB (mB (mB (mC (by kernel_rfl) (mB (mB (mB (mB (mB (mB (mB (mB (mB (mB (mB (mB (mB (mB (mB (mB (mB (mB (mB (mB (mB mN))))))))))))))))))))))))))))) (cut_go (mid := [.box 25 (cNode n_0)]) (by kernel_rfl) (oC (oB (lC (by kernel_rfl) (lC (sl_scrub tProp _ _) (lC (sl_scrub tNode _ _) lN)))) oN)) ?_ ?_
  · rintro v1 _ y h
    unfold ref16_Value_l1 at h
    refine J_seq ?_
    refine J_seq ?_
    refine J_region ?_
    refine JS_end [.bad, strV name_1, .ref 0 0 0, .bad, .bad, .bad, (vI v1), (vI v1), .ref 0 0 1, Ty.sl tProp n_0.props, .sc (.int .i64 (n_0.props.length : Int)), .sc (.bool (decide (v1 < (n_0.props.length : Int)))), .bad, .bad, .bad, .bad, .bad, .bad, .bad, .bad, .bad, .bad, .bad, .bad, .bad, .bad, .bad, .bad] [.box 25 (cNode n_0)] (by kernel_rfl) ?_
    refine JK_sq ?_
    rcases bool_cases (decide (v1 < (n_0.props.length : Int))) with h2 | h2
    · rw [if_pos h2] at h
      refine J_condT (v := (decide (v1 < (n_0.props.length : Int)))) (by kernel_rfl) h2 ?_
      refine J_skip ?_
      refine JK_sq ?_
      refine J_seq ?_
      refine J_block ?_
      refine J_seq ?_
      refine J_region ?_
      refine JS_seg 3 [.bad, strV name_1, .ref 0 0 0, .bad, .bad, .bad, (vI v1), (vI v1), .ref 0 0 1, Ty.sl tProp n_0.props, .sc (.int .i64 (n_0.props.length : Int)), .sc (.bool (decide (v1 < (n_0.props.length : Int)))), .bad, .bad, .ref 0 0 1, Ty.sl tProp n_0.props, (vI v1), .bad, .bad, .bad, .bad, .bad, .bad, .bad, .bad, .bad, .bad, .bad] [.box 25 (cNode n_0)] (by kernel_rfl) ?_
      obtain ⟨x3, h4, h⟩ := Option.bind_eq_some_iff.1 h
      refine JS_val (fun s => aindexAddr E0.tb s 22 (Ty.sl tProp n_0.props) ((vI v1))) (by kernel_rfl) (sl_addr tProp tb_22 rfl tb_78 rfl h4) ?_
      refine JS_seg 5 [.bad, strV name_1, .ref 0 0 0, .bad, .bad, .bad, (vI v1), (vI v1), .ref 0 0 1, Ty.sl tProp n_0.props, .sc (.int .i64 (n_0.props.length : Int)), .sc (.bool (decide (v1 < (n_0.props.length : Int)))), .bad, .bad, .ref 0 0 1, Ty.sl tProp n_0.props, (vI v1), .fp (List.flatMap (Ty.cells tProp) n_0.props) (v1.toNat * Ty.size tProp), .fp (List.flatMap (Ty.cells tProp) n_0.props) (v1.toNat * Ty.size tProp + 0), .bad, .bad, .bad, .bad, .bad, .bad, .bad, .bad, .bad] [.box 25 (cNode n_0)] (by kernel_rfl) ?_
      refine JS_val (fun s => aload E0.tb s 9 (.fp (List.flatMap (Ty.cells tProp) n_0.props) (v1.toNat * Ty.size tProp + 0))) (by kernel_rfl) (fp_load1 tProp (o := 0) tb_9 rfl h4 (by rw [tProp_cells]; rfl)) ?_
      refine JS_seg 7 [.bad, strV name_1, .ref 0 0 0, .bad, .bad, .bad, (vI v1), (vI v1), .ref 0 0 1, Ty.sl tProp n_0.props, .sc (.int .i64 (n_0.props.length : Int)), .sc (.bool (decide (v1 < (n_0.props.length : Int)))), .bad, .bad, .ref 0 0 1, Ty.sl tProp n_0.props, (vI v1), .fp (List.flatMap (Ty.cells tProp) n_0.props) (v1.toNat * Ty.size tProp), .fp (List.flatMap (Ty.cells tProp) n_0.props) (v1.toNat * Ty.size tProp + 0), strV x3.name, strV name_1, .bad, .bad, .bad, .bad, .bad, .bad, .bad] [.box 25 (cNode n_0)] (by kernel_rfl) ?_
      refine JS_val (fun s => abin E0.tb s .eql 9 (strV x3.name) (strV name_1)) (by kernel_rfl) (str_eq x3.name name_1) ?_
      refine JS_end [.bad, strV name_1, .ref 0 0 0, .bad, .bad, .bad, (vI v1), (vI v1), .ref 0 0 1, Ty.sl tProp n_0.props, .sc (.int .i64 (n_0.props.length : Int)), .sc (.bool (decide (v1 < (n_0.props.length : Int)))), .bad, .bad, .ref 0 0 1, Ty.sl tProp n_0.props, (vI v1), .fp (List.flatMap (Ty.cells tProp) n_0.props) (v1.toNat * Ty.size tProp), .fp (List.flatMap (Ty.cells tProp) n_0.props) (v1.toNat * Ty.size tProp + 0), strV x3.name, strV name_1, .sc (.bool (x3.name == name_1)), .bad, .bad, .bad, .bad, .bad, .bad] [.box 25 (cNode n_0)] (by kernel_rfl) ?_
      refine JK_sq ?_
      rcases bool_cases (x3.name == name_1) with h5 | h5
      · rw [if_pos h5] at h
        refine J_condT (v := (x3.name == name_1)) (by kernel_rfl) h5 ?_
        refine J_seq ?_
        refine J_region ?_
        refine JS_seg 3 [.bad, strV name_1, .ref 0 0 0, .bad, .bad, .bad, (vI v1), (vI v1), .ref 0 0 1, Ty.sl tProp n_0.props, .sc (.int .i64 (n_0.props.length : Int)), .sc (.bool (decide (v1 < (n_0.props.length : Int)))), .bad, .bad, .ref 0 0 1, Ty.sl tProp n_0.props, (vI v1), .fp (List.flatMap (Ty.cells tProp) n_0.props) (v1.toNat * Ty.size tProp), .fp (List.flatMap (Ty.cells tProp) n_0.props) (v1.toNat * Ty.size tProp + 0), strV x3.name, strV name_1, .sc (.bool (x3.name == name_1)), .ref 0 0 1, Ty.sl tProp n_0.props, (vI v1), .bad, .bad, .bad] [.box 25 (cNode n_0)] (by kernel_rfl) ?_
        obtain ⟨x6, h7, h⟩ := Option.bind_eq_some_iff.1 h
        refine JS_val (fun s => aindexAddr E0.tb s 22 (Ty.sl tProp n_0.props) ((vI v1))) (by kernel_rfl) (sl_addr tProp tb_22 rfl tb_78 rfl h7) ?_
        refine JS_seg 5 [.bad, strV name_1, .ref 0 0 0, .bad, .bad, .bad, (vI v1), (vI v1), .ref 0 0 1, Ty.sl tProp n_0.props, .sc (.int .i64 (n_0.props.length : Int)), .sc (.bool (decide (v1 < (n_0.props.length : Int)))), .bad, .bad, .ref 0 0 1, Ty.sl tProp n_0.props, (vI v1), .fp (List.flatMap (Ty.cells tProp) n_0.props) (v1.toNat * Ty.size tProp), .fp (List.flatMap (Ty.cells tProp) n_0.props) (v1.toNat * Ty.size tProp + 0), strV x3.name, strV name_1, .sc (.bool (x3.name == name_1)), .ref 0 0 1, Ty.sl tProp n_0.props, (vI v1), .fp (List.flatMap (Ty.cells tProp) n_0.props) (v1.toNat * Ty.size tProp), .fp (List.flatMap (Ty.cells tProp) n_0.props) (v1.toNat * Ty.size tProp + 1), .bad] [.box 25 (cNode n_0)] (by kernel_rfl) ?_
        refine JS_val (fun s => aload E0.tb s 9 (.fp (List.flatMap (Ty.cells tProp) n_0.props) (v1.toNat * Ty.size tProp + 1))) (by kernel_rfl) (fp_load1 tProp (o := 1) tb_9 rfl h7 (by rw [tProp_cells]; rfl)) ?_
        refine JS_end [.bad, strV name_1, .ref 0 0 0, .bad, strV x6.value, (vB true), (vI v1), (vI v1), .ref 0 0 1, Ty.sl tProp n_0.props, .sc (.int .i64 (n_0.props.length : Int)), .sc (.bool (decide (v1 < (n_0.props.length : Int)))), .bad, .bad, .ref 0 0 1, Ty.sl tProp n_0.props, (vI v1), .fp (List.flatMap (Ty.cells tProp) n_0.props) (v1.toNat * Ty.size tProp), .fp (List.flatMap (Ty.cells tProp) n_0.props) (v1.toNat * Ty.size tProp + 0), strV x3.name, strV name_1, .sc (.bool (x3.name == name_1)), .ref 0 0 1, Ty.sl tProp n_0.props, (vI v1), .fp (List.flatMap (Ty.cells tProp) n_0.props) (v1.toNat * Ty.size tProp), .fp (List.flatMap (Ty.cells tProp) n_0.props) (v1.toNat * Ty.size tProp + 1), strV x6.value] [.box 25 (cNode n_0)] (by kernel_rfl) ?_
        refine JK_sq ?_
        refine J_ret ?_
        refine JK_bl_ret ?_
        refine JK_sq_ret ?_
        refine JK_nil ?_
        obtain rfl := Option.some.inj h
        exact turn_ret (tm' := [.bad, .bad, .bad, .bad, strV x6.value, (vB true), .bad, .bad, .bad, .bad, .bad, .bad, .bad, .bad, .bad, .bad, .bad, .bad, .bad, .bad, .bad, .bad, .bad, .bad, .bad, .bad, .bad, .bad]) (st' := [.box 25 (cNode n_0)]) () (kill_go (mid := [.bad, .bad, .bad, .bad, strV x6.value, (vB true), .bad, .bad, .bad, .bad, .bad, .bad, .bad, .bad, .bad, .bad, .bad, .bad, .bad, .bad, .bad, .bad, .bad, .bad, .bad, .bad, .bad, .bad]) (by kernel_rfl) (mB (mB (mB (mB (mC (by kernel_rfl) (mC (by kernel_rfl) (mB (mB (mB (mB (mB (mB (mB (mB (mB (mB (mB (mB (mB (mB (mB (mB (mB (mB (mB (mB (mB (mB mN))))))))))))))))))))))))))))) (cut_go (mid := [.box 25 (cNode n_0)]) (by kernel_rfl) (oC (oB (lC (by kernel_rfl) (lC (sl_scrub tProp _ _) (lC (sl_scrub tNode _ _) lN)))) oN)) (by kernel_rfl)
      · rw [if_neg (ne_true h5)] at h
        refine J_condF (v := (x3.name == name_1)) (by kernel_rfl) h5 ?_
        refine J_skip ?_
        refine JK_bl ?_
        refine JK_sq ?_
        refine J_region ?_
        refine JS_end [.bad, strV name_1, .ref 0 0 0, .bad, .bad, .bad, .sc (.int .i64 (IntKind.wrap .i64 (v1 + 1))), (vI v1), .ref 0 0 1, Ty.sl tProp n_0.props, .sc (.int .i64 (n_0.props.length : Int)), .sc (.bool (decide (v1 < (n_0.props.length : Int)))), (vI v1), .sc (.int .i64 (IntKind.wrap .i64 (v1 + 1))), .ref 0 0 1, Ty.sl tProp n_0.props, (vI v1), .fp (List.flatMap (Ty.cells tProp) n_0.props) (v1.toNat * Ty.size tProp), .fp (List.flatMap (Ty.cells tProp) n_0.props) (v1.toNat * Ty.size tProp + 0), strV x3.name, strV name_1, .sc (.bool (x3.name == name_1)), .bad, .bad, .bad, .bad, .bad, .bad] [.box 25 (cNode n_0)] (by kernel_rfl) ?_
        refine JK_nil ?_
        obtain rfl := Option.some.inj h
        exact turn_next () (kill_go (mid := [.bad, strV name_1, .ref 0 0 0, .bad, .bad, .bad, .sc (.int .i64 (IntKind.wrap .i64 (v1 + 1))), .bad, .bad, .bad, .bad, .bad, .bad, .bad, .bad, .bad, .bad, .bad, .bad, .bad, .bad, .bad, .bad, .bad, .bad, .bad, .bad, .bad]) (by kernel_rfl) (mB (mC (by kernel_rfl) (mC (by kernel_rfl) (mB (mB (mB (mC (by kernel_rfl) (mB (mB (mB (mB (mB (mB (mB (mB (mB (mB (mB (mB (mB (mB (mB (mB (mB (mB (mB (mB (mB mN))))))))))))))))))))))))))))) (cut_go (mid := [.box 25 (cNode n_0)]) (by kernel_rfl) (oC (oB (lC (by kernel_rfl) (lC (sl_scrub tProp _ _) (lC (sl_scrub tNode _ _) lN)))) oN))
    · rw [if_neg (ne_true h2)] at h
      refine J_condF (v := (decide (v1 < (n_0.props.length : Int)))) (by kernel_rfl) h2 ?_
      refine J_exit ?_
      refine JK_sq_exit ?_
      refine JK_nil ?_
      obtain rfl := Option.some.inj h
      exact turn_exit (tm' := [.bad, .bad, .bad, .bad, .bad, .bad, .bad, .bad, .bad, .bad, .bad, .bad, .bad, .bad, .bad, .bad, .bad, .bad, .bad, .bad, .bad, .bad, .bad, .bad, .bad, .bad, .bad, .bad]) (st' := [.box 25 (cNode n_0)]) () (kill_go (mid := [.bad, .bad, .bad, .bad, .bad, .bad, .bad, .bad, .bad, .bad, .bad, .bad, .bad, .bad, .bad, .bad, .bad, .bad, .bad, .bad, .bad, .bad, .bad, .bad, .bad, .bad, .bad, .bad]) (by kernel_rfl) (mB (mB (mB (mB (mB (mB (mB (mB (mB (mB (mB (mB (mB (mB (mB (mB (mB (mB (mB (mB (mB (mB (mB (mB (mB (mB (mB (mB mN))))))))))))))))))))))))))))) (cut_go (mid := [.box 25 (cNode n_0)]) (by kernel_rfl) (oC (oB (lC (by kernel_rfl) (lC (sl_scrub tProp _ _) (lC (sl_scrub tNode _ _) lN)))) oN)) (by kernel_rfl)
  · intro g_
    rcases r8 with r10 | r11
    · dsimp only at h
      refine (show JK _ _ _ _ (.exit 0, [.bad, .bad, .bad, .bad, .bad, .bad, .bad, .bad, .bad, .bad, .bad, .bad, .bad, .bad, .bad, .bad, .bad, .bad, .bad, .bad, .bad, .bad, .bad, .bad, .bad, .bad, .bad, .bad], [.box 25 (cNode n_0)]) from ?_)
      refine JK_bl_hit ?_
      refine JK_sq ?_
      refine J_seq ?_
      refine J_region ?_
      refine JS_end [.bad, .bad, .bad, .bad, strV [], (vB false), .bad, .bad, .bad, .bad, .bad, .bad, .bad, .bad, .bad, .bad, .bad, .bad, .bad, .bad, .bad, .bad, .bad, .bad, .bad, .bad, .bad, .bad] [.box 25 (cNode n_0)] (by kernel_rfl) ?_
      refine JK_sq ?_
      refine J_ret ?_
      refine JK_nil ?_
      obtain rfl := Option.some.inj h
      exact ret_A (r := .tup [strV [], (vB false)]) (r' := .tup [strV [], (vB false)]) (.inl rfl) (by kernel_rfl) (fTup (fC (by kernel_rfl) (fC (by kernel_rfl) fN))) (pTup (pC rfl (pC rfl pN))) ⟨by kernel_rfl, rfl⟩
    · dsimp only at h
      refine (show JK _ _ _ _ (.ret, [.bad, .bad, .bad, .bad, strV r11, (vB true), .bad, .bad, .bad, .bad, .bad, .bad, .bad, .bad, .bad, .bad, .bad, .bad, .bad, .bad, .bad, .bad, .bad, .bad, .bad, .bad, .bad, .bad], [.box 25 (cNode n_0)]) from ?_)
      refine JK_bl_ret ?_
      refine JK_sq_ret ?_
      refine JK_nil ?_
      obtain rfl := Option.some.inj h
      exact ret_A (r := .tup [strV r11, (vB true)]) (r' := .tup [strV r11, (vB true)]) (.inl rfl) (by kernel_rfl) (fTup (fC (by kernel_rfl) (fC (by kernel_rfl) fN))) (pTup (pC rfl (pC rfl pN))) ⟨by kernel_rfl, rfl⟩

theorem stringslite_HasSuffix_C (s_0 : Str) (suffix_1 : Str) (r : Bool) (st : Store) (h : stringslite_HasSuffix s_0 suffix_1 = some r) : fcall E0 138 [strV s_0, strV suffix_1] st = some ((vB r), st) := by
  unfold stringslite_HasSuffix at h
  refine fn_alone (fn := Tryd.f138) (av' := [strV s_0, strV suffix_1, .bad, .bad, .bad, .bad, .bad, .bad, .bad, .bad, .bad, .bad, .bad, .bad, .bad, .bad, .bad, .bad, .bad, .bad, .bad]) rfl fn_138 rfl (pC rfl (pC rfl pN)) rfl rfl rfl (has_go (as1 := [strV s_0, strV suffix_1]) (lC (by kernel_rfl) (lC (by kernel_rfl) lN)) (by kernel_rfl)) ?_
  refine J_seq ?_
  refine J_region ?_
  refine JS_end [strV s_0, strV suffix_1, .bad, .bad, (vB false), .bad, .bad, .bad, .bad, .bad, .bad, .bad, .bad, .bad, .bad, .bad, .bad, .bad, .bad, .bad, .bad] [] (by kernel_rfl) ?_
  refine JK_sq ?_
  refine J_seq ?_
  refine J_region ?_
  refine JS_seg 6 [strV s_0, strV suffix_1, .bad, .bad, (vB false), strV s_0, .sc (.int .i64 (s_0.length : Int)), strV suffix_1, .sc (.int .i64 (suffix_1.length : Int)), .sc (.bool (decide ((s_0.length : Int) ≥ (suffix_1.length : Int)))), .sc (.bool (decide ((s_0.length : Int) ≥ (suffix_1.length : Int)))), .bad, .bad, .bad, .bad, .bad, .bad, .bad, .bad, .bad, .bad] [] (by kernel_rfl) ?_
  rcases bool_cases (decide ((s_0.length : Int) ≥ (suffix_1.length : Int))) with h1 | h1
  · rw [if_pos h1] at h
    refine JS_cast (tm' := [strV s_0, strV suffix_1, .bad, .bad, (vB false), strV s_0, .sc (.int .i64 (s_0.length : Int)), strV suffix_1, .sc (.int .i64 (suffix_1.length : Int)), (vB true), (vB true), .bad, .bad, .bad, .bad, .bad, .bad, .bad, .bad, .bad, .bad]) (by rw [h1]) rfl ?_
    refine JS_seg 12 [strV s_0, strV suffix_1, .bad, .bad, (vB false), strV s_0, .sc (.int .i64 (s_0.length : Int)), strV suffix_1, .sc (.int .i64 (suffix_1.length : Int)), (vB true), (vB true), strV s_0, strV s_0, .sc (.int .i64 (s_0.length : Int)), strV suffix_1, .sc (.int .i64 (suffix_1.length : Int)), .sc (.int .i64 (IntKind.wrap .i64 ((s_0.length : Int) - (suffix_1.length : Int)))), .bad, .bad, .bad, .bad] [] (by kernel_rfl) ?_
    obtain ⟨s2, h3, h⟩ := Option.bind_eq_some_iff.1 h
    refine JS_val (fun s => aslice E0.tb s 9 (strV s_0) (some (.sc (.int .i64 (IntKind.wrap .i64 ((s_0.length : Int) - (suffix_1.length : Int)))))) none) (by kernel_rfl) (str_sub tb_9 rfl loV_some hiV_none h3) ?_
    refine JS_seg 14 [strV s_0, strV suffix_1, .bad, .bad, (vB false), strV s_0, .sc (.int .i64 (s_0.length : Int)), strV suffix_1, .sc (.int .i64 (suffix_1.length : Int)), (vB true), (vB true), strV s_0, strV s_0, .sc (.int .i64 (s_0.length : Int)), strV suffix_1, .sc (.int .i64 (suffix_1.length : Int)), .sc (.int .i64 (IntKind.wrap .i64 ((s_0.length : Int) - (suffix_1.length : Int)))), strV s2, strV suffix_1, .bad, .bad] [] (by kernel_rfl) ?_
    refine JS_val (fun s => abin E0.tb s .eql 9 (strV s2) (strV suffix_1)) (by kernel_rfl) (str_eq s2 suffix_1) ?_
    refine JS_end [strV s_0, strV suffix_1, .bad, .bad, .sc (.bool (s2 == suffix_1)), strV s_0, .sc (.int .i64 (s_0.length : Int)), strV suffix_1, .sc (.int .i64 (suffix_1.length : Int)), (vB true), (vB true), strV s_0, strV s_0, .sc (.int .i64 (s_0.length : Int)), strV suffix_1, .sc (.int .i64 (suffix_1.length : Int)), .sc (.int .i64 (IntKind.wrap .i64 ((s_0.length : Int) - (suffix_1.length : Int)))), strV s2, strV suffix_1, .sc (.bool (s2 == suffix_1)), .sc (.bool (s2 == suffix_1))] [] (by kernel_rfl) ?_
    refine JK_sq ?_
    refine J_ret ?_
    refine JK_nil ?_
    obtain rfl := Option.some.inj h
    exact ret_A (r := .sc (.bool (s2 == suffix_1))) (r' := .sc (.bool (s2 == suffix_1))) (.inl rfl) (by kernel_rfl) (by kernel_rfl) rfl ⟨by kernel_rfl, rfl⟩
  · rw [if_neg (ne_true h1)] at h
    refine JS_cast (tm' := [strV s_0, strV suffix_1, .bad, .bad, (vB false), strV s_0, .sc (.int .i64 (s_0.length : Int)), strV suffix_1, .sc (.int .i64 (suffix_1.length : Int)), (vB false), (vB false), .bad, .bad, .bad, .bad, .bad, .bad, .bad, .bad, .bad, .bad]) (by rw [h1]) rfl ?_
    refine JS_end [strV s_0, strV suffix_1, .bad, .bad, (vB false), strV s_0, .sc (.int .i64 (s_0.length : Int)), strV suffix_1, .sc (.int .i64 (suffix_1.length : Int)), (vB false), (vB false), .tup [], .tup [], .tup [], .tup [], .tup [], .tup [], .tup [], .tup [], .tup [], (vB false)] [] (by kernel_rfl) ?_
    refine JK_sq ?_
    refine J_ret ?_
    refine JK_nil ?_
    obtain rfl := Option.some.inj h
    exact ret_A (r := (vB false)) (r' := (vB false)) (.inl rfl) (by kernel_rfl) (by kernel_rfl) rfl ⟨by kernel_rfl, rfl⟩

theorem stringslite_CutSuffix_C (s_0 : Str) (suffix_1 : Str) (r : Str × Bool) (st : Store) (h : stringslite_CutSuffix s_0 suffix_1 = some r) : fcall E0 123 [strV s_0, strV suffix_1] st = some (.tup [strV r.1, .sc (.bool r.2)], st) := by
  unfold stringslite_CutSuffix at h
  refine fn_alone (fn := Tryd.f123) (av' := [strV s_0, strV suffix_1, .bad, .bad, .bad, .bad, .bad, .bad, .bad, .bad, .bad, .bad, .bad, .bad, .bad, .bad, .bad, .bad]) rfl fn_123 rfl (pC rfl (pC rfl pN)) rfl rfl rfl (has_go (as1 := [strV s_0, strV suffix_1]) (lC (by kernel_rfl) (lC (by kernel_rfl) lN)) (by kernel_rfl)) ?_
  refine J_seq ?_
  refine J_region ?_
  refine JS_end [strV s_0, strV suffix_1, .bad, .bad, strV [], (vB false), .bad, .bad, .bad, .bad, .bad, .bad, .bad, .bad, .bad, .bad, .bad, .bad] [] (by kernel_rfl) ?_
  refine JK_sq ?_
  refine J_seq ?_
  refine J_seq ?_
  refine J_region ?_
  refine JS_seg 2 [strV s_0, strV suffix_1, .bad, .bad, strV [], (vB false), strV s_0, strV suffix_1, .bad, .bad, .bad, .bad, .bad, .bad, .bad, .bad, .bad, .bad] [] (by kernel_rfl) ?_
  obtain ⟨r1, h2, h⟩ := Option.bind_eq_some_iff.1 h
  refine JS_upd (fun s => fcall E0 138 [strV s_0, strV suffix_1] s) (by kernel_rfl) (stringslite_HasSuffix_C s_0 suffix_1 _ _ h2) ?_
  refine JS_end [strV s_0, strV suffix_1, .bad, .bad, strV [], (vB false), strV s_0, strV suffix_1, (vB r1), .sc (.bool (!r1)), .bad, .bad, .bad, .bad, .bad, .bad, .bad, .bad] [] (by kernel_rfl) ?_
  refine JK_sq ?_
  rcases bool_cases (!r1) with h3 | h3
  · rw [if_pos h3] at h
    refine J_condT (v := (!r1)) (by kernel_rfl) h3 ?_
    refine J_seq ?_
    refine J_region ?_
    refine JS_end [strV s_0, strV suffix_1, .bad, .bad, strV s_0, (vB false), strV s_0, strV suffix_1, (vB r1), .sc (.bool (!r1)), strV s_0, .bad, .bad, .bad, .bad, .bad, .bad, .bad] [] (by kernel_rfl) ?_
    refine JK_sq ?_
    refine J_ret ?_
    refine JK_sq_ret ?_
    refine JK_nil ?_
    obtain rfl := Option.some.inj h
    exact ret_A (r := .tup [strV s_0, (vB false)]) (r' := .tup [strV s_0, (vB false)]) (.inl rfl) (by kernel_rfl) (fTup (fC (by kernel_rfl) (fC (by kernel_rfl) fN))) (pTup (pC rfl (pC rfl pN))) ⟨by kernel_rfl, rfl⟩
  · rw [if_neg (ne_true h3)] at h
    refine J_condF (v := (!r1)) (by kernel_rfl) h3 ?_
    refine J_skip ?_
    refine JK_sq ?_
    refine J_seq ?_
    refine J_region ?_
    refine JS_seg 6 [strV s_0, strV suffix_1, .bad, .bad, strV [], (vB false), strV s_0, strV suffix_1, (vB r1), .sc (.bool (!r1)), .bad, strV s_0, strV s_0, .sc (.int .i64 (s_0.length : Int)), strV suffix_1, .sc (.int .i64 (suffix_1.length : Int)), .sc (.int .i64 (IntKind.wrap .i64 ((s_0.length : Int) - (suffix_1.length : Int)))), .bad] [] (by kernel_rfl) ?_
    obtain ⟨s4, h5, h⟩ := Option.bind_eq_some_iff.1 h
    refine JS_val (fun s => aslice E0.tb s 9 (strV s_0) none (some (.sc (.int .i64 (IntKind.wrap .i64 ((s_0.length : Int) - (suffix_1.length : Int))))))) (by kernel_rfl) (str_sub tb_9 rfl loV_none hiV_some h5) ?_
    refine JS_end [strV s_0, strV suffix_1, .bad, .bad, strV s4, (vB true), strV s_0, strV suffix_1, (vB r1), .sc (.bool (!r1)), .bad, strV s_0, strV s_0, .sc (.int .i64 (s_0.length : Int)), strV suffix_1, .sc (.int .i64 (suffix_1.length : Int)), .sc (.int .i64 (IntKind.wrap .i64 ((s_0.length : Int) - (suffix_1.length : Int)))), strV s4] [] (by kernel_rfl) ?_
    refine JK_sq ?_
    refine J_ret ?_
    refine JK_nil ?_
    obtain rfl := Option.some.inj h
    exact ret_A (r := .tup [strV s4, (vB true)]) (r' := .tup [strV s4, (vB true)]) (.inl rfl) (by kernel_rfl) (fTup (fC (by kernel_rfl) (fC (by kernel_rfl) fN))) (pTup (pC rfl (pC rfl pN))) ⟨by kernel_rfl, rfl⟩

theorem strings_CutSuffix_C (s_0 : Str) (suffix_1 : Str) (r : Str × Bool) (st : Store) (h : strings_CutSuffix s_0 suffix_1 = some r) : fcall E0 104 [strV s_0, strV suffix_1] st = some (.tup [strV r.1, .sc (.bool r.2)], st) := by
  unfold strings_CutSuffix at h
  refine fn_alone (fn := Tryd.f104) (av' := [strV s_0, strV suffix_1, .bad, .bad, .bad, .bad, .bad, .bad, .bad, .bad, .bad]) rfl fn_104 rfl (pC rfl (pC rfl pN)) rfl rfl rfl (has_go (as1 := [strV s_0, strV suffix_1]) (lC (by kernel_rfl) (lC (by kernel_rfl) lN)) (by kernel_rfl)) ?_
  refine J_seq ?_
  refine J_region ?_
  refine JS_end [strV s_0, strV suffix_1, .bad, .bad, strV [], (vB false), .bad, .bad, .bad, .bad, .bad] [] (by kernel_rfl) ?_
  refine JK_sq ?_
  refine J_seq ?_
  refine J_region ?_
  refine JS_seg 2 [strV s_0, strV suffix_1, .bad, .bad, strV [], (vB false), strV s_0, strV suffix_1, .bad, .bad, .bad] [] (by kernel_rfl) ?_
  obtain ⟨r1, h2, h⟩ := Option.bind_eq_some_iff.1 h
  refine JS_upd (fun s => fcall E0 123 [strV s_0, strV suffix_1] s) (by kernel_rfl) (stringslite_CutSuffix_C s_0 suffix_1 _ _ h2) ?_
  refine JS_end [strV s_0, strV suffix_1, .bad, .bad, strV r1.1, .sc (.bool r1.2), strV s_0, strV suffix_1, .tup [strV r1.1, .sc (.bool r1.2)], strV r1.1, .sc (.bool r1.2)] [] (by kernel_rfl) ?_
  refine JK_sq ?_
  refine J_ret ?_
  refine JK_nil ?_
  obtain rfl := Option.some.inj h
  exact ret_A (r := .tup [strV r1.1, .sc (.bool r1.2)]) (r' := .tup [strV r1.1, .sc (.bool r1.2)]) (.inl rfl) (by kernel_rfl) (fTup (fC (by kernel_rfl) (fC (by kernel_rfl) fN))) (pTup (pC rfl (pC rfl pN))) ⟨by kernel_rfl, rfl⟩

theorem value_AsTexts_C (v_0 : Str) (r : (List Str) × Bool) (st : Store) (h : value_AsTexts v_0 = some r) : fcall E0 67 [strV v_0] st = some (.tup [Ty.sl tS r.1, .sc (.bool r.2)], st) := by
  unfold value_AsTexts at h
  refine fn_alone (fn := Tryd.f67) (av' := [strV v_0, .bad, .bad, .bad, .bad, .bad, .bad, .bad, .bad, .bad, .bad, .bad, .bad, .bad, .bad]) rfl fn_67 rfl (pC rfl pN) rfl rfl rfl (has_go (as1 := [strV v_0]) (lC (by kernel_rfl) lN) (by kernel_rfl)) ?_
  refine J_seq ?_
  refine J_region ?_
  refine JS_end [strV v_0, .bad, .sc (.slice none 0 0), (vB false), .bad, .bad, .bad, .bad, .bad, .bad, .bad, .bad, .bad, .bad, .bad] [] (by kernel_rfl) ?_
  refine JK_sq ?_
  refine J_seq ?_
  refine J_region ?_
  refine JS_seg 1 [strV v_0, .bad, .sc (.slice none 0 0), (vB false), .bad, .bad, .bad, strV v_0, .bad, .bad, .bad, .bad, .bad, .bad, .bad] [] (by kernel_rfl) ?_
  obtain ⟨r1, h2, h⟩ := Option.bind_eq_some_iff.1 h
  refine JS_upd (fun s => fcall E0 104 [strV v_0, strV [0]] s) (by kernel_rfl) (strings_CutSuffix_C v_0 [0] _ _ h2) ?_
  refine JS_end [strV v_0, .bad, .sc (.slice none 0 0), (vB false), strV r1.1, .sc (.bool r1.2), .tup [strV r1.1, .sc (.bool r1.2)], strV v_0, .tup [strV r1.1, .sc (.bool r1.2)], strV r1.1, .sc (.bool r1.2), .bad, .bad, .bad, .bad] [] (by kernel_rfl) ?_
  refine JK_sq ?_
  refine J_seq ?_
  refine J_seq ?_
  refine J_region ?_
  refine JS_end [strV v_0, .bad, .sc (.slice none 0 0), (vB false), strV r1.1, .sc (.bool r1.2), .tup [strV r1.1, .sc (.bool r1.2)], strV v_0, .tup [strV r1.1, .sc (.bool r1.2)], strV r1.1, .sc (.bool r1.2), .sc (.bool r1.2), .sc (.bool (!r1.2)), .bad, .bad] [] (by kernel_rfl) ?_
  refine JK_sq ?_
  rcases bool_cases (!r1.2) with h3 | h3
  · rw [if_pos h3] at h
    refine J_condT (v := (!r1.2)) (by kernel_rfl) h3 ?_
    refine J_seq ?_
    refine J_region ?_
    refine JS_end [strV v_0, .bad, .sc (.slice none 0 0), (vB false), strV r1.1, .sc (.bool r1.2), .tup [strV r1.1, .sc (.bool r1.2)], strV v_0, .tup [strV r1.1, .sc (.bool r1.2)], strV r1.1, .sc (.bool r1.2), .sc (.bool r1.2), .sc (.bool (!r1.2)), .bad, .bad] [] (by kernel_rfl) ?_
    refine JK_sq ?_
    refine J_ret ?_
    refine JK_sq_ret ?_
    refine JK_nil ?_
    obtain rfl := Option.some.inj h
    exact ret_A (r := .tup [.sc (.slice none 0 0), (vB false)]) (r' := .tup [Ty.sl tS [], (vB false)]) (.inl rfl) (by kernel_rfl) (fTup (fC (by kernel_rfl) (fC (by kernel_rfl) fN))) (pTup (pC (sl_pure tS _) (pC rfl pN))) ⟨by kernel_rfl, rfl⟩
  · rw [if_neg (ne_true h3)] at h
    refine J_condF (v := (!r1.2)) (by kernel_rfl) h3 ?_
    refine J_skip ?_
    refine JK_sq ?_
    refine J_seq ?_
    refine J_region ?_
    refine JS_seg 1 [strV v_0, .bad, .sc (.slice none 0 0), (vB false), strV r1.1, .sc (.bool r1.2), .tup [strV r1.1, .sc (.bool r1.2)], strV v_0, .tup [strV r1.1, .sc (.bool r1.2)], strV r1.1, .sc (.bool r1.2), .sc (.bool r1.2), .sc (.bool (!r1.2)), strV r1.1, .bad] [] (by kernel_rfl) ?_
    obtain ⟨r4, h5, h⟩ := Option.bind_eq_some_iff.1 h
    refine JS_upd (fun s => fcall E0 61 [strV r1.1, strV [0]] s) (by kernel_rfl) (strings_Split_C r1.1 [0] _ _ h5) ?_
    refine JS_end [strV v_0, .bad, Ty.sl tS r4, (vB true), strV r1.1, .sc (.bool r1.2), .tup [strV r1.1, .sc (.bool r1.2)], strV v_0, .tup [strV r1.1, .sc (.bool r1.2)], strV r1.1, .sc (.bool r1.2), .sc (.bool r1.2), .sc (.bool (!r1.2)), strV r1.1, Ty.sl tS r4] [] (by kernel_rfl) ?_
    refine JK_sq ?_
    refine J_ret ?_
    refine JK_nil ?_
    obtain rfl := Option.some.inj h
    exact ret_A (r := .tup [Ty.sl tS r4, (vB true)]) (r' := .tup [Ty.sl tS r4, (vB true)]) (.inl rfl) (by kernel_rfl) (fTup (fC (sl_frz tS _ _ _ _) (fC (by kernel_rfl) fN))) (pTup (pC (sl_pure tS _) (pC rfl pN))) ⟨by kernel_rfl, rfl⟩

theorem value_AsText_C (v_0 : Str) (r : Str × Bool) (st : Store) (h : value_AsText v_0 = some r) : fcall E0 55 [strV v_0] st = some (.tup [strV r.1, .sc (.bool r.2)], st) := by
  unfold value_AsText at h
  refine fn_alone (fn := Tryd.f55) (av' := [strV v_0, .bad, .bad, .bad, .bad, .bad, .bad, .bad, .bad, .bad, .bad, .bad, .bad, .bad, .bad, .bad, .bad, .bad, .bad, .bad, .bad]) rfl fn_55 rfl (pC rfl pN) rfl rfl rfl (has_go (as1 := [strV v_0]) (lC (by kernel_rfl) lN) (by kernel_rfl)) ?_
  refine J_seq ?_
  refine J_region ?_
  refine JS_end [strV v_0, .bad, strV [], (vB false), .bad, .bad, .bad, .bad, .bad, .bad, .bad, .bad, .bad, .bad, .bad, .bad, .bad, .bad, .bad, .bad, .bad] [] (by kernel_rfl) ?_
  refine JK_sq ?_
  refine J_seq ?_
  refine J_region ?_
  refine JS_seg 1 [strV v_0, .bad, strV [], (vB false), .bad, .bad, .bad, strV v_0, .bad, .bad, .bad, .bad, .bad, .bad, .bad, .bad, .bad, .bad, .bad, .bad, .bad] [] (by kernel_rfl) ?_
  obtain ⟨r1, h2, h⟩ := Option.bind_eq_some_iff.1 h
  refine JS_upd (fun s => fcall E0 67 [strV v_0] s) (by kernel_rfl) (value_AsTexts_C v_0 _ _ h2) ?_
  refine JS_end [strV v_0, .bad, strV [], (vB false), Ty.sl tS r1.1, .sc (.bool r1.2), .tup [Ty.sl tS r1.1, .sc (.bool r1.2)], strV v_0, .tup [Ty.sl tS r1.1, .sc (.bool r1.2)], Ty.sl tS r1.1, .sc (.bool r1.2), .bad, .bad, .bad, .bad, .bad, .bad, .bad, .bad, .bad, .bad] [] (by kernel_rfl) ?_
  refine JK_sq ?_
  refine J_seq ?_
  refine J_seq ?_
  refine J_region ?_
  refine JS_seg 3 [strV v_0, .bad, strV [], (vB false), Ty.sl tS r1.1, .sc (.bool r1.2), .tup [Ty.sl tS r1.1, .sc (.bool r1.2)], strV v_0, .tup [Ty.sl tS r1.1, .sc (.bool r1.2)], Ty.sl tS r1.1, .sc (.bool r1.2), .sc (.bool r1.2), .sc (.bool (!r1.2)), .sc (.bool (!r1.2)), .bad, .bad, .bad, .bad, .bad, .bad, .bad] [] (by kernel_rfl) ?_
  rcases bool_cases (!r1.2) with h3 | h3
  · rw [if_pos h3] at h
    refine JS_cast (tm' := [strV v_0, .bad, strV [], (vB false), Ty.sl tS r1.1, .sc (.bool r1.2), .tup [Ty.sl tS r1.1, .sc (.bool r1.2)], strV v_0, .tup [Ty.sl tS r1.1, .sc (.bool r1.2)], Ty.sl tS r1.1, .sc (.bool r1.2), .sc (.bool r1.2), (vB true), (vB true), .bad, .bad, .bad, .bad, .bad, .bad, .bad]) (by rw [h3]) rfl ?_
    refine JS_end [strV v_0, .bad, strV [], (vB false), Ty.sl tS r1.1, .sc (.bool r1.2), .tup [Ty.sl tS r1.1, .sc (.bool r1.2)], strV v_0, .tup [Ty.sl tS r1.1, .sc (.bool r1.2)], Ty.sl tS r1.1, .sc (.bool r1.2), .sc (.bool r1.2), (vB true), (vB true), .tup [], .tup [], .tup [], (vB true), .bad, .bad, .bad] [] (by kernel_rfl) ?_
    refine JK_sq ?_
    refine J_condT (v := true) (by kernel_rfl) rfl ?_
    refine J_seq ?_
    refine J_region ?_
    refine JS_end [strV v_0, .bad, strV [], (vB false), Ty.sl tS r1.1, .sc (.bool r1.2), .tup [Ty.sl tS r1.1, .sc (.bool r1.2)], strV v_0, .tup [Ty.sl tS r1.1, .sc (.bool r1.2)], Ty.sl tS r1.1, .sc (.bool r1.2), .sc (.bool r1.2), (vB true), (vB true), .tup [], .tup [], .tup [], (vB true), .bad, .bad, .bad] [] (by kernel_rfl) ?_
    refine JK_sq ?_
    refine J_ret ?_
    refine JK_sq_ret ?_
    refine JK_nil ?_
    obtain rfl := Option.some.inj h
    exact ret_A (r := .tup [strV [], (vB false)]) (r' := .tup [strV [], (vB false)]) (.inl rfl) (by kernel_rfl) (fTup (fC (by kernel_rfl) (fC (by kernel_rfl) fN))) (pTup (pC rfl (pC rfl pN))) ⟨by kernel_rfl, rfl⟩
  · rw [if_neg (ne_true h3)] at h
    refine JS_cast (tm' := [strV v_0, .bad, strV [], (vB false), Ty.sl tS r1.1, .sc (.bool r1.2), .tup [Ty.sl tS r1.1, .sc (.bool r1.2)], strV v_0, .tup [Ty.sl tS r1.1, .sc (.bool r1.2)], Ty.sl tS r1.1, .sc (.bool r1.2), .sc (.bool r1.2), (vB false), (vB false), .bad, .bad, .bad, .bad, .bad, .bad, .bad]) (by rw [h3]) rfl ?_
    refine JS_end [strV v_0, .bad, strV [], (vB false), Ty.sl tS r1.1, .sc (.bool r1.2), .tup [Ty.sl tS r1.1, .sc (.bool r1.2)], strV v_0, .tup [Ty.sl tS r1.1, .sc (.bool r1.2)], Ty.sl tS r1.1, .sc (.bool r1.2), .sc (.bool r1.2), (vB false), (vB false), Ty.sl tS r1.1, .sc (.int .i64 (r1.1.length : Int)), .sc (.bool ((r1.1.length : Int) != 1)), .sc (.bool ((r1.1.length : Int) != 1)), .bad, .bad, .bad] [] (by kernel_rfl) ?_
    refine JK_sq ?_
    rcases bool_cases ((r1.1.length : Int) != 1) with h4 | h4
    · rw [if_pos h4] at h
      refine J_condT (v := ((r1.1.length : Int) != 1)) (by kernel_rfl) h4 ?_
      refine J_seq ?_
      refine J_region ?_
      refine JS_end [strV v_0, .bad, strV [], (vB false), Ty.sl tS r1.1, .sc (.bool r1.2), .tup [Ty.sl tS r1.1, .sc (.bool r1.2)], strV v_0, .tup [Ty.sl tS r1.1, .sc (.bool r1.2)], Ty.sl tS r1.1, .sc (.bool r1.2), .sc (.bool r1.2), (vB false), (vB false), Ty.sl tS r1.1, .sc (.int .i64 (r1.1.length : Int)), .sc (.bool ((r1.1.length : Int) != 1)), .sc (.bool ((r1.1.length : Int) != 1)), .bad, .bad, .bad] [] (by kernel_rfl) ?_
      refine JK_sq ?_
      refine J_ret ?_
      refine JK_sq_ret ?_
      refine JK_nil ?_
      obtain rfl := Option.some.inj h
      exact ret_A (r := .tup [strV [], (vB false)]) (r' := .tup [strV [], (vB false)]) (.inl rfl) (by kernel_rfl) (fTup (fC (by kernel_rfl) (fC (by kernel_rfl) fN))) (pTup (pC rfl (pC rfl pN))) ⟨by kernel_rfl, rfl⟩
    · rw [if_neg (ne_true h4)] at h
      refine J_condF (v := ((r1.1.length : Int) != 1)) (by kernel_rfl) h4 ?_
      refine J_skip ?_
      refine JK_sq ?_
      refine J_seq ?_
      refine J_region ?_
      refine JS_seg 1 [strV v_0, .bad, strV [], (vB false), Ty.sl tS r1.1, .sc (.bool r1.2), .tup [Ty.sl tS r1.1, .sc (.bool r1.2)], strV v_0, .tup [Ty.sl tS r1.1, .sc (.bool r1.2)], Ty.sl tS r1.1, .sc (.bool r1.2), .sc (.bool r1.2), (vB false), (vB false), Ty.sl tS r1.1, .sc (.int .i64 (r1.1.length : Int)), .sc (.bool ((r1.1.length : Int) != 1)), .sc (.bool ((r1.1.length : Int) != 1)), Ty.sl tS r1.1, .bad, .bad] [] (by kernel_rfl) ?_
      obtain ⟨x5, h6, h⟩ := Option.bind_eq_some_iff.1 h
      refine JS_val (fun s => aindexAddr E0.tb s 37 (Ty.sl tS r1.1) ((vI 0))) (by kernel_rfl) (sl_addr tS tb_37 rfl tb_9 rfl h6) ?_
      refine JS_seg 2 [strV v_0, .bad, strV [], (vB false), Ty.sl tS r1.1, .sc (.bool r1.2), .tup [Ty.sl tS r1.1, .sc (.bool r1.2)], strV v_0, .tup [Ty.sl tS r1.1, .sc (.bool r1.2)], Ty.sl tS r1.1, .sc (.bool r1.2), .sc (.bool r1.2), (vB false), (vB false), Ty.sl tS r1.1, .sc (.int .i64 (r1.1.length : Int)), .sc (.bool ((r1.1.length : Int) != 1)), .sc (.bool ((r1.1.length : Int) != 1)), Ty.sl tS r1.1, .fp (List.flatMap (Ty.cells tS) r1.1) ((0 : Int).toNat * Ty.size tS), .bad] [] (by kernel_rfl) ?_
      refine JS_val (fun s => aload E0.tb s 9 (.fp (List.flatMap (Ty.cells tS) r1.1) ((0 : Int).toNat * Ty.size tS))) (by kernel_rfl) (fp_load1 tS (o := 0) tb_9 rfl h6 (rfl)) ?_
      refine JS_end [strV v_0, .bad, strV x5, (vB true), Ty.sl tS r1.1, .sc (.bool r1.2), .tup [Ty.sl tS r1.1, .sc (.bool r1.2)], strV v_0, .tup [Ty.sl tS r1.1, .sc (.bool r1.2)], Ty.sl tS r1.1, .sc (.bool r1.2), .sc (.bool r1.2), (vB false), (vB false), Ty.sl tS r1.1, .sc (.int .i64 (r1.1.length : Int)), .sc (.bool ((r1.1.length : Int) != 1)), .sc (.bool ((r1.1.length : Int) != 1)), Ty.sl tS r1.1, .fp (List.flatMap (Ty.cells tS) r1.1) ((0 : Int).toNat * Ty.size tS), strV x5] [] (by kernel_rfl) ?_
      refine JK_sq ?_
      refine J_ret ?_
      refine JK_nil ?_
      obtain rfl := Option.some.inj h
      exact ret_A (r := .tup [strV x5, (vB true)]) (r' := .tup [strV x5, (vB true)]) (.inl rfl) (by kernel_rfl) (fTup (fC (by kernel_rfl) (fC (by kernel_rfl) fN))) (pTup (pC rfl (pC rfl pN))) ⟨by kernel_rfl, rfl⟩

theorem path_Text_C (n_0 : GNode) (path_1 : Str) (name_2 : Str) (r : Str × Bool) (st : Store) (h : path_Text n_0 path_1 name_2 = some r) : fcall E0 18 [.agg (cNode n_0), strV path_1, strV name_2] st = some (.tup [strV r.1, .sc (.bool r.2)], st) := by
  unfold path_Text at h
  refine fn_alone (fn := Tryd.f18) (av' := [.agg (cNode n_0), strV path_1, strV name_2, .bad, .bad, .bad, .bad, .bad, .bad, .bad, .bad, .bad, .bad, .bad, .bad, .bad, .bad, .bad, .bad, .bad, .bad, .bad, .bad, .bad, .bad, .bad, .bad, .bad]) rfl fn_18 rfl (pC (pAgg (pC rfl (pC (sl_pure tProp _) (pC (sl_pure tNode _) pN)))) (pC rfl (pC rfl pN))) rfl rfl rfl (has_go (as1 := [.agg (cNode n_0), strV path_1, strV name_2]) (lC (sAgg (lC (by kernel_rfl) (lC (sl_scrub tProp _ _) (lC (sl_scrub tNode _ _) lN)))) (lC (by kernel_rfl) (lC (by kernel_rfl) lN))) (by kernel_rfl)) ?_
  refine J_seq ?_
  refine J_region ?_
  refine JS_end [.agg (cNode n_0), strV path_1, strV name_2, .ref 0 0 0, .bad, .bad, strV [], (vB false), .bad, .bad, .bad, .bad, .bad, .bad, .bad, .bad, .bad, .bad, .bad, .bad, .bad, .bad, .bad, .bad, .bad, .bad, .bad, .bad] [.box 25 (cNode n_0)] (by kernel_rfl) ?_
  refine JK_sq ?_
  refine J_seq ?_
  refine J_region ?_
  refine JS_seg 2 [.agg (cNode n_0), strV path_1, strV name_2, .ref 0 0 0, .bad, .bad, strV [], (vB false), .bad, .bad, .bad, .bad, .bad, .agg (cNode n_0), strV path_1, .bad, .bad, .bad, .bad, .bad, .bad, .bad, .bad, .bad, .bad, .bad, .bad, .bad] [.box 25 (cNode n_0)] (by kernel_rfl) ?_
  obtain ⟨r1, h2, h⟩ := Option.bind_eq_some_iff.1 h
  refine JS_upd (fun s => fcall E0 11 [.agg (cNode n_0), strV path_1] s) (by kernel_rfl) (path_Find_C n_0 path_1 _ _ h2) ?_
  refine JS_end [.agg (cNode n_0), strV path_1, strV name_2, .ref 0 0 0, .bad, .bad, strV [], (vB false), .ref 1 0 0, .sc (.bool r1.2), .bad, .bad, .tup [.agg (cNode r1.1), .sc (.bool r1.2)], .agg (cNode n_0), strV path_1, .tup [.agg (cNode r1.1), .sc (.bool r1.2)], .agg (cNode r1.1), .sc (.bool r1.2), .bad, .bad, .bad, .bad, .bad, .bad, .bad, .bad, .bad, .bad] [.box 25 (cNode n_0), .box 25 (cNode r1.1)] (by kernel_rfl) ?_
  refine JK_sq ?_
  refine J_seq ?_
  refine J_region ?_
  refine JS_seg 2 [.agg (cNode n_0), strV path_1, strV name_2, .ref 0 0 0, .bad, .bad, strV [], (vB false), .ref 1 0 0, .sc (.bool r1.2), .bad, .bad, .tup [.agg (cNode r1.1), .sc (.bool r1.2)], .agg (cNode n_0), strV path_1, .tup [.agg (cNode r1.1), .sc (.bool r1.2)], .agg (cNode r1.1), .sc (.bool r1.2), .bad, .agg (cNode r1.1), strV name_2, .bad, .bad, .bad, .bad, .bad, .bad, .bad] [.box 25 (cNode n_0), .box 25 (cNode r1.1)] (by kernel_rfl) ?_
  obtain ⟨r3, h4, h⟩ := Option.bind_eq_some_iff.1 h
  refine JS_upd (fun s => fcall E0 16 [.agg (cNode r1.1), strV name_2] s) (by kernel_rfl) (path_Value_C r1.1 name_2 _ _ h4) ?_
  refine JS_end [.agg (cNode n_0), strV path_1, strV name_2, .ref 0 0 0, .bad, .bad, strV [], (vB false), .ref 1 0 0, .sc (.bool r1.2), strV r3.1, .sc (.bool r3.2), .tup [.agg (cNode r1.1), .sc (.bool r1.2)], .agg (cNode n_0), strV path_1, .tup [.agg (cNode r1.1), .sc (.bool r1.2)], .agg (cNode r1.1), .sc (.bool r1.2), .tup [strV r3.1, .sc (.bool r3.2)], .agg (cNode r1.1), strV name_2, .tup [strV r3.1, .sc (.bool r3.2)], strV r3.1, .sc (.bool r3.2), .bad, .bad, .bad, .bad] [.box 25 (cNode n_0), .box 25 (cNode r1.1)] (by kernel_rfl) ?_
  refine JK_sq ?_
  refine J_seq ?_
  refine J_region ?_
  refine JS_seg 1 [.agg (cNode n_0), strV path_1, strV name_2, .ref 0 0 0, .bad, .bad, strV [], (vB false), .ref 1 0 0, .sc (.bool r1.2), strV r3.1, .sc (.bool r3.2), .tup [.agg (cNode r1.1), .sc (.bool r1.2)], .agg (cNode n_0), strV path_1, .tup [.agg (cNode r1.1), .sc (.bool r1.2)], .agg (cNode r1.1), .sc (.bool r1.2), .tup [strV r3.1, .sc (.bool r3.2)], .agg (cNode r1.1), strV name_2, .tup [strV r3.1, .sc (.bool r3.2)], strV r3.1, .sc (.bool r3.2), strV r3.1, .bad, .bad, .bad] [.box 25 (cNode n_0), .box 25 (cNode r1.1)] (by kernel_rfl) ?_
  obtain ⟨r5, h6, h⟩ := Option.bind_eq_some_iff.1 h
  refine JS_upd (fun s => fcall E0 55 [strV r3.1] s) (by kernel_rfl) (value_AsText_C r3.1 _ _ h6) ?_
  refine JS_end [.agg (cNode n_0), strV path_1, strV name_2, .ref 0 0 0, .bad, .bad, strV r5.1, .sc (.bool r5.2), .ref 1 0 0, .sc (.bool r1.2), strV r3.1, .sc (.bool r3.2), .tup [.agg (cNode r1.1), .sc (.bool r1.2)], .agg (cNode n_0), strV path_1, .tup [.agg (cNode r1.1), .sc (.bool r1.2)], .agg (cNode r1.1), .sc (.bool r1.2), .tup [strV r3.1, .sc (.bool r3.2)], .agg (cNode r1.1), strV name_2, .tup [strV r3.1, .sc (.bool r3.2)], strV r3.1, .sc (.bool r3.2), strV r3.1, .tup [strV r5.1, .sc (.bool r5.2)], strV r5.1, .sc (.bool r5.2)] [.box 25 (cNode n_0), .box 25 (cNode r1.1)] (by kernel_rfl) ?_
  refine JK_sq ?_
  refine J_ret ?_
  refine JK_nil ?_
  obtain rfl := Option.some.inj h
  exact ret_A (r := .tup [strV r5.1, .sc (.bool r5.2)]) (r' := .tup [strV r5.1, .sc (.bool r5.2)]) (.inl rfl) (by kernel_rfl) (fTup (fC (by kernel_rfl) (fC (by kernel_rfl) fN))) (pTup (pC rfl (pC rfl pN))) ⟨by kernel_rfl, rfl⟩

theorem ref16_at_C (n_0 : GNode) (path_1 : Str) (name_2 : Str) (r : Str × Bool) (st : Store) (h : ref16_at n_0 path_1 name_2 = some r) : fcall E0 56 [.agg (cNode n_0), strV path_1, strV name_2] st = some (.tup [strV r.1, .sc (.bool r.2)], st) := by
  unfold ref16_at at h
  refine fn_alone (fn := Tryd.f56) (av' := [.agg (cNode n_0), strV path_1, strV name_2, .bad, .bad, .bad, .bad, .bad, .bad, .bad, .bad, .bad, .bad, .bad, .bad, .bad, .bad, .bad, .bad, .bad, .bad, .bad, .bad]) rfl fn_56 rfl (pC (pAgg (pC rfl (pC (sl_pure tProp _) (pC (sl_pure tNode _) pN)))) (pC rfl (pC rfl pN))) rfl rfl rfl (has_go (as1 := [.agg (cNode n_0), strV path_1, strV name_2]) (lC (sAgg (lC (by kernel_rfl) (lC (sl_scrub tProp _ _) (lC (sl_scrub tNode _ _) lN)))) (lC (by kernel_rfl) (lC (by kernel_rfl) lN))) (by kernel_rfl)) ?_
  refine J_seq ?_
  refine J_region ?_
  refine JS_end [.agg (cNode n_0), strV path_1, strV name_2, .ref 0 0 0, .bad, .bad, strV [], (vB false), .bad, .bad, .bad, .bad, .bad, .bad, .bad, .bad, .bad, .bad, .bad, .bad, .bad, .bad, .bad] [.box 25 (cNode n_0)] (by kernel_rfl) ?_
  refine JK_sq ?_
  refine J_seq ?_
  refine J_region ?_
  refine JS_seg 2 [.agg (cNode n_0), strV path_1, strV name_2, .ref 0 0 0, .bad, .bad, strV [], (vB false), .bad, .bad, .bad, .agg (cNode n_0), strV path_1, .bad, .bad, .bad, .bad, .bad, .bad, .bad, .bad, .bad, .bad] [.box 25 (cNode n_0)] (by kernel_rfl) ?_
  obtain ⟨r1, h2, h⟩ := Option.bind_eq_some_iff.1 h
  refine JS_upd (fun s => fcall E0 12 [.agg (cNode n_0), strV path_1] s) (by kernel_rfl) (ref16_Find_C n_0 path_1 _ _ h2) ?_
  refine JS_end [.agg (cNode n_0), strV path_1, strV name_2, .ref 0 0 0, .bad, .bad, strV [], (vB false), .ref 1 0 0, .sc (.bool r1.2), .tup [.agg (cNode r1.1), .sc (.bool r1.2)], .agg (cNode n_0), strV path_1, .tup [.agg (cNode r1.1), .sc (.bool r1.2)], .agg (cNode r1.1), .sc (.bool r1.2), .bad, .bad, .bad, .bad, .bad, .bad, .bad] [.box 25 (cNode n_0), .box 25 (cNode r1.1)] (by kernel_rfl) ?_
  refine JK_sq ?_
  refine J_seq ?_
  refine J_seq ?_
  refine J_region ?_
  refine JS_end [.agg (cNode n_0), strV path_1, strV name_2, .ref 0 0 0, .bad, .bad, strV [], (vB false), .ref 1 0 0, .sc (.bool r1.2), .tup [.agg (cNode r1.1), .sc (.bool r1.2)], .agg (cNode n_0), strV path_1, .tup [.agg (cNode r1.1), .sc (.bool r1.2)], .agg (cNode r1.1), .sc (.bool r1.2), .sc (.bool r1.2), .sc (.bool (!r1.2)), .bad, .bad, .bad, .bad, .bad] [.box 25 (cNode n_0), .box 25 (cNode r1.1)] (by kernel_rfl) ?_
  refine JK_sq ?_
  rcases bool_cases (!r1.2) with h3 | h3
  · rw [if_pos h3] at h
    refine J_condT (v := (!r1.2)) (by kernel_rfl) h3 ?_
    refine J_seq ?_
    refine J_region ?_
    refine JS_end [.agg (cNode n_0), strV path_1, strV name_2, .ref 0 0 0, .bad, .bad, strV [], (vB false), .ref 1 0 0, .sc (.bool r1.2), .tup [.agg (cNode r1.1), .sc (.bool r1.2)], .agg (cNode n_0), strV path_1, .tup [.agg (cNode r1.1), .sc (.bool r1.2)], .agg (cNode r1.1), .sc (.bool r1.2), .sc (.bool r1.2), .sc (.bool (!r1.2)), .bad, .bad, .bad, .bad, .bad] [.box 25 (cNode n_0), .box 25 (cNode r1.1)] (by kernel_rfl) ?_
    refine JK_sq ?_
    refine J_ret ?_
    refine JK_sq_ret ?_
    refine JK_nil ?_
    obtain rfl := Option.some.inj h
    exact ret_A (r := .tup [strV [], (vB false)]) (r' := .tup [strV [], (vB false)]) (.inl rfl) (by kernel_rfl) (fTup (fC (by kernel_rfl) (fC (by kernel_rfl) fN))) (pTup (pC rfl (pC rfl pN))) ⟨by kernel_rfl, rfl⟩
  · rw [if_neg (ne_true h3)] at h
    refine J_condF (v := (!r1.2)) (by kernel_rfl) h3 ?_
    refine J_skip ?_
    refine JK_sq ?_
    refine J_seq ?_
    refine J_region ?_
    refine JS_seg 2 [.agg (cNode n_0), strV path_1, strV name_2, .ref 0 0 0, .bad, .bad, strV [], (vB false), .ref 1 0 0, .sc (.bool r1.2), .tup [.agg (cNode r1.1), .sc (.bool r1.2)], .agg (cNode n_0), strV path_1, .tup [.agg (cNode r1.1), .sc (.bool r1.2)], .agg (cNode r1.1), .sc (.bool r1.2), .sc (.bool r1.2), .sc (.bool (!r1.2)), .agg (cNode r1.1), strV name_2, .bad, .bad, .bad] [.box 25 (cNode n_0), .box 25 (cNode r1.1)] (by kernel_rfl) ?_
    obtain ⟨r4, h5, h⟩ := Option.bind_eq_some_iff.1 h
    refine JS_upd (fun s => fcall E0 17 [.agg (cNode r1.1), strV name_2] s) (by kernel_rfl) (ref16_Value_C r1.1 name_2 _ _ h5) ?_
    refine JS_end [.agg (cNode n_0), strV path_1, strV name_2, .ref 0 0 0, .bad, .bad, strV r4.1, .sc (.bool r4.2), .ref 1 0 0, .sc (.bool r1.2), .tup [.agg (cNode r1.1), .sc (.bool r1.2)], .agg (cNode n_0), strV path_1, .tup [.agg (cNode r1.1), .sc (.bool r1.2)], .agg (cNode r1.1), .sc (.bool r1.2), .sc (.bool r1.2), .sc (.bool (!r1.2)), .agg (cNode r1.1), strV name_2, .tup [strV r4.1, .sc (.bool r4.2)], strV r4.1, .sc (.bool r4.2)] [.box 25 (cNode n_0), .box 25 (cNode r1.1)] (by kernel_rfl) ?_
    refine JK_sq ?_
    refine J_ret ?_
    refine JK_nil ?_
    obtain rfl := Option.some.inj h
    exact ret_A (r := .tup [strV r4.1, .sc (.bool r4.2)]) (r' := .tup [strV r4.1, .sc (.bool r4.2)]) (.inl rfl) (by kernel_rfl) (fTup (fC (by kernel_rfl) (fC (by kernel_rfl) fN))) (pTup (pC rfl (pC rfl pN))) ⟨by kernel_rfl, rfl⟩

theorem ref13_cut_C (s_0 : Str) (r : Str) (st : Store) (h : ref13_cut s_0 = some r) : fcall E0 105 [strV s_0] st = some (strV r, st) := by
  unfold ref13_cut at h
  refine fn_alone (fn := Tryd.f105) (av' := [strV s_0, .bad, .bad, .bad, .bad, .bad, .bad, .bad, .bad, .bad, .bad, .bad, .bad, .bad, .bad, .bad, .bad, .bad]) rfl fn_105 rfl (pC rfl pN) rfl rfl rfl (has_go (as1 := [strV s_0]) (lC (by kernel_rfl) lN) (by kernel_rfl)) ?_
  refine J_seq ?_
  refine J_region ?_
  refine JS_end [strV s_0, .bad, strV [], .bad, .bad, .bad, .bad, .bad, .bad, .bad, .bad, .bad, .bad, .bad, .bad, .bad, .bad, .bad] [] (by kernel_rfl) ?_
  refine JK_sq ?_
  refine J_seq ?_
  refine J_seq ?_
  refine J_region ?_
  refine JS_end [strV s_0, .bad, strV [], (vI 0), .bad, .bad, .bad, .bad, .bad, .bad, .bad, .bad, .bad, .bad, .bad, .bad, .bad, .bad] [] (by kernel_rfl) ?_
  refine JK_sq ?_
  refine J_block ?_
  obtain ⟨r8, h9, h⟩ := Option.bind_eq_some_iff.1 h
  refine J_loop (γ := Unit) h9 0 [strV s_0, .bad, strV [], (vI 0), .bad, .bad, .bad, .bad, .bad, .bad, .bad, .bad, .bad, .bad, .bad, .bad, .bad, .bad] [] (fun s g => [strV s_0, .bad, .bad, (vI s), .bad, .bad, .bad, .bad, .bad, .bad, .bad, .bad, .bad, .bad, .bad, .bad, .bad, .bad]) (fun s g => []) (fun r g => match r with | (.inl r) => (.exit 0, [strV s_0, .bad, .bad, .bad, .bad, .bad, .bad, .bad, .bad, .bad, .bad, .bad, .bad, .bad, .bad, .bad, .bad, .bad], []) | (.inr r) => (.ret, [strV s_0, .bad, strV r, .bad, .bad, .bad, .bad, .bad, .bad, .bad, .bad, .bad, .bad, .bad, .bad, .bad, .bad, .bad], [])) () (by kernel_rfl) (by kernel_rfl) (kill_go (mid := [strV s_0, .bad, .bad, (vI 0), .bad, .bad, .bad, .bad, .bad, .bad, .bad, .bad, .bad, .bad, .bad, .bad, .bad, .bad]) (by kernel_rfl) (mC (by kernel_rfl) (mB (mB (mC (by kernel_rfl) (mB (mB (mB (mB (mB (mB (mB (mB (mB (mB (mB (mB (mB (mB mN))))))))))))))))))) (cut_go (mid := []) (by kernel_rfl) oN) ?_ ?_
  · rintro v1 _ y h
    unfold ref13_cut_l1 at h
    refine J_seq ?_
    refine J_seq ?_
    refine J_region ?_
    refine JS_end [strV s_0, .bad, .bad, (vI v1), (vI v1), strV s_0, .sc (.int .i64 (s_0.length : Int)), .sc (.bool (decide (v1 < (s_0.length : Int)))), .bad, .bad, .bad, .bad, .bad, .bad, .bad, .bad, .bad, .bad] [] (by kernel_rfl) ?_
    refine JK_sq ?_
    rcases bool_cases (decide (v1 < (s_0.length : Int))) with h2 | h2
    · rw [if_pos h2] at h
      refine J_condT (v := (decide (v1 < (s_0.length : Int)))) (by kernel_rfl) h2 ?_
      refine J_skip ?_
      refine JK_sq ?_
      refine J_seq ?_
      refine J_block ?_
      refine J_seq ?_
      refine J_region ?_
      refine JS_seg 2 [strV s_0, .bad, .bad, (vI v1), (vI v1), strV s_0, .sc (.int .i64 (s_0.length : Int)), .sc (.bool (decide (v1 < (s_0.length : Int)))), .bad, .bad, strV s_0, (vI v1), .bad, .bad, .bad, .bad, .bad, .bad] [] (by kernel_rfl) ?_
      obtain ⟨c3, h4, h⟩ := Option.bind_eq_some_iff.1 h
      refine JS_val (fun s => aindex E0.tb 9 (strV s_0) ((vI v1))) (by kernel_rfl) (str_at tb_9 rfl h4) ?_
      refine JS_end [strV s_0, .bad, .bad, (vI v1), (vI v1), strV s_0, .sc (.int .i64 (s_0.length : Int)), .sc (.bool (decide (v1 < (s_0.length : Int)))), .bad, .bad, strV s_0, (vI v1), .sc (.int .u8 (c3.toNat : Int)), .sc (.bool ((c3.toNat : Int) == 0)), .bad, .bad, .bad, .bad] [] (by kernel_rfl) ?_
      refine JK_sq ?_
      rcases bool_cases ((c3.toNat : Int) == 0) with h5 | h5
      · rw [if_pos h5] at h
        refine J_condT (v := ((c3.toNat : Int) == 0)) (by kernel_rfl) h5 ?_
        refine J_seq ?_
        refine J_region ?_
        refine JS_seg 2 [strV s_0, .bad, .bad, (vI v1), (vI v1), strV s_0, .sc (.int .i64 (s_0.length : Int)), .sc (.bool (decide (v1 < (s_0.length : Int)))), .bad, .bad, strV s_0, (vI v1), .sc (.int .u8 (c3.toNat : Int)), .sc (.bool ((c3.toNat : Int) == 0)), strV s_0, (vI v1), .bad, .bad] [] (by kernel_rfl) ?_
        obtain ⟨s6, h7, h⟩ := Option.bind_eq_some_iff.1 h
        refine JS_val (fun s => aslice E0.tb s 9 (strV s_0) none (some ((vI v1)))) (by kernel_rfl) (str_sub tb_9 rfl loV_none hiV_some h7) ?_
        refine JS_end [strV s_0, .bad, strV s6, (vI v1), (vI v1), strV s_0, .sc (.int .i64 (s_0.length : Int)), .sc (.bool (decide (v1 < (s_0.length : Int)))), .bad, .bad, strV s_0, (vI v1), .sc (.int .u8 (c3.toNat : Int)), .sc (.bool ((c3.toNat : Int) == 0)), strV s_0, (vI v1), strV s6, .bad] [] (by kernel_rfl) ?_
        refine JK_sq ?_
        refine J_ret ?_
        refine JK_bl_ret ?_
        refine JK_sq_ret ?_
        refine JK_nil ?_
        obtain rfl := Option.some.inj h
        exact turn_ret (tm' := [strV s_0, .bad, strV s6, .bad, .bad, .bad, .bad, .bad, .bad, .bad, .bad, .bad, .bad, .bad, .bad, .bad, .bad, .bad]) (st' := []) () (kill_go (mid := [strV s_0, .bad, strV s6, .bad, .bad, .bad, .bad, .bad, .bad, .bad, .bad, .bad, .bad, .bad, .bad, .bad, .bad, .bad]) (by kernel_rfl) (mC (by kernel_rfl) (mB (mC (by kernel_rfl) (mB (mB (mB (mB (mB (mB (mB (mB (mB (mB (mB (mB (mB (mB (mB mN))))))))))))))))))) (cut_go (mid := []) (by kernel_rfl) oN) (by kernel_rfl)
      · rw [if_neg (ne_true h5)] at h
        refine J_condF (v := ((c3.toNat : Int) == 0)) (by kernel_rfl) h5 ?_
        refine J_skip ?_
        refine JK_bl ?_
        refine JK_sq ?_
        refine J_region ?_
        refine JS_end [strV s_0, .bad, .bad, .sc (.int .i64 (IntKind.wrap .i64 (v1 + 1))), (vI v1), strV s_0, .sc (.int .i64 (s_0.length : Int)), .sc (.bool (decide (v1 < (s_0.length : Int)))), (vI v1), .sc (.int .i64 (IntKind.wrap .i64 (v1 + 1))), strV s_0, (vI v1), .sc (.int .u8 (c3.toNat : Int)), .sc (.bool ((c3.toNat : Int) == 0)), .bad, .bad, .bad, .bad] [] (by kernel_rfl) ?_
        refine JK_nil ?_
        obtain rfl := Option.some.inj h
        exact turn_next () (kill_go (mid := [strV s_0, .bad, .bad, .sc (.int .i64 (IntKind.wrap .i64 (v1 + 1))), .bad, .bad, .bad, .bad, .bad, .bad, .bad, .bad, .bad, .bad, .bad, .bad, .bad, .bad]) (by kernel_rfl) (mC (by kernel_rfl) (mB (mB (mC (by kernel_rfl) (mB (mB (mB (mB (mB (mB (mB (mB (mB (mB (mB (mB (mB (mB mN))))))))))))))))))) (cut_go (mid := []) (by kernel_rfl) oN)
    · rw [if_neg (ne_true h2)] at h
      refine J_condF (v := (decide (v1 < (s_0.length : Int)))) (by kernel_rfl) h2 ?_
      refine J_exit ?_
      refine JK_sq_exit ?_
      refine JK_nil ?_
      obtain rfl := Option.some.inj h
      exact turn_exit (tm' := [strV s_0, .bad, .bad, .bad, .bad, .bad, .bad, .bad, .bad, .bad, .bad, .bad, .bad, .bad, .bad, .bad, .bad, .bad]) (st' := []) () (kill_go (mid := [strV s_0, .bad, .bad, .bad, .bad, .bad, .bad, .bad, .bad, .bad, .bad, .bad, .bad, .bad, .bad, .bad, .bad, .bad]) (by kernel_rfl) (mC (by kernel_rfl) (mB (mB (mB (mB (mB (mB (mB (mB (mB (mB (mB (mB (mB (mB (mB (mB (mB mN))))))))))))))))))) (cut_go (mid := []) (by kernel_rfl) oN) (by kernel_rfl)
  · intro g_
    rcases r8 with r10 | r11
    · dsimp only at h
      refine (show JK _ _ _ _ (.exit 0, [strV s_0, .bad, .bad, .bad, .bad, .bad, .bad, .bad, .bad, .bad, .bad, .bad, .bad, .bad, .bad, .bad, .bad, .bad], []) from ?_)
      refine JK_bl_hit ?_
      refine JK_sq ?_
      refine J_seq ?_
      refine J_region ?_
      refine JS_end [strV s_0, .bad, strV s_0, .bad, .bad, .bad, .bad, .bad, .bad, .bad, .bad, .bad, .bad, .bad, .bad, .bad, .bad, strV s_0] [] (by kernel_rfl) ?_
      refine JK_sq ?_
      refine J_ret ?_
      refine JK_nil ?_
      obtain rfl := Option.some.inj h
      exact ret_A (r := strV s_0) (r' := strV s_0) (.inl rfl) (by kernel_rfl) (by kernel_rfl) rfl ⟨by kernel_rfl, rfl⟩
    · dsimp only at h
      refine (show JK _ _ _ _ (.ret, [strV s_0, .bad, strV r11, .bad, .bad, .bad, .bad, .bad, .bad, .bad, .bad, .bad, .bad, .bad, .bad, .bad, .bad, .bad], []) from ?_)
      refine JK_bl_ret ?_
      refine JK_sq_ret ?_
      refine JK_nil ?_
      obtain rfl := Option.some.inj h
      exact ret_A (r := strV r11) (r' := strV r11) (.inl rfl) (by kernel_rfl) (by kernel_rfl) rfl ⟨by kernel_rfl, rfl⟩

theorem ref13_AsTexts_C (v_0 : Str) (r : (List Str) × Bool) (st : Store) (h : ref13_AsTexts v_0 = some r) : fcall E0 68 [strV v_0] st = some (.tup [Ty.sl tS r.1, .sc (.bool r.2)], st) := by
  unfold ref13_AsTexts at h
  refine fn_alone (fn := Tryd.f68) (av' := [strV v_0, .bad, .bad, .bad, .bad, .bad, .bad, .bad, .bad, .bad, .bad, .bad, .bad, .bad, .bad, .bad, .bad, .bad, .bad, .bad, .bad, .bad, .bad, .bad, .bad, .bad, .bad, .bad, .bad, .bad]) rfl fn_68 rfl (pC rfl pN) rfl rfl rfl (has_go (as1 := [strV v_0]) (lC (by kernel_rfl) lN) (by kernel_rfl)) ?_
  refine J_seq ?_
  refine J_region ?_
  refine JS_end [strV v_0, .bad, .sc (.slice none 0 0), (vB false), .bad, .bad, .bad, .bad, .bad, .bad, .bad, .bad, .bad, .bad, .bad, .bad, .bad, .bad, .bad, .bad, .bad, .bad, .bad, .bad, .bad, .bad, .bad, .bad, .bad, .bad] [] (by kernel_rfl) ?_
  refine JK_sq ?_
  refine J_seq ?_
  refine J_seq ?_
  refine J_region ?_
  refine JS_seg 1 [strV v_0, .bad, .sc (.slice none 0 0), (vB false), .bad, .bad, strV v_0, .bad, .bad, .bad, .bad, .bad, .bad, .bad, .bad, .bad, .bad, .bad, .bad, .bad, .bad, .bad, .bad, .bad, .bad, .bad, .bad, .bad, .bad, .bad] [] (by kernel_rfl) ?_
  refine JS_val (fun s => abin E0.tb s .eql 9 (strV v_0) (strV [])) (by kernel_rfl) (str_eq v_0 ([] : Str)) ?_
  refine JS_seg 3 [strV v_0, .bad, .sc (.slice none 0 0), (vB false), .bad, .bad, strV v_0, .sc (.bool (v_0 == ([] : Str))), .sc (.bool (v_0 == ([] : Str))), .bad, .bad, .bad, .bad, .bad, .bad, .bad, .bad, .bad, .bad, .bad, .bad, .bad, .bad, .bad, .bad, .bad, .bad, .bad, .bad, .bad] [] (by kernel_rfl) ?_
  rcases bool_cases (v_0 == ([] : Str)) with h1 | h1
  · rw [if_pos h1] at h
    refine JS_cast (tm' := [strV v_0, .bad, .sc (.slice none 0 0), (vB false), .bad, .bad, strV v_0, (vB true), (vB true), .bad, .bad, .bad, .bad, .bad, .bad, .bad, .bad, .bad, .bad, .bad, .bad, .bad, .bad, .bad, .bad, .bad, .bad, .bad, .bad, .bad]) (by rw [h1]) rfl ?_
    refine JS_end [strV v_0, .bad, .sc (.slice none 0 0), (vB false), .bad, .bad, strV v_0, (vB true), (vB true), .tup [], .tup [], .tup [], .tup [], .tup [], .tup [], (vB true), .bad, .bad, .bad, .bad, .bad, .bad, .bad, .bad, .bad, .bad, .bad, .bad, .bad, .bad] [] (by kernel_rfl) ?_
    refine JK_sq ?_
    refine J_condT (v := true) (by kernel_rfl) rfl ?_
    refine J_seq ?_
    refine J_region ?_
    refine JS_end [strV v_0, .bad, .sc (.slice none 0 0), (vB false), .bad, .bad, strV v_0, (vB true), (vB true), .tup [], .tup [], .tup [], .tup [], .tup [], .tup [], (vB true), .bad, .bad, .bad, .bad, .bad, .bad, .bad, .bad, .bad, .bad, .bad, .bad, .bad, .bad] [] (by kernel_rfl) ?_
    refine JK_sq ?_
    refine J_ret ?_
    refine JK_sq_ret ?_
    refine JK_nil ?_
    obtain rfl := Option.some.inj h
    exact ret_A (r := .tup [.sc (.slice none 0 0), (vB false)]) (r' := .tup [Ty.sl tS [], (vB false)]) (.inl rfl) (by kernel_rfl) (fTup (fC (by kernel_rfl) (fC (by kernel_rfl) fN))) (pTup (pC (sl_pure tS _) (pC rfl pN))) ⟨by kernel_rfl, rfl⟩
  · rw [if_neg (ne_true h1)] at h
    refine JS_cast (tm' := [strV v_0, .bad, .sc (.slice none 0 0), (vB false), .bad, .bad, strV v_0, (vB false), (vB false), .bad, .bad, .bad, .bad, .bad, .bad, .bad, .bad, .bad, .bad, .bad, .bad, .bad, .bad, .bad, .bad, .bad, .bad, .bad, .bad, .bad]) (by rw [h1]) rfl ?_
    refine JS_seg 7 [strV v_0, .bad, .sc (.slice none 0 0), (vB false), .bad, .bad, strV v_0, (vB false), (vB false), strV v_0, strV v_0, .sc (.int .i64 (v_0.length : Int)), .sc (.int .i64 (IntKind.wrap .i64 ((v_0.length : Int) - 1))), .bad, .bad, .bad, .bad, .bad, .bad, .bad, .bad, .bad, .bad, .bad, .bad, .bad, .bad, .bad, .bad, .bad] [] (by kernel_rfl) ?_
    obtain ⟨c2, h3, h⟩ := Option.bind_eq_some_iff.1 h
    refine JS_val (fun s => aindex E0.tb 9 (strV v_0) (.sc (.int .i64 (IntKind.wrap .i64 ((v_0.length : Int) - 1))))) (by kernel_rfl) (str_at tb_9 rfl h3) ?_
    refine JS_end [strV v_0, .bad, .sc (.slice none 0 0), (vB false), .bad, .bad, strV v_0, (vB false), (vB false), strV v_0, strV v_0, .sc (.int .i64 (v_0.length : Int)), .sc (.int .i64 (IntKind.wrap .i64 ((v_0.length : Int) - 1))), .sc (.int .u8 (c2.toNat : Int)), .sc (.bool ((c2.toNat : Int) != 0)), .sc (.bool ((c2.toNat : Int) != 0)), .bad, .bad, .bad, .bad, .bad, .bad, .bad, .bad, .bad, .bad, .bad, .bad, .bad, .bad] [] (by kernel_rfl) ?_
    refine JK_sq ?_
    rcases bool_cases ((c2.toNat : Int) != 0) with h4 | h4
    · rw [if_pos h4] at h
      refine J_condT (v := ((c2.toNat : Int) != 0)) (by kernel_rfl) h4 ?_
      refine J_seq ?_
      refine J_region ?_
      refine JS_end [strV v_0, .bad, .sc (.slice none 0 0), (vB false), .bad, .bad, strV v_0, (vB false), (vB false), strV v_0, strV v_0, .sc (.int .i64 (v_0.length : Int)), .sc (.int .i64 (IntKind.wrap .i64 ((v_0.length : Int) - 1))), .sc (.int .u8 (c2.toNat : Int)), .sc (.bool ((c2.toNat : Int) != 0)), .sc (.bool ((c2.toNat : Int) != 0)), .bad, .bad, .bad, .bad, .bad, .bad, .bad, .bad, .bad, .bad, .bad, .bad, .bad, .bad] [] (by kernel_rfl) ?_
      refine JK_sq ?_
      refine J_ret ?_
      refine JK_sq_ret ?_
      refine JK_nil ?_
      obtain rfl := Option.some.inj h
      exact ret_A (r := .tup [.sc (.slice none 0 0), (vB false)]) (r' := .tup [Ty.sl tS [], (vB false)]) (.inl rfl) (by kernel_rfl) (fTup (fC (by kernel_rfl) (fC (by kernel_rfl) fN))) (pTup (pC (sl_pure tS _) (pC rfl pN))) ⟨by kernel_rfl, rfl⟩
    · rw [if_neg (ne_true h4)] at h
      refine J_condF (v := ((c2.toNat : Int) != 0)) (by kernel_rfl) h4 ?_
      refine J_skip ?_
      refine JK_sq ?_
      refine J_seq ?_
      refine J_region ?_
      refine JS_end [strV v_0, .bad, .sc (.slice none 0 0), (vB false), .sc (.slice none 0 0), .bad, strV v_0, (vB false), (vB false), strV v_0, strV v_0, .sc (.int .i64 (v_0.length : Int)), .sc (.int .i64 (IntKind.wrap .i64 ((v_0.length : Int) - 1))), .sc (.int .u8 (c2.toNat : Int)), .sc (.bool ((c2.toNat : Int) != 0)), .sc (.bool ((c2.toNat : Int) != 0)), .bad, .bad, .bad, .bad, .bad, .bad, .bad, .bad, .bad, .bad, .bad, .bad, .bad, .bad] [] (by kernel_rfl) ?_
      refine JK_sq ?_
      refine J_seq ?_
      refine J_block ?_
      obtain ⟨r15, h16, h⟩ := Option.bind_eq_some_iff.1 h
      refine J_loop (γ := Nat) h16 1 [strV v_0, .bad, .sc (.slice none 0 0), (vB false), Ty.own tS 0 0 [], .bad, strV v_0, (vB false), (vB false), strV v_0, strV v_0, .sc (.int .i64 (v_0.length : Int)), .sc (.int .i64 (IntKind.wrap .i64 ((v_0.length : Int) - 1))), .sc (.int .u8 (c2.toNat : Int)), .sc (.bool ((c2.toNat : Int) != 0)), .sc (.bool ((c2.toNat : Int) != 0)), .bad, .bad, .bad, .bad, .bad, .bad, .bad, .bad, .bad, .bad, .bad, .bad, .bad, .bad] [Ty.arr tS 9 0 []] (fun s g => [strV s.1, .bad, .bad, .bad, Ty.own tS 0 g s.2, .bad, .bad, .bad, .bad, .bad, .bad, .bad, .bad, .bad, .bad, .bad, .bad, .bad, .bad, .bad, .bad, .bad, .bad, .bad, .bad, .bad, .bad, .bad, .bad, .bad]) (fun s g => [Ty.arr tS 9 g s.2]) (fun r g => (.exit 0, [.bad, .bad, .bad, .bad, Ty.own tS 0 g r, .bad, .bad, .bad, .bad, .bad, .bad, .bad, .bad, .bad, .bad, .bad, .bad, .bad, .bad, .bad, .bad, .bad, .bad, .bad, .bad, .bad, .bad, .bad, .bad, .bad], [Ty.arr tS 9 g r])) 0 (by kernel_rfl) (by kernel_rfl) (kill_go (mid := [strV v_0, .bad, .bad, .bad, Ty.own tS 0 0 [], .bad, .bad, .bad, .bad, .bad, .bad, .bad, .bad, .bad, .bad, .bad, .bad, .bad, .bad, .bad, .bad, .bad, .bad, .bad, .bad, .bad, .bad, .bad, .bad, .bad]) (by kernel_rfl) (mC (by kernel_rfl) (mB (mB (mB (mC (own_scrub tS rfl) (mB (mB (mB (mB (mB (mB (mB (mB (mB (mB (mB (mB (mB (mB (mB (mB (mB (mB (mB (mB (mB (mB (mB (mB (mB mN))))))))))))))))))))))))))))))) (cut_go (mid := [Ty.arr tS 9 0 []]) (by kernel_rfl) (oC (arr_scrub tS) oN)) ?_ ?_
      · rintro ⟨v7, v6⟩ v5 y h
        unfold ref13_AsTexts_l1 at h
        dsimp only at h
        refine J_seq ?_
        refine J_seq ?_
        refine J_region ?_
        refine JS_seg 1 [strV v7, .bad, .bad, .bad, Ty.own tS 0 v5 v6, .bad, .bad, .bad, .bad, .bad, .bad, .bad, .bad, .bad, .bad, .bad, strV v7, .bad, .bad, .bad, .bad, .bad, .bad, .bad, .bad, .bad, .bad, .bad, .bad, .bad] [Ty.arr tS 9 v5 v6] (by kernel_rfl) ?_
        refine JS_val (fun s => abin E0.tb s .neq 9 (strV v7) (strV [])) (by kernel_rfl) (str_ne v7 ([] : Str)) ?_
        refine JS_end [strV v7, .bad, .bad, .bad, Ty.own tS 0 v5 v6, .bad, .bad, .bad, .bad, .bad, .bad, .bad, .bad, .bad, .bad, .bad, strV v7, .sc (.bool (!(v7 == ([] : Str)))), .bad, .bad, .bad, .bad, .bad, .bad, .bad, .bad, .bad, .bad, .bad, .bad] [Ty.arr tS 9 v5 v6] (by kernel_rfl) ?_
        refine JK_sq ?_
        rcases bool_cases (!(v7 == ([] : Str))) with h8 | h8
        · rw [if_pos h8] at h
          refine J_condT (v := (!(v7 == ([] : Str)))) (by kernel_rfl) h8 ?_
          refine J_skip ?_
          refine JK_sq ?_
          refine J_block ?_
          refine J_seq ?_
          refine J_region ?_
          refine JS_seg 1 [strV v7, .bad, .bad, .bad, Ty.own tS 0 v5 v6, .bad, .bad, .bad, .bad, .bad, .bad, .bad, .bad, .bad, .bad, .bad, strV v7, .sc (.bool (!(v7 == ([] : Str)))), strV v7, .bad, .bad, .bad, .bad, .bad, .bad, .bad, .bad, .bad, .bad, .bad] [Ty.arr tS 9 v5 v6] (by kernel_rfl) ?_
          obtain ⟨r9, h10, h⟩ := Option.bind_eq_some_iff.1 h
          refine JS_upd (fun s => fcall E0 105 [strV v7] s) (by kernel_rfl) (ref13_cut_C v7 _ _ h10) ?_
          refine JS_end [strV v7, .bad, .bad, .bad, Ty.own tS 0 v5 v6, strV r9, .bad, .bad, .bad, .bad, .bad, .bad, .bad, .bad, .bad, .bad, strV v7, .sc (.bool (!(v7 == ([] : Str)))), strV v7, strV r9, .bad, .bad, .bad, .bad, .bad, .bad, .bad, .bad, .bad, .bad] [Ty.arr tS 9 v5 v6] (by kernel_rfl) ?_
          refine JK_sq ?_
          refine J_seq ?_
          refine J_region ?_
          refine JS_seg 3 [strV v7, .bad, .bad, .bad, Ty.own tS 0 v5 v6, strV r9, .bad, .bad, .bad, .bad, .bad, .bad, .bad, .bad, .bad, .bad, strV v7, .sc (.bool (!(v7 == ([] : Str)))), strV v7, strV r9, Ty.own tS 0 v5 v6, strV r9, Ty.sl tS [r9], .bad, .bad, .bad, .bad, .bad, .bad, .bad] [Ty.arr tS 9 v5 v6] (by kernel_rfl) ?_
          obtain ⟨l11, h12, h⟩ := Option.bind_eq_some_iff.1 h
          refine JS_upd (fun s => abuiltin E0.tb s .append [37, 37] [Ty.own tS 0 v5 v6, Ty.sl tS [r9]]) (by kernel_rfl) (app_own tS (y := [r9]) tb_37 rfl tb_37 rfl tb_9 rfl rfl (by decide) (by decide) rfl (sl_slice tS [r9]) h12) ?_
          refine JS_end [strV v7, .bad, .bad, .bad, Ty.own tS 0 (v5 + 1) l11, strV r9, .bad, .bad, .bad, .bad, .bad, .bad, .bad, .bad, .bad, .bad, strV v7, .sc (.bool (!(v7 == ([] : Str)))), strV v7, strV r9, Ty.own tS 0 v5 v6, strV r9, Ty.sl tS [r9], Ty.own tS 0 (v5 + 1) l11, .bad, .bad, .bad, .bad, .bad, .bad] [Ty.arr tS 9 (v5 + 1) l11] (by kernel_rfl) ?_
          refine JK_sq ?_
          refine J_region ?_
          refine JS_seg 4 [strV v7, .bad, .bad, .bad, Ty.own tS 0 (v5 + 1) l11, strV r9, .bad, .bad, .bad, .bad, .bad, .bad, .bad, .bad, .bad, .bad, strV v7, .sc (.bool (!(v7 == ([] : Str)))), strV v7, strV r9, Ty.own tS 0 v5 v6, strV r9, Ty.sl tS [r9], Ty.own tS 0 (v5 + 1) l11, strV v7, strV r9, .sc (.int .i64 (r9.length : Int)), .sc (.int .i64 (IntKind.wrap .i64 ((r9.length : Int) + 1))), .bad, .bad] [Ty.arr tS 9 (v5 + 1) l11] (by kernel_rfl) ?_
          obtain ⟨s13, h14, h⟩ := Option.bind_eq_some_iff.1 h
          refine JS_val (fun s => aslice E0.tb s 9 (strV v7) (some (.sc (.int .i64 (IntKind.wrap .i64 ((r9.length : Int) + 1))))) none) (by kernel_rfl) (str_sub tb_9 rfl loV_some hiV_none h14) ?_
          refine JS_end [strV s13, .bad, .bad, .bad, Ty.own tS 0 (v5 + 1) l11, strV r9, .bad, .bad, .bad, .bad, .bad, .bad, .bad, .bad, .bad, .bad, strV v7, .sc (.bool (!(v7 == ([] : Str)))), strV v7, strV r9, Ty.own tS 0 v5 v6, strV r9, Ty.sl tS [r9], Ty.own tS 0 (v5 + 1) l11, strV v7, strV r9, .sc (.int .i64 (r9.length : Int)), .sc (.int .i64 (IntKind.wrap .i64 ((r9.length : Int) + 1))), strV s13, .bad] [Ty.arr tS 9 (v5 + 1) l11] (by kernel_rfl) ?_
          refine JK_bl ?_
          refine JK_nil ?_
          obtain rfl := Option.some.inj h
          exact turn_next (v5 + 1) (kill_go (mid := [strV s13, .bad, .bad, .bad, Ty.own tS 0 (v5 + 1) l11, .bad, .bad, .bad, .bad, .bad, .bad, .bad, .bad, .bad, .bad, .bad, .bad, .bad, .bad, .bad, .bad, .bad, .bad, .bad, .bad, .bad, .bad, .bad, .bad, .bad]) (by kernel_rfl) (mC (by kernel_rfl) (mB (mB (mB (mC (own_scrub tS rfl) (mB (mB (mB (mB (mB (mB (mB (mB (mB (mB (mB (mB (mB (mB (mB (mB (mB (mB (mB (mB (mB (mB (mB (mB (mB mN))))))))))))))))))))))))))))))) (cut_go (mid := [Ty.arr tS 9 (v5 + 1) l11]) (by kernel_rfl) (oC (arr_scrub tS) oN))
        · rw [if_neg (ne_true h8)] at h
          refine J_condF (v := (!(v7 == ([] : Str)))) (by kernel_rfl) h8 ?_
          refine J_exit ?_
          refine JK_sq_exit ?_
          refine JK_nil ?_
          obtain rfl := Option.some.inj h
          exact turn_exit (tm' := [.bad, .bad, .bad, .bad, Ty.own tS 0 v5 v6, .bad, .bad, .bad, .bad, .bad, .bad, .bad, .bad, .bad, .bad, .bad, .bad, .bad, .bad, .bad, .bad, .bad, .bad, .bad, .bad, .bad, .bad, .bad, .bad, .bad]) (st' := [Ty.arr tS 9 v5 v6]) v5 (kill_go (mid := [.bad, .bad, .bad, .bad, Ty.own tS 0 v5 v6, .bad, .bad, .bad, .bad, .bad, .bad, .bad, .bad, .bad, .bad, .bad, .bad, .bad, .bad, .bad, .bad, .bad, .bad, .bad, .bad, .bad, .bad, .bad, .bad, .bad]) (by kernel_rfl) (mB (mB (mB (mB (mC (own_scrub tS rfl) (mB (mB (mB (mB (mB (mB (mB (mB (mB (mB (mB (mB (mB (mB (mB (mB (mB (mB (mB (mB (mB (mB (mB (mB (mB mN))))))))))))))))))))))))))))))) (cut_go (mid := [Ty.arr tS 9 v5 v6]) (by kernel_rfl) (oC (arr_scrub tS) oN)) (by kernel_rfl)
      · intro g17
        refine (show JK _ _ _ _ (.exit 0, [.bad, .bad, .bad, .bad, Ty.own tS 0 g17 r15, .bad, .bad, .bad, .bad, .bad, .bad, .bad, .bad, .bad, .bad, .bad, .bad, .bad, .bad, .bad, .bad, .bad, .bad, .bad, .bad, .bad, .bad, .bad, .bad, .bad], [Ty.arr tS 9 g17 r15]) from ?_)
        refine JK_bl_hit ?_
        refine JK_sq ?_
        refine J_seq ?_
        refine J_region ?_
        refine JS_end [.bad, .bad, Ty.own tS 0 g17 r15, (vB true), Ty.own tS 0 g17 r15, .bad, .bad, .bad, .bad, .bad, .bad, .bad, .bad, .bad, .bad, .bad, .bad, .bad, .bad, .bad, .bad, .bad, .bad, .bad, .bad, .bad, .bad, .bad, .bad, Ty.own tS 0 g17 r15] [Ty.arr tS 9 g17 r15] (by kernel_rfl) ?_
        refine JK_sq ?_
        refine J_ret ?_
        refine JK_nil ?_
        obtain rfl := Option.some.inj h
        exact ret_A (r := .tup [Ty.own tS 0 g17 r15, (vB true)]) (r' := .tup [Ty.sl tS r15, (vB true)]) (.inl rfl) (by kernel_rfl) (fTup (fC (own_frz tS rfl rfl) (fC (by kernel_rfl) fN))) (pTup (pC (sl_pure tS _) (pC rfl pN))) ⟨by kernel_rfl, rfl⟩

theorem ref13_AsText_C (v_0 : Str) (r : Str × Bool) (st : Store) (h : ref13_AsText v_0 = some r) : fcall E0 57 [strV v_0] st = some (.tup [strV r.1, .sc (.bool r.2)], st) := by
  unfold ref13_AsText at h
  refine fn_alone (fn := Tryd.f57) (av' := [strV v_0, .bad, .bad, .bad, .bad, .bad, .bad, .bad, .bad, .bad, .bad, .bad, .bad, .bad, .bad, .bad, .bad, .bad, .bad, .bad, .bad]) rfl fn_57 rfl (pC rfl pN) rfl rfl rfl (has_go (as1 := [strV v_0]) (lC (by kernel_rfl) lN) (by kernel_rfl)) ?_
  refine J_seq ?_
  refine J_region ?_
  refine JS_end [strV v_0, .bad, strV [], (vB false), .bad, .bad, .bad, .bad, .bad, .bad, .bad, .bad, .bad, .bad, .bad, .bad, .bad, .bad, .bad, .bad, .bad] [] (by kernel_rfl) ?_
  refine JK_sq ?_
  refine J_seq ?_
  refine J_region ?_
  refine JS_seg 1 [strV v_0, .bad, strV [], (vB false), .bad, .bad, .bad, strV v_0, .bad, .bad, .bad, .bad, .bad, .bad, .bad, .bad, .bad, .bad, .bad, .bad, .bad] [] (by kernel_rfl) ?_
  obtain ⟨r1, h2, h⟩ := Option.bind_eq_some_iff.1 h
  refine JS_upd (fun s => fcall E0 68 [strV v_0] s) (by kernel_rfl) (ref13_AsTexts_C v_0 _ _ h2) ?_
  refine JS_end [strV v_0, .bad, strV [], (vB false), Ty.sl tS r1.1, .sc (.bool r1.2), .tup [Ty.sl tS r1.1, .sc (.bool r1.2)], strV v_0, .tup [Ty.sl tS r1.1, .sc (.bool r1.2)], Ty.sl tS r1.1, .sc (.bool r1.2), .bad, .bad, .bad, .bad, .bad, .bad, .bad, .bad, .bad, .bad] [] (by kernel_rfl) ?_
  refine JK_sq ?_
  refine J_seq ?_
  refine J_seq ?_
  refine J_region ?_
  refine JS_seg 3 [strV v_0, .bad, strV [], (vB false), Ty.sl tS r1.1, .sc (.bool r1.2), .tup [Ty.sl tS r1.1, .sc (.bool r1.2)], strV v_0, .tup [Ty.sl tS r1.1, .sc (.bool r1.2)], Ty.sl tS r1.1, .sc (.bool r1.2), .sc (.bool r1.2), .sc (.bool (!r1.2)), .sc (.bool (!r1.2)), .bad, .bad, .bad, .bad, .bad, .bad, .bad] [] (by kernel_rfl) ?_
  rcases bool_cases (!r1.2) with h3 | h3
  · rw [if_pos h3] at h
    refine JS_cast (tm' := [strV v_0, .bad, strV [], (vB false), Ty.sl tS r1.1, .sc (.bool r1.2), .tup [Ty.sl tS r1.1, .sc (.bool r1.2)], strV v_0, .tup [Ty.sl tS r1.1, .sc (.bool r1.2)], Ty.sl tS r1.1, .sc (.bool r1.2), .sc (.bool r1.2), (vB true), (vB true), .bad, .bad, .bad, .bad, .bad, .bad, .bad]) (by rw [h3]) rfl ?_
    refine JS_end [strV v_0, .bad, strV [], (vB false), Ty.sl tS r1.1, .sc (.bool r1.2), .tup [Ty.sl tS r1.1, .sc (.bool r1.2)], strV v_0, .tup [Ty.sl tS r1.1, .sc (.bool r1.2)], Ty.sl tS r1.1, .sc (.bool r1.2), .sc (.bool r1.2), (vB true), (vB true), .tup [], .tup [], .tup [], (vB true), .bad, .bad, .bad] [] (by kernel_rfl) ?_
    refine JK_sq ?_
    refine J_condT (v := true) (by kernel_rfl) rfl ?_
    refine J_seq ?_
    refine J_region ?_
    refine JS_end [strV v_0, .bad, strV [], (vB false), Ty.sl tS r1.1, .sc (.bool r1.2), .tup [Ty.sl tS r1.1, .sc (.bool r1.2)], strV v_0, .tup [Ty.sl tS r1.1, .sc (.bool r1.2)], Ty.sl tS r1.1, .sc (.bool r1.2), .sc (.bool r1.2), (vB true), (vB true), .tup [], .tup [], .tup [], (vB true), .bad, .bad, .bad] [] (by kernel_rfl) ?_
    refine JK_sq ?_
    refine J_ret ?_
    refine JK_sq_ret ?_
    refine JK_nil ?_
    obtain rfl := Option.some.inj h
    exact ret_A (r := .tup [strV [], (vB false)]) (r' := .tup [strV [], (vB false)]) (.inl rfl) (by kernel_rfl) (fTup (fC (by kernel_rfl) (fC (by kernel_rfl) fN))) (pTup (pC rfl (pC rfl pN))) ⟨by kernel_rfl, rfl⟩
  · rw [if_neg (ne_true h3)] at h
    refine JS_cast (tm' := [strV v_0, .bad, strV [], (vB false), Ty.sl tS r1.1, .sc (.bool r1.2), .tup [Ty.sl tS r1.1, .sc (.bool r1.2)], strV v_0, .tup [Ty.sl tS r1.1, .sc (.bool r1.2)], Ty.sl tS r1.1, .sc (.bool r1.2), .sc (.bool r1.2), (vB false), (vB false), .bad, .bad, .bad, .bad, .bad, .bad, .bad]) (by rw [h3]) rfl ?_
    refine JS_end [strV v_0, .bad, strV [], (vB false), Ty.sl tS r1.1, .sc (.bool r1.2), .tup [Ty.sl tS r1.1, .sc (.bool r1.2)], strV v_0, .tup [Ty.sl tS r1.1, .sc (.bool r1.2)], Ty.sl tS r1.1, .sc (.bool r1.2), .sc (.bool r1.2), (vB false), (vB false), Ty.sl tS r1.1, .sc (.int .i64 (r1.1.length : Int)), .sc (.bool ((r1.1.length : Int) != 1)), .sc (.bool ((r1.1.length : Int) != 1)), .bad, .bad, .bad] [] (by kernel_rfl) ?_
    refine JK_sq ?_
    rcases bool_cases ((r1.1.length : Int) != 1) with h4 | h4
    · rw [if_pos h4] at h
      refine J_condT (v := ((r1.1.length : Int) != 1)) (by kernel_rfl) h4 ?_
      refine J_seq ?_
      refine J_region ?_
      refine JS_end [strV v_0, .bad, strV [], (vB false), Ty.sl tS r1.1, .sc (.bool r1.2), .tup [Ty.sl tS r1.1, .sc (.bool r1.2)], strV v_0, .tup [Ty.sl tS r1.1, .sc (.bool r1.2)], Ty.sl tS r1.1, .sc (.bool r1.2), .sc (.bool r1.2), (vB false), (vB false), Ty.sl tS r1.1, .sc (.int .i64 (r1.1.length : Int)), .sc (.bool ((r1.1.length : Int) != 1)), .sc (.bool ((r1.1.length : Int) != 1)), .bad, .bad, .bad] [] (by kernel_rfl) ?_
      refine JK_sq ?_
      refine J_ret ?_
      refine JK_sq_ret ?_
      refine JK_nil ?_
      obtain rfl := Option.some.inj h
      exact ret_A (r := .tup [strV [], (vB false)]) (r' := .tup [strV [], (vB false)]) (.inl rfl) (by kernel_rfl) (fTup (fC (by kernel_rfl) (fC (by kernel_rfl) fN))) (pTup (pC rfl (pC rfl pN))) ⟨by kernel_rfl, rfl⟩
    · rw [if_neg (ne_true h4)] at h
      refine J_condF (v := ((r1.1.length : Int) != 1)) (by kernel_rfl) h4 ?_
      refine J_skip ?_
      refine JK_sq ?_
      refine J_seq ?_
      refine J_region ?_
      refine JS_seg 1 [strV v_0, .bad, strV [], (vB false), Ty.sl tS r1.1, .sc (.bool r1.2), .tup [Ty.sl tS r1.1, .sc (.bool r1.2)], strV v_0, .tup [Ty.sl tS r1.1, .sc (.bool r1.2)], Ty.sl tS r1.1, .sc (.bool r1.2), .sc (.bool r1.2), (vB false), (vB false), Ty.sl tS r1.1, .sc (.int .i64 (r1.1.length : Int)), .sc (.bool ((r1.1.length : Int) != 1)), .sc (.bool ((r1.1.length : Int) != 1)), Ty.sl tS r1.1, .bad, .bad] [] (by kernel_rfl) ?_
      obtain ⟨x5, h6, h⟩ := Option.bind_eq_some_iff.1 h
      refine JS_val (fun s => aindexAddr E0.tb s 37 (Ty.sl tS r1.1) ((vI 0))) (by kernel_rfl) (sl_addr tS tb_37 rfl tb_9 rfl h6) ?_
      refine JS_seg 2 [strV v_0, .bad, strV [], (vB false), Ty.sl tS r1.1, .sc (.bool r1.2), .tup [Ty.sl tS r1.1, .sc (.bool r1.2)], strV v_0, .tup [Ty.sl tS r1.1, .sc (.bool r1.2)], Ty.sl tS r1.1, .sc (.bool r1.2), .sc (.bool r1.2), (vB false), (vB false), Ty.sl tS r1.1, .sc (.int .i64 (r1.1.length : Int)), .sc (.bool ((r1.1.length : Int) != 1)), .sc (.bool ((r1.1.length : Int) != 1)), Ty.sl tS r1.1, .fp (List.flatMap (Ty.cells tS) r1.1) ((0 : Int).toNat * Ty.size tS), .bad] [] (by kernel_rfl) ?_
      refine JS_val (fun s => aload E0.tb s 9 (.fp (List.flatMap (Ty.cells tS) r1.1) ((0 : Int).toNat * Ty.size tS))) (by kernel_rfl) (fp_load1 tS (o := 0) tb_9 rfl h6 (rfl)) ?_
      refine JS_end [strV v_0, .bad, strV x5, (vB true), Ty.sl tS r1.1, .sc (.bool r1.2), .tup [Ty.sl tS r1.1, .sc (.bool r1.2)], strV v_0, .tup [Ty.sl tS r1.1, .sc (.bool r1.2)], Ty.sl tS r1.1, .sc (.bool r1.2), .sc (.bool r1.2), (vB false), (vB false), Ty.sl tS r1.1, .sc (.int .i64 (r1.1.length : Int)), .sc (.bool ((r1.1.length : Int) != 1)), .sc (.bool ((r1.1.length : Int) != 1)), Ty.sl tS r1.1, .fp (List.flatMap (Ty.cells tS) r1.1) ((0 : Int).toNat * Ty.size tS), strV x5] [] (by kernel_rfl) ?_
      refine JK_sq ?_
      refine J_ret ?_
      refine JK_nil ?_
      obtain rfl := Option.some.inj h
      exact ret_A (r := .tup [strV x5, (vB true)]) (r' := .tup [strV x5, (vB true)]) (.inl rfl) (by kernel_rfl) (fTup (fC (by kernel_rfl) (fC (by kernel_rfl) fN))) (pTup (pC rfl (pC rfl pN))) ⟨by kernel_rfl, rfl⟩

theorem ref16_Text_C (n_0 : GNode) (path_1 : Str) (name_2 : Str) (r : Str × Bool) (st : Store) (h : ref16_Text n_0 path_1 name_2 = some r) : fcall E0 19 [.agg (cNode n_0), strV path_1, strV name_2] st = some (.tup [strV r.1, .sc (.bool r.2)], st) := by
  unfold ref16_Text at h
  refine fn_alone (fn := Tryd.f19) (av' := [.agg (cNode n_0), strV path_1, strV name_2, .bad, .bad, .bad, .bad, .bad, .bad, .bad, .bad, .bad, .bad, .bad, .bad, .bad, .bad, .bad, .bad, .bad, .bad, .bad, .bad]) rfl fn_19 rfl (pC (pAgg (pC rfl (pC (sl_pure tProp _) (pC (sl_pure tNode _) pN)))) (pC rfl (pC rfl pN))) rfl rfl rfl (has_go (as1 := [.agg (cNode n_0), strV path_1, strV name_2]) (lC (sAgg (lC (by kernel_rfl) (lC (sl_scrub tProp _ _) (lC (sl_scrub tNode _ _) lN)))) (lC (by kernel_rfl) (lC (by kernel_rfl) lN))) (by kernel_rfl)) ?_
  refine J_seq ?_
  refine J_region ?_
  refine JS_end [.agg (cNode n_0), strV path_1, strV name_2, .ref 0 0 0, .bad, .bad, strV [], (vB false), .bad, .bad, .bad, .bad, .bad, .bad, .bad, .bad, .bad, .bad, .bad, .bad, .bad, .bad, .bad] [.box 25 (cNode n_0)] (by kernel_rfl) ?_
  refine JK_sq ?_
  refine J_seq ?_
  refine J_region ?_
  refine JS_seg 3 [.agg (cNode n_0), strV path_1, strV name_2, .ref 0 0 0, .bad, .bad, strV [], (vB false), .bad, .bad, .bad, .agg (cNode n_0), strV path_1, strV name_2, .bad, .bad, .bad, .bad, .bad, .bad, .bad, .bad, .bad] [.box 25 (cNode n_0)] (by kernel_rfl) ?_
  obtain ⟨r1, h2, h⟩ := Option.bind_eq_some_iff.1 h
  refine JS_upd (fun s => fcall E0 56 [.agg (cNode n_0), strV path_1, strV name_2] s) (by kernel_rfl) (ref16_at_C n_0 path_1 name_2 _ _ h2) ?_
  refine JS_end [.agg (cNode n_0), strV path_1, strV name_2, .ref 0 0 0, .bad, .bad, strV [], (vB false), strV r1.1, .sc (.bool r1.2), .tup [strV r1.1, .sc (.bool r1.2)], .agg (cNode n_0), strV path_1, strV name_2, .tup [strV r1.1, .sc (.bool r1.2)], strV r1.1, .sc (.bool r1.2), .bad, .bad, .bad, .bad, .bad, .bad] [.box 25 (cNode n_0)] (by kernel_rfl) ?_
  refine JK_sq ?_
  refine J_seq ?_
  refine J_seq ?_
  refine J_region ?_
  refine JS_end [.agg (cNode n_0), strV path_1, strV name_2, .ref 0 0 0, .bad, .bad, strV [], (vB false), strV r1.1, .sc (.bool r1.2), .tup [strV r1.1, .sc (.bool r1.2)], .agg (cNode n_0), strV path_1, strV name_2, .tup [strV r1.1, .sc (.bool r1.2)], strV r1.1, .sc (.bool r1.2), .sc (.bool r1.2), .sc (.bool (!r1.2)), .bad, .bad, .bad, .bad] [.box 25 (cNode n_0)] (by kernel_rfl) ?_
  refine JK_sq ?_
  rcases bool_cases (!r1.2) with h3 | h3
  · rw [if_pos h3] at h
    refine J_condT (v := (!r1.2)) (by kernel_rfl) h3 ?_
    refine J_seq ?_
    refine J_region ?_
    refine JS_end [.agg (cNode n_0), strV path_1, strV name_2, .ref 0 0 0, .bad, .bad, strV [], (vB false), strV r1.1, .sc (.bool r1.2), .tup [strV r1.1, .sc (.bool r1.2)], .agg (cNode n_0), strV path_1, strV name_2, .tup [strV r1.1, .sc (.bool r1.2)], strV r1.1, .sc (.bool r1.2), .sc (.bool r1.2), .sc (.bool (!r1.2)), .bad, .bad, .bad, .bad] [.box 25 (cNode n_0)] (by kernel_rfl) ?_
    refine JK_sq ?_
    refine J_ret ?_
    refine JK_sq_ret ?_
    refine JK_nil ?_
    obtain rfl := Option.some.inj h
    exact ret_A (r := .tup [strV [], (vB false)]) (r' := .tup [strV [], (vB false)]) (.inl rfl) (by kernel_rfl) (fTup (fC (by kernel_rfl) (fC (by kernel_rfl) fN))) (pTup (pC rfl (pC rfl pN))) ⟨by kernel_rfl, rfl⟩
  · rw [if_neg (ne_true h3)] at h
    refine J_condF (v := (!r1.2)) (by kernel_rfl) h3 ?_
    refine J_skip ?_
    refine JK_sq ?_
    refine J_seq ?_
    refine J_region ?_
    refine JS_seg 1 [.agg (cNode n_0), strV path_1, strV name_2, .ref 0 0 0, .bad, .bad, strV [], (vB false), strV r1.1, .sc (.bool r1.2), .tup [strV r1.1, .sc (.bool r1.2)], .agg (cNode n_0), strV path_1, strV name_2, .tup [strV r1.1, .sc (.bool r1.2)], strV r1.1, .sc (.bool r1.2), .sc (.bool r1.2), .sc (.bool (!r1.2)), strV r1.1, .bad, .bad, .bad] [.box 25 (cNode n_0)] (by kernel_rfl) ?_
    obtain ⟨r4, h5, h⟩ := Option.bind_eq_some_iff.1 h
    refine JS_upd (fun s => fcall E0 57 [strV r1.1] s) (by kernel_rfl) (ref13_AsText_C r1.1 _ _ h5) ?_
    refine JS_end [.agg (cNode n_0), strV path_1, strV name_2, .ref 0 0 0, .bad, .bad, strV r4.1, .sc (.bool r4.2), strV r1.1, .sc (.bool r1.2), .tup [strV r1.1, .sc (.bool r1.2)], .agg (cNode n_0), strV path_1, strV name_2, .tup [strV r1.1, .sc (.bool r1.2)], strV r1.1, .sc (.bool r1.2), .sc (.bool r1.2), .sc (.bool (!r1.2)), strV r1.1, .tup [strV r4.1, .sc (.bool r4.2)], strV r4.1, .sc (.bool r4.2)] [.box 25 (cNode n_0)] (by kernel_rfl) ?_
    refine JK_sq ?_
    refine J_ret ?_
    refine JK_nil ?_
    obtain rfl := Option.some.inj h
    exact ret_A (r := .tup [strV r4.1, .sc (.bool r4.2)]) (r' := .tup [strV r4.1, .sc (.bool r4.2)]) (.inl rfl) (by kernel_rfl) (fTup (fC (by kernel_rfl) (fC (by kernel_rfl) fN))) (pTup (pC rfl (pC rfl pN))) ⟨by kernel_rfl, rfl⟩

end Go.Proofs.YticlelmlnadclaaDoor
