/-
  What the evaluator's calls come to. Printed by program. No condition.
-/
import Derived.Test.YticlelmlnadclaaDoorKQ
set_option linter.unusedVariables false
set_option linter.unusedSimpArgs false
set_option linter.unusedSectionVars false
set_option linter.unnecessarySimpa false
set_option linter.deprecated false
namespace Go.Proofs.YticlelmlnadclaaDoor
open Go.P
open Go Go.Abs

set_option maxRecDepth 100000
set_option maxHeartbeats 4000000

theorem strings_Split_C (s sep : Str) (r : List Str) (st : Store) (h : strings_Split s sep = some r) : fcall E0 61 [strV s, strV sep] st = some (tS.sl r, st) := split_C rfl s sep r h

theorem strings_Join_C (l : List Str) (sep r : Str) (st : Store) (h : strings_Join l sep = some r) : fcall E0 63 [tS.sl l, strV sep] st = some (strV r, st) := join_C rfl l sep r h

theorem strings_Contains_C (s sep : Str) (r : Bool) (st : Store) (h : strings_Contains s sep = some r) : fcall E0 91 [strV s, strV sep] st = some ((vB r), st) := contains_C rfl s sep r h

theorem strings_Cut_C (s sep : Str) (r : Str × Str × Bool) (st : Store) (h : strings_Cut s sep = some r) : fcall E0 106 [strV s, strV sep] st = some (.tup [strV r.1, strV r.2.1, .sc (.bool r.2.2)], st) := cut_C rfl s sep r h

theorem ref12_low_b_C (rec_ : GNode → Int → Option Bool) (hrec_ : ∀ (n_0 : GNode) (levels_1 : Int) (r : Bool) (st : Store), rec_ n_0 levels_1 = some r → fcall E0 46 [.agg (cNode n_0), (vI levels_1)] st = some ((vB r), st)) (n_0 : GNode) (levels_1 : Int) (r : Bool) (st : Store) (h : ref12_low_b rec_ n_0 levels_1 = some r) : fcall E0 46 [.agg (cNode n_0), (vI levels_1)] st = some ((vB r), st) := by
  unfold ref12_low_b at h
  refine fn_alone (fn := Tryd.f46) (av' := [.agg (cNode n_0), (vI levels_1), .bad, .bad, .bad, .bad, .bad, .bad, .bad, .bad, .bad, .bad, .bad, .bad, .bad, .bad, .bad, .bad, .bad, .bad, .bad, .bad, .bad, .bad, .bad, .bad, .bad, .bad, .bad, .bad, .bad, .bad, .bad, .bad, .bad, .bad, .bad, .bad, .bad, .bad, .bad, .bad, .bad, .bad, .bad, .bad, .bad, .bad, .bad, .bad, .bad, .bad, .bad, .bad, .bad, .bad, .bad, .bad, .bad, .bad, .bad, .bad, .bad, .bad, .bad, .bad, .bad, .bad]) rfl fn_46 rfl (pC (pAgg (pC rfl (pC (sl_pure tProp _) (pC (sl_pure tNode _) pN)))) (pC rfl pN)) rfl rfl rfl (has_go (as1 := [.agg (cNode n_0), (vI levels_1)]) (lC (sAgg (lC (by kernel_rfl) (lC (sl_scrub tProp _ _) (lC (sl_scrub tNode _ _) lN)))) (lC (by kernel_rfl) lN)) (by kernel_rfl)) ?_
  refine J_seq ?_
  refine J_region ?_
  refine JS_end [.agg (cNode n_0), (vI levels_1), .ref 0 0 0, .bad, (vB false), .bad, .bad, .bad, .bad, .bad, .bad, .bad, .bad, .bad, .bad, .bad, .bad, .bad, .bad, .bad, .bad, .bad, .bad, .bad, .bad, .bad, .bad, .bad, .bad, .bad, .bad, .bad, .bad, .bad, .bad, .bad, .bad, .bad, .bad, .bad, .bad, .bad, .bad, .bad, .bad, .bad, .bad, .bad, .bad, .bad, .bad, .bad, .bad, .bad, .bad, .bad, .bad, .bad, .bad, .bad, .bad, .bad, .bad, .bad, .bad, .bad, .bad, .bad] [.box 25 (cNode n_0)] (by kernel_rfl) ?_
  refine JK_sq ?_
  refine J_seq ?_
  refine J_seq ?_
  refine J_region ?_
  refine JS_seg 3 [.agg (cNode n_0), (vI levels_1), .ref 0 0 0, .bad, (vB false), .bad, .bad, (vI levels_1), .sc (.bool (levels_1 == 0)), .sc (.bool (levels_1 == 0)), .bad, .bad, .bad, .bad, .bad, .bad, .bad, .bad, .bad, .bad, .bad, .bad, .bad, .bad, .bad, .bad, .bad, .bad, .bad, .bad, .bad, .bad, .bad, .bad, .bad, .bad, .bad, .bad, .bad, .bad, .bad, .bad, .bad, .bad, .bad, .bad, .bad, .bad, .bad, .bad, .bad, .bad, .bad, .bad, .bad, .bad, .bad, .bad, .bad, .bad, .bad, .bad, .bad, .bad, .bad, .bad, .bad, .bad] [.box 25 (cNode n_0)] (by kernel_rfl) ?_
  rcases bool_cases (levels_1 == 0) with h1 | h1
  · rw [if_pos h1] at h
    refine JS_cast (tm' := [.agg (cNode n_0), (vI levels_1), .ref 0 0 0, .bad, (vB false), .bad, .bad, (vI levels_1), (vB true), (vB true), .bad, .bad, .bad, .bad, .bad, .bad, .bad, .bad, .bad, .bad, .bad, .bad, .bad, .bad, .bad, .bad, .bad, .bad, .bad, .bad, .bad, .bad, .bad, .bad, .bad, .bad, .bad, .bad, .bad, .bad, .bad, .bad, .bad, .bad, .bad, .bad, .bad, .bad, .bad, .bad, .bad, .bad, .bad, .bad, .bad, .bad, .bad, .bad, .bad, .bad, .bad, .bad, .bad, .bad, .bad, .bad, .bad, .bad]) (by rw [h1]) rfl ?_
    refine JS_end [.agg (cNode n_0), (vI levels_1), .ref 0 0 0, .bad, (vB false), .bad, .bad, (vI levels_1), (vB true), (vB true), .tup [], .tup [], .tup [], .tup [], (vB true), (vB true), .tup [], .tup [], .tup [], .tup [], (vB true), (vB true), .tup [], .tup [], .tup [], .tup [], (vB true), .bad, .bad, .bad, .bad, .bad, .bad, .bad, .bad, .bad, .bad, .bad, .bad, .bad, .bad, .bad, .bad, .bad, .bad, .bad, .bad, .bad, .bad, .bad, .bad, .bad, .bad, .bad, .bad, .bad, .bad, .bad, .bad, .bad, .bad, .bad, .bad, .bad, .bad, .bad, .bad, .bad] [.box 25 (cNode n_0)] (by kernel_rfl) ?_
    refine JK_sq ?_
    refine J_condT (v := true) (by kernel_rfl) rfl ?_
    refine J_seq ?_
    refine J_region ?_
    refine JS_end [.agg (cNode n_0), (vI levels_1), .ref 0 0 0, .bad, (vB false), .bad, .bad, (vI levels_1), (vB true), (vB true), .tup [], .tup [], .tup [], .tup [], (vB true), (vB true), .tup [], .tup [], .tup [], .tup [], (vB true), (vB true), .tup [], .tup [], .tup [], .tup [], (vB true), .bad, .bad, .bad, .bad, .bad, .bad, .bad, .bad, .bad, .bad, .bad, .bad, .bad, .bad, .bad, .bad, .bad, .bad, .bad, .bad, .bad, .bad, .bad, .bad, .bad, .bad, .bad, .bad, .bad, .bad, .bad, .bad, .bad, .bad, .bad, .bad, .bad, .bad, .bad, .bad, .bad] [.box 25 (cNode n_0)] (by kernel_rfl) ?_
    refine JK_sq ?_
    refine J_ret ?_
    refine JK_sq_ret ?_
    refine JK_nil ?_
    obtain rfl := Option.some.inj h
    exact ret_A (r := (vB false)) (r' := (vB false)) (.inl rfl) (by kernel_rfl) (by kernel_rfl) rfl ⟨by kernel_rfl, rfl⟩
  · rw [if_neg (ne_true h1)] at h
    refine JS_cast (tm' := [.agg (cNode n_0), (vI levels_1), .ref 0 0 0, .bad, (vB false), .bad, .bad, (vI levels_1), (vB false), (vB false), .bad, .bad, .bad, .bad, .bad, .bad, .bad, .bad, .bad, .bad, .bad, .bad, .bad, .bad, .bad, .bad, .bad, .bad, .bad, .bad, .bad, .bad, .bad, .bad, .bad, .bad, .bad, .bad, .bad, .bad, .bad, .bad, .bad, .bad, .bad, .bad, .bad, .bad, .bad, .bad, .bad, .bad, .bad, .bad, .bad, .bad, .bad, .bad, .bad, .bad, .bad, .bad, .bad, .bad, .bad, .bad, .bad, .bad]) (by rw [h1]) rfl ?_
    refine JS_seg 9 [.agg (cNode n_0), (vI levels_1), .ref 0 0 0, .bad, (vB false), .bad, .bad, (vI levels_1), (vB false), (vB false), .ref 0 0 0, strV n_0.name, .sc (.int .i64 (n_0.name.length : Int)), .sc (.bool (decide ((n_0.name.length : Int) > 100))), .sc (.bool (decide ((n_0.name.length : Int) > 100))), .sc (.bool (decide ((n_0.name.length : Int) > 100))), .bad, .bad, .bad, .bad, .bad, .bad, .bad, .bad, .bad, .bad, .bad, .bad, .bad, .bad, .bad, .bad, .bad, .bad, .bad, .bad, .bad, .bad, .bad, .bad, .bad, .bad, .bad, .bad, .bad, .bad, .bad, .bad, .bad, .bad, .bad, .bad, .bad, .bad, .bad, .bad, .bad, .bad, .bad, .bad, .bad, .bad, .bad, .bad, .bad, .bad, .bad, .bad] [.box 25 (cNode n_0)] (by kernel_rfl) ?_
    rcases bool_cases (decide ((n_0.name.length : Int) > 100)) with h2 | h2
    · rw [if_pos h2] at h
      refine JS_cast (tm' := [.agg (cNode n_0), (vI levels_1), .ref 0 0 0, .bad, (vB false), .bad, .bad, (vI levels_1), (vB false), (vB false), .ref 0 0 0, strV n_0.name, .sc (.int .i64 (n_0.name.length : Int)), (vB true), (vB true), (vB true), .bad, .bad, .bad, .bad, .bad, .bad, .bad, .bad, .bad, .bad, .bad, .bad, .bad, .bad, .bad, .bad, .bad, .bad, .bad, .bad, .bad, .bad, .bad, .bad, .bad, .bad, .bad, .bad, .bad, .bad, .bad, .bad, .bad, .bad, .bad, .bad, .bad, .bad, .bad, .bad, .bad, .bad, .bad, .bad, .bad, .bad, .bad, .bad, .bad, .bad, .bad, .bad]) (by rw [h2]) rfl ?_
      refine JS_end [.agg (cNode n_0), (vI levels_1), .ref 0 0 0, .bad, (vB false), .bad, .bad, (vI levels_1), (vB false), (vB false), .ref 0 0 0, strV n_0.name, .sc (.int .i64 (n_0.name.length : Int)), (vB true), (vB true), (vB true), .tup [], .tup [], .tup [], .tup [], (vB true), (vB true), .tup [], .tup [], .tup [], .tup [], (vB true), .bad, .bad, .bad, .bad, .bad, .bad, .bad, .bad, .bad, .bad, .bad, .bad, .bad, .bad, .bad, .bad, .bad, .bad, .bad, .bad, .bad, .bad, .bad, .bad, .bad, .bad, .bad, .bad, .bad, .bad, .bad, .bad, .bad, .bad, .bad, .bad, .bad, .bad, .bad, .bad, .bad] [.box 25 (cNode n_0)] (by kernel_rfl) ?_
      refine JK_sq ?_
      refine J_condT (v := true) (by kernel_rfl) rfl ?_
      refine J_seq ?_
      refine J_region ?_
      refine JS_end [.agg (cNode n_0), (vI levels_1), .ref 0 0 0, .bad, (vB false), .bad, .bad, (vI levels_1), (vB false), (vB false), .ref 0 0 0, strV n_0.name, .sc (.int .i64 (n_0.name.length : Int)), (vB true), (vB true), (vB true), .tup [], .tup [], .tup [], .tup [], (vB true), (vB true), .tup [], .tup [], .tup [], .tup [], (vB true), .bad, .bad, .bad, .bad, .bad, .bad, .bad, .bad, .bad, .bad, .bad, .bad, .bad, .bad, .bad, .bad, .bad, .bad, .bad, .bad, .bad, .bad, .bad, .bad, .bad, .bad, .bad, .bad, .bad, .bad, .bad, .bad, .bad, .bad, .bad, .bad, .bad, .bad, .bad, .bad, .bad] [.box 25 (cNode n_0)] (by kernel_rfl) ?_
      refine JK_sq ?_
      refine J_ret ?_
      refine JK_sq_ret ?_
      refine JK_nil ?_
      obtain rfl := Option.some.inj h
      exact ret_A (r := (vB false)) (r' := (vB false)) (.inl rfl) (by kernel_rfl) (by kernel_rfl) rfl ⟨by kernel_rfl, rfl⟩
    · rw [if_neg (ne_true h2)] at h
      refine JS_cast (tm' := [.agg (cNode n_0), (vI levels_1), .ref 0 0 0, .bad, (vB false), .bad, .bad, (vI levels_1), (vB false), (vB false), .ref 0 0 0, strV n_0.name, .sc (.int .i64 (n_0.name.length : Int)), (vB false), (vB false), (vB false), .bad, .bad, .bad, .bad, .bad, .bad, .bad, .bad, .bad, .bad, .bad, .bad, .bad, .bad, .bad, .bad, .bad, .bad, .bad, .bad, .bad, .bad, .bad, .bad, .bad, .bad, .bad, .bad, .bad, .bad, .bad, .bad, .bad, .bad, .bad, .bad, .bad, .bad, .bad, .bad, .bad, .bad, .bad, .bad, .bad, .bad, .bad, .bad, .bad, .bad, .bad, .bad]) (by rw [h2]) rfl ?_
      refine JS_seg 15 [.agg (cNode n_0), (vI levels_1), .ref 0 0 0, .bad, (vB false), .bad, .bad, (vI levels_1), (vB false), (vB false), .ref 0 0 0, strV n_0.name, .sc (.int .i64 (n_0.name.length : Int)), (vB false), (vB false), (vB false), .ref 0 0 1, Ty.sl tProp n_0.props, .sc (.int .i64 (n_0.props.length : Int)), .sc (.bool (decide ((n_0.props.length : Int) > 300))), .sc (.bool (decide ((n_0.props.length : Int) > 300))), .sc (.bool (decide ((n_0.props.length : Int) > 300))), .bad, .bad, .bad, .bad, .bad, .bad, .bad, .bad, .bad, .bad, .bad, .bad, .bad, .bad, .bad, .bad, .bad, .bad, .bad, .bad, .bad, .bad, .bad, .bad, .bad, .bad, .bad, .bad, .bad, .bad, .bad, .bad, .bad, .bad, .bad, .bad, .bad, .bad, .bad, .bad, .bad, .bad, .bad, .bad, .bad, .bad] [.box 25 (cNode n_0)] (by kernel_rfl) ?_
      rcases bool_cases (decide ((n_0.props.length : Int) > 300)) with h3 | h3
      · rw [if_pos h3] at h
        refine JS_cast (tm' := [.agg (cNode n_0), (vI levels_1), .ref 0 0 0, .bad, (vB false), .bad, .bad, (vI levels_1), (vB false), (vB false), .ref 0 0 0, strV n_0.name, .sc (.int .i64 (n_0.name.length : Int)), (vB false), (vB false), (vB false), .ref 0 0 1, Ty.sl tProp n_0.props, .sc (.int .i64 (n_0.props.length : Int)), (vB true), (vB true), (vB true), .bad, .bad, .bad, .bad, .bad, .bad, .bad, .bad, .bad, .bad, .bad, .bad, .bad, .bad, .bad, .bad, .bad, .bad, .bad, .bad, .bad, .bad, .bad, .bad, .bad, .bad, .bad, .bad, .bad, .bad, .bad, .bad, .bad, .bad, .bad, .bad, .bad, .bad, .bad, .bad, .bad, .bad, .bad, .bad, .bad, .bad]) (by rw [h3]) rfl ?_
        refine JS_end [.agg (cNode n_0), (vI levels_1), .ref 0 0 0, .bad, (vB false), .bad, .bad, (vI levels_1), (vB false), (vB false), .ref 0 0 0, strV n_0.name, .sc (.int .i64 (n_0.name.length : Int)), (vB false), (vB false), (vB false), .ref 0 0 1, Ty.sl tProp n_0.props, .sc (.int .i64 (n_0.props.length : Int)), (vB true), (vB true), (vB true), .tup [], .tup [], .tup [], .tup [], (vB true), .bad, .bad, .bad, .bad, .bad, .bad, .bad, .bad, .bad, .bad, .bad, .bad, .bad, .bad, .bad, .bad, .bad, .bad, .bad, .bad, .bad, .bad, .bad, .bad, .bad, .bad, .bad, .bad, .bad, .bad, .bad, .bad, .bad, .bad, .bad, .bad, .bad, .bad, .bad, .bad, .bad] [.box 25 (cNode n_0)] (by kernel_rfl) ?_
        refine JK_sq ?_
        refine J_condT (v := true) (by kernel_rfl) rfl ?_
        refine J_seq ?_
        refine J_region ?_
        refine JS_end [.agg (cNode n_0), (vI levels_1), .ref 0 0 0, .bad, (vB false), .bad, .bad, (vI levels_1), (vB false), (vB false), .ref 0 0 0, strV n_0.name, .sc (.int .i64 (n_0.name.length : Int)), (vB false), (vB false), (vB false), .ref 0 0 1, Ty.sl tProp n_0.props, .sc (.int .i64 (n_0.props.length : Int)), (vB true), (vB true), (vB true), .tup [], .tup [], .tup [], .tup [], (vB true), .bad, .bad, .bad, .bad, .bad, .bad, .bad, .bad, .bad, .bad, .bad, .bad, .bad, .bad, .bad, .bad, .bad, .bad, .bad, .bad, .bad, .bad, .bad, .bad, .bad, .bad, .bad, .bad, .bad, .bad, .bad, .bad, .bad, .bad, .bad, .bad, .bad, .bad, .bad, .bad, .bad] [.box 25 (cNode n_0)] (by kernel_rfl) ?_
        refine JK_sq ?_
        refine J_ret ?_
        refine JK_sq_ret ?_
        refine JK_nil ?_
        obtain rfl := Option.some.inj h
        exact ret_A (r := (vB false)) (r' := (vB false)) (.inl rfl) (by kernel_rfl) (by kernel_rfl) rfl ⟨by kernel_rfl, rfl⟩
      · rw [if_neg (ne_true h3)] at h
        refine JS_cast (tm' := [.agg (cNode n_0), (vI levels_1), .ref 0 0 0, .bad, (vB false), .bad, .bad, (vI levels_1), (vB false), (vB false), .ref 0 0 0, strV n_0.name, .sc (.int .i64 (n_0.name.length : Int)), (vB false), (vB false), (vB false), .ref 0 0 1, Ty.sl tProp n_0.props, .sc (.int .i64 (n_0.props.length : Int)), (vB false), (vB false), (vB false), .bad, .bad, .bad, .bad, .bad, .bad, .bad, .bad, .bad, .bad, .bad, .bad, .bad, .bad, .bad, .bad, .bad, .bad, .bad, .bad, .bad, .bad, .bad, .bad, .bad, .bad, .bad, .bad, .bad, .bad, .bad, .bad, .bad, .bad, .bad, .bad, .bad, .bad, .bad, .bad, .bad, .bad, .bad, .bad, .bad, .bad]) (by rw [h3]) rfl ?_
        refine JS_end [.agg (cNode n_0), (vI levels_1), .ref 0 0 0, .bad, (vB false), .bad, .bad, (vI levels_1), (vB false), (vB false), .ref 0 0 0, strV n_0.name, .sc (.int .i64 (n_0.name.length : Int)), (vB false), (vB false), (vB false), .ref 0 0 1, Ty.sl tProp n_0.props, .sc (.int .i64 (n_0.props.length : Int)), (vB false), (vB false), (vB false), .ref 0 0 2, Ty.sl tNode n_0.kids, .sc (.int .i64 (n_0.kids.length : Int)), .sc (.bool (decide ((n_0.kids.length : Int) > 80))), .sc (.bool (decide ((n_0.kids.length : Int) > 80))), .bad, .bad, .bad, .bad, .bad, .bad, .bad, .bad, .bad, .bad, .bad, .bad, .bad, .bad, .bad, .bad, .bad, .bad, .bad, .bad, .bad, .bad, .bad, .bad, .bad, .bad, .bad, .bad, .bad, .bad, .bad, .bad, .bad, .bad, .bad, .bad, .bad, .bad, .bad, .bad, .bad] [.box 25 (cNode n_0)] (by kernel_rfl) ?_
        refine JK_sq ?_
        rcases bool_cases (decide ((n_0.kids.length : Int) > 80)) with h4 | h4
        · rw [if_pos h4] at h
          refine J_condT (v := (decide ((n_0.kids.length : Int) > 80))) (by kernel_rfl) h4 ?_
          refine J_seq ?_
          refine J_region ?_
          refine JS_end [.agg (cNode n_0), (vI levels_1), .ref 0 0 0, .bad, (vB false), .bad, .bad, (vI levels_1), (vB false), (vB false), .ref 0 0 0, strV n_0.name, .sc (.int .i64 (n_0.name.length : Int)), (vB false), (vB false), (vB false), .ref 0 0 1, Ty.sl tProp n_0.props, .sc (.int .i64 (n_0.props.length : Int)), (vB false), (vB false), (vB false), .ref 0 0 2, Ty.sl tNode n_0.kids, .sc (.int .i64 (n_0.kids.length : Int)), .sc (.bool (decide ((n_0.kids.length : Int) > 80))), .sc (.bool (decide ((n_0.kids.length : Int) > 80))), .bad, .bad, .bad, .bad, .bad, .bad, .bad, .bad, .bad, .bad, .bad, .bad, .bad, .bad, .bad, .bad, .bad, .bad, .bad, .bad, .bad, .bad, .bad, .bad, .bad, .bad, .bad, .bad, .bad, .bad, .bad, .bad, .bad, .bad, .bad, .bad, .bad, .bad, .bad, .bad, .bad] [.box 25 (cNode n_0)] (by kernel_rfl) ?_
          refine JK_sq ?_
          refine J_ret ?_
          refine JK_sq_ret ?_
          refine JK_nil ?_
          obtain rfl := Option.some.inj h
          exact ret_A (r := (vB false)) (r' := (vB false)) (.inl rfl) (by kernel_rfl) (by kernel_rfl) rfl ⟨by kernel_rfl, rfl⟩
        · rw [if_neg (ne_true h4)] at h
          refine J_condF (v := (decide ((n_0.kids.length : Int) > 80))) (by kernel_rfl) h4 ?_
          refine J_skip ?_
          refine JK_sq ?_
          refine J_seq ?_
          refine J_seq ?_
          refine J_region ?_
          refine JS_end [.agg (cNode n_0), (vI levels_1), .ref 0 0 0, .bad, (vB false), (vI 0), .bad, (vI levels_1), (vB false), (vB false), .ref 0 0 0, strV n_0.name, .sc (.int .i64 (n_0.name.length : Int)), (vB false), (vB false), (vB false), .ref 0 0 1, Ty.sl tProp n_0.props, .sc (.int .i64 (n_0.props.length : Int)), (vB false), (vB false), (vB false), .ref 0 0 2, Ty.sl tNode n_0.kids, .sc (.int .i64 (n_0.kids.length : Int)), .sc (.bool (decide ((n_0.kids.length : Int) > 80))), .sc (.bool (decide ((n_0.kids.length : Int) > 80))), .bad, .bad, .bad, .bad, .bad, .bad, .bad, .bad, .bad, .bad, .bad, .bad, .bad, .bad, .bad, .bad, .bad, .bad, .bad, .bad, .bad, .bad, .bad, .bad, .bad, .bad, .bad, .bad, .bad, .bad, .bad, .bad, .bad, .bad, .bad, .bad, .bad, .bad, .bad, .bad, .bad] [.box 25 (cNode n_0)] (by kernel_rfl) ?_
          refine JK_sq ?_
          refine J_block ?_
          obtain ⟨r13, h14, h⟩ := Option.bind_eq_some_iff.1 h
          refine J_loop (γ := Unit) h14 1 [.agg (cNode n_0), (vI levels_1), .ref 0 0 0, .bad, (vB false), (vI 0), .bad, (vI levels_1), (vB false), (vB false), .ref 0 0 0, strV n_0.name, .sc (.int .i64 (n_0.name.length : Int)), (vB false), (vB false), (vB false), .ref 0 0 1, Ty.sl tProp n_0.props, .sc (.int .i64 (n_0.props.length : Int)), (vB false), (vB false), (vB false), .ref 0 0 2, Ty.sl tNode n_0.kids, .sc (.int .i64 (n_0.kids.length : Int)), .sc (.bool (decide ((n_0.kids.length : Int) > 80))), .sc (.bool (decide ((n_0.kids.length : Int) > 80))), .bad, .bad, .bad, .bad, .bad, .bad, .bad, .bad, .bad, .bad, .bad, .bad, .bad, .bad, .bad, .bad, .bad, .bad, .bad, .bad, .bad, .bad, .bad, .bad, .bad, .bad, .bad, .bad, .bad, .bad, .bad, .bad, .bad, .bad, .bad, .bad, .bad, .bad, .bad, .bad, .bad] [.box 25 (cNode n_0)] (fun s g => [.bad, (vI levels_1), .ref 0 0 0, .bad, .bad, (vI s), .bad, .bad, .bad, .bad, .bad, .bad, .bad, .bad, .bad, .bad, .bad, .bad, .bad, .bad, .bad, .bad, .bad, .bad, .bad, .bad, .bad, .bad, .bad, .bad, .bad, .bad, .bad, .bad, .bad, .bad, .bad, .bad, .bad, .bad, .bad, .bad, .bad, .bad, .bad, .bad, .bad, .bad, .bad, .bad, .bad, .bad, .bad, .bad, .bad, .bad, .bad, .bad, .bad, .bad, .bad, .bad, .bad, .bad, .bad, .bad, .bad, .bad]) (fun s g => [.box 25 (cNode n_0)]) (fun r g => match r with | (.inl r) => (.exit 0, [.bad, (vI levels_1), .ref 0 0 0, .bad, .bad, .bad, .bad, .bad, .bad, .bad, .bad, .bad, .bad, .bad, .bad, .bad, .bad, .bad, .bad, .bad, .bad, .bad, .bad, .bad, .bad, .bad, .bad, .bad, .bad, .bad, .bad, .bad, .bad, .bad, .bad, .bad, .bad, .bad, .bad, .bad, .bad, .bad, .bad, .bad, .bad, .bad, .bad, .bad, .bad, .bad, .bad, .bad, .bad, .bad, .bad, .bad, .bad, .bad, .bad, .bad, .bad, .bad, .bad, .bad, .bad, .bad, .bad, .bad], [.box 25 (cNode n_0)]) | (.inr r) => (.ret, [.bad, (vI levels_1), .ref 0 0 0, .bad, (vB false), .bad, .bad, .bad, .bad, .bad, .bad, .bad, .bad, .bad, .bad, .bad, .bad, .bad, .bad, .bad, .bad, .bad, .bad, .bad, .bad, .bad, .bad, .bad, .bad, .bad, .bad, .bad, .bad, .bad, .bad, .bad, .bad, .bad, .bad, .bad, .bad, .bad, .bad, .bad, .bad, .bad, .bad, .bad, .bad, .bad, .bad, .bad, .bad, .bad, .bad, .bad, .bad, .bad, .bad, .bad, .bad, .bad, .bad, .bad, .bad, .bad, .bad, .bad], [.box 25 (cNode n_0)])) () (by kernel_rfl) (by kernel_rfl) (kill_go (mid := [.bad, (vI levels_1), .ref 0 0 0, .bad, .bad, (vI 0), .bad, .bad, .bad, .bad, .bad, .bad, .bad, .bad, .bad, .bad, .bad, .bad, .bad, .bad, .bad, .bad, .bad, .bad, .bad, .bad, .bad, .bad, .bad, .bad, .bad, .bad, .bad, .bad, .bad, .bad, .bad, .bad, .bad, .bad, .bad, .bad, .bad, .bad, .bad, .bad, .bad, .bad, .bad, .bad, .bad, .bad, .bad, .bad, .bad, .bad, .bad, .bad, .bad, .bad, .bad, .bad, .bad, .bad, .bad, .bad, .bad, .bad]) (by kernel_rfl) (mB (mC (by kernel_rfl) (mC (by kernel_rfl) (mB (mB (mC (by kernel_rfl) (mB (mB (mB (mB (mB (mB (mB (mB (mB (mB (mB (mB (mB (mB (mB (mB (mB (mB (mB (mB (mB (mB (mB (mB (mB (mB (mB (mB (mB (mB (mB (mB (mB (mB (mB (mB (mB (mB (mB (mB (mB (mB (mB (mB (mB (mB (mB (mB (mB (mB (mB (mB (mB (mB (mB (mB (mB (mB (mB (mB (mB (mB mN))))))))))))))))))))))))))))))))))))))))))))))))))))))))))))))))))))) (cut_go (mid := [.box 25 (cNode n_0)]) (by kernel_rfl) (oC (oB (lC (by kernel_rfl) (lC (sl_scrub tProp _ _) (lC (sl_scrub tNode _ _) lN)))) oN)) ?_ ?_
          · rintro v5 _ y h
            unfold ref12_low_l1 at h
            refine J_seq ?_
            refine J_seq ?_
            refine J_region ?_
            refine JS_end [.bad, (vI levels_1), .ref 0 0 0, .bad, .bad, (vI v5), .bad, .bad, .bad, .bad, .bad, .bad, .bad, .bad, .bad, .bad, .bad, .bad, .bad, .bad, .bad, .bad, .bad, .bad, .bad, .bad, .bad, (vI v5), .ref 0 0 1, Ty.sl tProp n_0.props, .sc (.int .i64 (n_0.props.length : Int)), .sc (.bool (decide (v5 < (n_0.props.length : Int)))), .bad, .bad, .bad, .bad, .bad, .bad, .bad, .bad, .bad, .bad, .bad, .bad, .bad, .bad, .bad, .bad, .bad, .bad, .bad, .bad, .bad, .bad, .bad, .bad, .bad, .bad, .bad, .bad, .bad, .bad, .bad, .bad, .bad, .bad, .bad, .bad] [.box 25 (cNode n_0)] (by kernel_rfl) ?_
            refine JK_sq ?_
            rcases bool_cases (decide (v5 < (n_0.props.length : Int))) with h6 | h6
            · rw [if_pos h6] at h
              refine J_condT (v := (decide (v5 < (n_0.props.length : Int)))) (by kernel_rfl) h6 ?_
              refine J_skip ?_
              refine JK_sq ?_
              refine J_seq ?_
              refine J_block ?_
              refine J_seq ?_
              refine J_region ?_
              refine JS_seg 3 [.bad, (vI levels_1), .ref 0 0 0, .bad, .bad, (vI v5), .bad, .bad, .bad, .bad, .bad, .bad, .bad, .bad, .bad, .bad, .bad, .bad, .bad, .bad, .bad, .bad, .bad, .bad, .bad, .bad, .bad, (vI v5), .ref 0 0 1, Ty.sl tProp n_0.props, .sc (.int .i64 (n_0.props.length : Int)), .sc (.bool (decide (v5 < (n_0.props.length : Int)))), .bad, .bad, .ref 0 0 1, Ty.sl tProp n_0.props, (vI v5), .bad, .bad, .bad, .bad, .bad, .bad, .bad, .bad, .bad, .bad, .bad, .bad, .bad, .bad, .bad, .bad, .bad, .bad, .bad, .bad, .bad, .bad, .bad, .bad, .bad, .bad, .bad, .bad, .bad, .bad, .bad] [.box 25 (cNode n_0)] (by kernel_rfl) ?_
              obtain ⟨x7, h8, h⟩ := Option.bind_eq_some_iff.1 h
              refine JS_val (fun s => aindexAddr E0.tb s 22 (Ty.sl tProp n_0.props) ((vI v5))) (by kernel_rfl) (sl_addr tProp tb_22 rfl tb_78 rfl h8) ?_
              refine JS_seg 5 [.bad, (vI levels_1), .ref 0 0 0, .bad, .bad, (vI v5), .bad, .bad, .bad, .bad, .bad, .bad, .bad, .bad, .bad, .bad, .bad, .bad, .bad, .bad, .bad, .bad, .bad, .bad, .bad, .bad, .bad, (vI v5), .ref 0 0 1, Ty.sl tProp n_0.props, .sc (.int .i64 (n_0.props.length : Int)), .sc (.bool (decide (v5 < (n_0.props.length : Int)))), .bad, .bad, .ref 0 0 1, Ty.sl tProp n_0.props, (vI v5), .fp (List.flatMap (Ty.cells tProp) n_0.props) (v5.toNat * Ty.size tProp), .fp (List.flatMap (Ty.cells tProp) n_0.props) (v5.toNat * Ty.size tProp + 0), .bad, .bad, .bad, .bad, .bad, .bad, .bad, .bad, .bad, .bad, .bad, .bad, .bad, .bad, .bad, .bad, .bad, .bad, .bad, .bad, .bad, .bad, .bad, .bad, .bad, .bad, .bad, .bad, .bad] [.box 25 (cNode n_0)] (by kernel_rfl) ?_
              refine JS_val (fun s => aload E0.tb s 9 (.fp (List.flatMap (Ty.cells tProp) n_0.props) (v5.toNat * Ty.size tProp + 0))) (by kernel_rfl) (fp_load1 tProp (o := 0) tb_9 rfl h8 (by rw [tProp_cells]; rfl)) ?_
              refine JS_seg 9 [.bad, (vI levels_1), .ref 0 0 0, .bad, .bad, (vI v5), .bad, .bad, .bad, .bad, .bad, .bad, .bad, .bad, .bad, .bad, .bad, .bad, .bad, .bad, .bad, .bad, .bad, .bad, .bad, .bad, .bad, (vI v5), .ref 0 0 1, Ty.sl tProp n_0.props, .sc (.int .i64 (n_0.props.length : Int)), .sc (.bool (decide (v5 < (n_0.props.length : Int)))), .bad, .bad, .ref 0 0 1, Ty.sl tProp n_0.props, (vI v5), .fp (List.flatMap (Ty.cells tProp) n_0.props) (v5.toNat * Ty.size tProp), .fp (List.flatMap (Ty.cells tProp) n_0.props) (v5.toNat * Ty.size tProp + 0), strV x7.name, .sc (.int .i64 (x7.name.length : Int)), .sc (.bool (decide ((x7.name.length : Int) > 100))), .sc (.bool (decide ((x7.name.length : Int) > 100))), .bad, .bad, .bad, .bad, .bad, .bad, .bad, .bad, .bad, .bad, .bad, .bad, .bad, .bad, .bad, .bad, .bad, .bad, .bad, .bad, .bad, .bad, .bad, .bad, .bad] [.box 25 (cNode n_0)] (by kernel_rfl) ?_
              rcases bool_cases (decide ((x7.name.length : Int) > 100)) with h9 | h9
              · rw [if_pos h9] at h
                refine JS_cast (tm' := [.bad, (vI levels_1), .ref 0 0 0, .bad, .bad, (vI v5), .bad, .bad, .bad, .bad, .bad, .bad, .bad, .bad, .bad, .bad, .bad, .bad, .bad, .bad, .bad, .bad, .bad, .bad, .bad, .bad, .bad, (vI v5), .ref 0 0 1, Ty.sl tProp n_0.props, .sc (.int .i64 (n_0.props.length : Int)), .sc (.bool (decide (v5 < (n_0.props.length : Int)))), .bad, .bad, .ref 0 0 1, Ty.sl tProp n_0.props, (vI v5), .fp (List.flatMap (Ty.cells tProp) n_0.props) (v5.toNat * Ty.size tProp), .fp (List.flatMap (Ty.cells tProp) n_0.props) (v5.toNat * Ty.size tProp + 0), strV x7.name, .sc (.int .i64 (x7.name.length : Int)), (vB true), (vB true), .bad, .bad, .bad, .bad, .bad, .bad, .bad, .bad, .bad, .bad, .bad, .bad, .bad, .bad, .bad, .bad, .bad, .bad, .bad, .bad, .bad, .bad, .bad, .bad, .bad]) (by rw [h9]) rfl ?_
                refine JS_end [.bad, (vI levels_1), .ref 0 0 0, .bad, .bad, (vI v5), .bad, .bad, .bad, .bad, .bad, .bad, .bad, .bad, .bad, .bad, .bad, .bad, .bad, .bad, .bad, .bad, .bad, .bad, .bad, .bad, .bad, (vI v5), .ref 0 0 1, Ty.sl tProp n_0.props, .sc (.int .i64 (n_0.props.length : Int)), .sc (.bool (decide (v5 < (n_0.props.length : Int)))), .bad, .bad, .ref 0 0 1, Ty.sl tProp n_0.props, (vI v5), .fp (List.flatMap (Ty.cells tProp) n_0.props) (v5.toNat * Ty.size tProp), .fp (List.flatMap (Ty.cells tProp) n_0.props) (v5.toNat * Ty.size tProp + 0), strV x7.name, .sc (.int .i64 (x7.name.length : Int)), (vB true), (vB true), .tup [], .tup [], .tup [], .tup [], .tup [], .tup [], .tup [], .tup [], (vB true), .bad, .bad, .bad, .bad, .bad, .bad, .bad, .bad, .bad, .bad, .bad, .bad, .bad, .bad, .bad, .bad] [.box 25 (cNode n_0)] (by kernel_rfl) ?_
                refine JK_sq ?_
                refine J_condT (v := true) (by kernel_rfl) rfl ?_
                refine J_seq ?_
                refine J_region ?_
                refine JS_end [.bad, (vI levels_1), .ref 0 0 0, .bad, (vB false), (vI v5), .bad, .bad, .bad, .bad, .bad, .bad, .bad, .bad, .bad, .bad, .bad, .bad, .bad, .bad, .bad, .bad, .bad, .bad, .bad, .bad, .bad, (vI v5), .ref 0 0 1, Ty.sl tProp n_0.props, .sc (.int .i64 (n_0.props.length : Int)), .sc (.bool (decide (v5 < (n_0.props.length : Int)))), .bad, .bad, .ref 0 0 1, Ty.sl tProp n_0.props, (vI v5), .fp (List.flatMap (Ty.cells tProp) n_0.props) (v5.toNat * Ty.size tProp), .fp (List.flatMap (Ty.cells tProp) n_0.props) (v5.toNat * Ty.size tProp + 0), strV x7.name, .sc (.int .i64 (x7.name.length : Int)), (vB true), (vB true), .tup [], .tup [], .tup [], .tup [], .tup [], .tup [], .tup [], .tup [], (vB true), .bad, .bad, .bad, .bad, .bad, .bad, .bad, .bad, .bad, .bad, .bad, .bad, .bad, .bad, .bad, .bad] [.box 25 (cNode n_0)] (by kernel_rfl) ?_
                refine JK_sq ?_
                refine J_ret ?_
                refine JK_bl_ret ?_
                refine JK_sq_ret ?_
                refine JK_nil ?_
                obtain rfl := Option.some.inj h
                exact turn_ret (tm' := [.bad, (vI levels_1), .ref 0 0 0, .bad, (vB false), .bad, .bad, .bad, .bad, .bad, .bad, .bad, .bad, .bad, .bad, .bad, .bad, .bad, .bad, .bad, .bad, .bad, .bad, .bad, .bad, .bad, .bad, .bad, .bad, .bad, .bad, .bad, .bad, .bad, .bad, .bad, .bad, .bad, .bad, .bad, .bad, .bad, .bad, .bad, .bad, .bad, .bad, .bad, .bad, .bad, .bad, .bad, .bad, .bad, .bad, .bad, .bad, .bad, .bad, .bad, .bad, .bad, .bad, .bad, .bad, .bad, .bad, .bad]) (st' := [.box 25 (cNode n_0)]) () (kill_go (mid := [.bad, (vI levels_1), .ref 0 0 0, .bad, (vB false), .bad, .bad, .bad, .bad, .bad, .bad, .bad, .bad, .bad, .bad, .bad, .bad, .bad, .bad, .bad, .bad, .bad, .bad, .bad, .bad, .bad, .bad, .bad, .bad, .bad, .bad, .bad, .bad, .bad, .bad, .bad, .bad, .bad, .bad, .bad, .bad, .bad, .bad, .bad, .bad, .bad, .bad, .bad, .bad, .bad, .bad, .bad, .bad, .bad, .bad, .bad, .bad, .bad, .bad, .bad, .bad, .bad, .bad, .bad, .bad, .bad, .bad, .bad]) (by kernel_rfl) (mB (mC (by kernel_rfl) (mC (by kernel_rfl) (mB (mC (by kernel_rfl) (mB (mB (mB (mB (mB (mB (mB (mB (mB (mB (mB (mB (mB (mB (mB (mB (mB (mB (mB (mB (mB (mB (mB (mB (mB (mB (mB (mB (mB (mB (mB (mB (mB (mB (mB (mB (mB (mB (mB (mB (mB (mB (mB (mB (mB (mB (mB (mB (mB (mB (mB (mB (mB (mB (mB (mB (mB (mB (mB (mB (mB (mB (mB mN))))))))))))))))))))))))))))))))))))))))))))))))))))))))))))))))))))) (cut_go (mid := [.box 25 (cNode n_0)]) (by kernel_rfl) (oC (oB (lC (by kernel_rfl) (lC (sl_scrub tProp _ _) (lC (sl_scrub tNode _ _) lN)))) oN)) (by kernel_rfl)
              · rw [if_neg (ne_true h9)] at h
                refine JS_cast (tm' := [.bad, (vI levels_1), .ref 0 0 0, .bad, .bad, (vI v5), .bad, .bad, .bad, .bad, .bad, .bad, .bad, .bad, .bad, .bad, .bad, .bad, .bad, .bad, .bad, .bad, .bad, .bad, .bad, .bad, .bad, (vI v5), .ref 0 0 1, Ty.sl tProp n_0.props, .sc (.int .i64 (n_0.props.length : Int)), .sc (.bool (decide (v5 < (n_0.props.length : Int)))), .bad, .bad, .ref 0 0 1, Ty.sl tProp n_0.props, (vI v5), .fp (List.flatMap (Ty.cells tProp) n_0.props) (v5.toNat * Ty.size tProp), .fp (List.flatMap (Ty.cells tProp) n_0.props) (v5.toNat * Ty.size tProp + 0), strV x7.name, .sc (.int .i64 (x7.name.length : Int)), (vB false), (vB false), .bad, .bad, .bad, .bad, .bad, .bad, .bad, .bad, .bad, .bad, .bad, .bad, .bad, .bad, .bad, .bad, .bad, .bad, .bad, .bad, .bad, .bad, .bad, .bad, .bad]) (by rw [h9]) rfl ?_
                refine JS_seg 12 [.bad, (vI levels_1), .ref 0 0 0, .bad, .bad, (vI v5), .bad, .bad, .bad, .bad, .bad, .bad, .bad, .bad, .bad, .bad, .bad, .bad, .bad, .bad, .bad, .bad, .bad, .bad, .bad, .bad, .bad, (vI v5), .ref 0 0 1, Ty.sl tProp n_0.props, .sc (.int .i64 (n_0.props.length : Int)), .sc (.bool (decide (v5 < (n_0.props.length : Int)))), .bad, .bad, .ref 0 0 1, Ty.sl tProp n_0.props, (vI v5), .fp (List.flatMap (Ty.cells tProp) n_0.props) (v5.toNat * Ty.size tProp), .fp (List.flatMap (Ty.cells tProp) n_0.props) (v5.toNat * Ty.size tProp + 0), strV x7.name, .sc (.int .i64 (x7.name.length : Int)), (vB false), (vB false), .ref 0 0 1, Ty.sl tProp n_0.props, (vI v5), .bad, .bad, .bad, .bad, .bad, .bad, .bad, .bad, .bad, .bad, .bad, .bad, .bad, .bad, .bad, .bad, .bad, .bad, .bad, .bad, .bad, .bad] [.box 25 (cNode n_0)] (by kernel_rfl) ?_
                obtain ⟨x10, h11, h⟩ := Option.bind_eq_some_iff.1 h
                refine JS_val (fun s => aindexAddr E0.tb s 22 (Ty.sl tProp n_0.props) ((vI v5))) (by kernel_rfl) (sl_addr tProp tb_22 rfl tb_78 rfl h11) ?_
                refine JS_seg 14 [.bad, (vI levels_1), .ref 0 0 0, .bad, .bad, (vI v5), .bad, .bad, .bad, .bad, .bad, .bad, .bad, .bad, .bad, .bad, .bad, .bad, .bad, .bad, .bad, .bad, .bad, .bad, .bad, .bad, .bad, (vI v5), .ref 0 0 1, Ty.sl tProp n_0.props, .sc (.int .i64 (n_0.props.length : Int)), .sc (.bool (decide (v5 < (n_0.props.length : Int)))), .bad, .bad, .ref 0 0 1, Ty.sl tProp n_0.props, (vI v5), .fp (List.flatMap (Ty.cells tProp) n_0.props) (v5.toNat * Ty.size tProp), .fp (List.flatMap (Ty.cells tProp) n_0.props) (v5.toNat * Ty.size tProp + 0), strV x7.name, .sc (.int .i64 (x7.name.length : Int)), (vB false), (vB false), .ref 0 0 1, Ty.sl tProp n_0.props, (vI v5), .fp (List.flatMap (Ty.cells tProp) n_0.props) (v5.toNat * Ty.size tProp), .fp (List.flatMap (Ty.cells tProp) n_0.props) (v5.toNat * Ty.size tProp + 1), .bad, .bad, .bad, .bad, .bad, .bad, .bad, .bad, .bad, .bad, .bad, .bad, .bad, .bad, .bad, .bad, .bad, .bad, .bad, .bad] [.box 25 (cNode n_0)] (by kernel_rfl) ?_
                refine JS_val (fun s => aload E0.tb s 9 (.fp (List.flatMap (Ty.cells tProp) n_0.props) (v5.toNat * Ty.size tProp + 1))) (by kernel_rfl) (fp_load1 tProp (o := 1) tb_9 rfl h11 (by rw [tProp_cells]; rfl)) ?_
                refine JS_end [.bad, (vI levels_1), .ref 0 0 0, .bad, .bad, (vI v5), .bad, .bad, .bad, .bad, .bad, .bad, .bad, .bad, .bad, .bad, .bad, .bad, .bad, .bad, .bad, .bad, .bad, .bad, .bad, .bad, .bad, (vI v5), .ref 0 0 1, Ty.sl tProp n_0.props, .sc (.int .i64 (n_0.props.length : Int)), .sc (.bool (decide (v5 < (n_0.props.length : Int)))), .bad, .bad, .ref 0 0 1, Ty.sl tProp n_0.props, (vI v5), .fp (List.flatMap (Ty.cells tProp) n_0.props) (v5.toNat * Ty.size tProp), .fp (List.flatMap (Ty.cells tProp) n_0.props) (v5.toNat * Ty.size tProp + 0), strV x7.name, .sc (.int .i64 (x7.name.length : Int)), (vB false), (vB false), .ref 0 0 1, Ty.sl tProp n_0.props, (vI v5), .fp (List.flatMap (Ty.cells tProp) n_0.props) (v5.toNat * Ty.size tProp), .fp (List.flatMap (Ty.cells tProp) n_0.props) (v5.toNat * Ty.size tProp + 1), strV x10.value, .sc (.int .i64 (x10.value.length : Int)), .sc (.bool (decide ((x10.value.length : Int) > 300))), .sc (.bool (decide ((x10.value.length : Int) > 300))), .bad, .bad, .bad, .bad, .bad, .bad, .bad, .bad, .bad, .bad, .bad, .bad, .bad, .bad, .bad, .bad] [.box 25 (cNode n_0)] (by kernel_rfl) ?_
                refine JK_sq ?_
                rcases bool_cases (decide ((x10.value.length : Int) > 300)) with h12 | h12
                · rw [if_pos h12] at h
                  refine J_condT (v := (decide ((x10.value.length : Int) > 300))) (by kernel_rfl) h12 ?_
                  refine J_seq ?_
                  refine J_region ?_
                  refine JS_end [.bad, (vI levels_1), .ref 0 0 0, .bad, (vB false), (vI v5), .bad, .bad, .bad, .bad, .bad, .bad, .bad, .bad, .bad, .bad, .bad, .bad, .bad, .bad, .bad, .bad, .bad, .bad, .bad, .bad, .bad, (vI v5), .ref 0 0 1, Ty.sl tProp n_0.props, .sc (.int .i64 (n_0.props.length : Int)), .sc (.bool (decide (v5 < (n_0.props.length : Int)))), .bad, .bad, .ref 0 0 1, Ty.sl tProp n_0.props, (vI v5), .fp (List.flatMap (Ty.cells tProp) n_0.props) (v5.toNat * Ty.size tProp), .fp (List.flatMap (Ty.cells tProp) n_0.props) (v5.toNat * Ty.size tProp + 0), strV x7.name, .sc (.int .i64 (x7.name.length : Int)), (vB false), (vB false), .ref 0 0 1, Ty.sl tProp n_0.props, (vI v5), .fp (List.flatMap (Ty.cells tProp) n_0.props) (v5.toNat * Ty.size tProp), .fp (List.flatMap (Ty.cells tProp) n_0.props) (v5.toNat * Ty.size tProp + 1), strV x10.value, .sc (.int .i64 (x10.value.length : Int)), .sc (.bool (decide ((x10.value.length : Int) > 300))), .sc (.bool (decide ((x10.value.length : Int) > 300))), .bad, .bad, .bad, .bad, .bad, .bad, .bad, .bad, .bad, .bad, .bad, .bad, .bad, .bad, .bad, .bad] [.box 25 (cNode n_0)] (by kernel_rfl) ?_
                  refine JK_sq ?_
                  refine J_ret ?_
                  refine JK_bl_ret ?_
                  refine JK_sq_ret ?_
                  refine JK_nil ?_
                  obtain rfl := Option.some.inj h
                  exact turn_ret (tm' := [.bad, (vI levels_1), .ref 0 0 0, .bad, (vB false), .bad, .bad, .bad, .bad, .bad, .bad, .bad, .bad, .bad, .bad, .bad, .bad, .bad, .bad, .bad, .bad, .bad, .bad, .bad, .bad, .bad, .bad, .bad, .bad, .bad, .bad, .bad, .bad, .bad, .bad, .bad, .bad, .bad, .bad, .bad, .bad, .bad, .bad, .bad, .bad, .bad, .bad, .bad, .bad, .bad, .bad, .bad, .bad, .bad, .bad, .bad, .bad, .bad, .bad, .bad, .bad, .bad, .bad, .bad, .bad, .bad, .bad, .bad]) (st' := [.box 25 (cNode n_0)]) () (kill_go (mid := [.bad, (vI levels_1), .ref 0 0 0, .bad, (vB false), .bad, .bad, .bad, .bad, .bad, .bad, .bad, .bad, .bad, .bad, .bad, .bad, .bad, .bad, .bad, .bad, .bad, .bad, .bad, .bad, .bad, .bad, .bad, .bad, .bad, .bad, .bad, .bad, .bad, .bad, .bad, .bad, .bad, .bad, .bad, .bad, .bad, .bad, .bad, .bad, .bad, .bad, .bad, .bad, .bad, .bad, .bad, .bad, .bad, .bad, .bad, .bad, .bad, .bad, .bad, .bad, .bad, .bad, .bad, .bad, .bad, .bad, .bad]) (by kernel_rfl) (mB (mC (by kernel_rfl) (mC (by kernel_rfl) (mB (mC (by kernel_rfl) (mB (mB (mB (mB (mB (mB (mB (mB (mB (mB (mB (mB (mB (mB (mB (mB (mB (mB (mB (mB (mB (mB (mB (mB (mB (mB (mB (mB (mB (mB (mB (mB (mB (mB (mB (mB (mB (mB (mB (mB (mB (mB (mB (mB (mB (mB (mB (mB (mB (mB (mB (mB (mB (mB (mB (mB (mB (mB (mB (mB (mB (mB (mB mN))))))))))))))))))))))))))))))))))))))))))))))))))))))))))))))))))))) (cut_go (mid := [.box 25 (cNode n_0)]) (by kernel_rfl) (oC (oB (lC (by kernel_rfl) (lC (sl_scrub tProp _ _) (lC (sl_scrub tNode _ _) lN)))) oN)) (by kernel_rfl)
                · rw [if_neg (ne_true h12)] at h
                  refine J_condF (v := (decide ((x10.value.length : Int) > 300))) (by kernel_rfl) h12 ?_
                  refine J_skip ?_
                  refine JK_bl ?_
                  refine JK_sq ?_
                  refine J_region ?_
                  refine JS_end [.bad, (vI levels_1), .ref 0 0 0, .bad, .bad, .sc (.int .i64 (IntKind.wrap .i64 (v5 + 1))), .bad, .bad, .bad, .bad, .bad, .bad, .bad, .bad, .bad, .bad, .bad, .bad, .bad, .bad, .bad, .bad, .bad, .bad, .bad, .bad, .bad, (vI v5), .ref 0 0 1, Ty.sl tProp n_0.props, .sc (.int .i64 (n_0.props.length : Int)), .sc (.bool (decide (v5 < (n_0.props.length : Int)))), (vI v5), .sc (.int .i64 (IntKind.wrap .i64 (v5 + 1))), .ref 0 0 1, Ty.sl tProp n_0.props, (vI v5), .fp (List.flatMap (Ty.cells tProp) n_0.props) (v5.toNat * Ty.size tProp), .fp (List.flatMap (Ty.cells tProp) n_0.props) (v5.toNat * Ty.size tProp + 0), strV x7.name, .sc (.int .i64 (x7.name.length : Int)), (vB false), (vB false), .ref 0 0 1, Ty.sl tProp n_0.props, (vI v5), .fp (List.flatMap (Ty.cells tProp) n_0.props) (v5.toNat * Ty.size tProp), .fp (List.flatMap (Ty.cells tProp) n_0.props) (v5.toNat * Ty.size tProp + 1), strV x10.value, .sc (.int .i64 (x10.value.length : Int)), .sc (.bool (decide ((x10.value.length : Int) > 300))), .sc (.bool (decide ((x10.value.length : Int) > 300))), .bad, .bad, .bad, .bad, .bad, .bad, .bad, .bad, .bad, .bad, .bad, .bad, .bad, .bad, .bad, .bad] [.box 25 (cNode n_0)] (by kernel_rfl) ?_
                  refine JK_nil ?_
                  obtain rfl := Option.some.inj h
                  exact turn_next () (kill_go (mid := [.bad, (vI levels_1), .ref 0 0 0, .bad, .bad, .sc (.int .i64 (IntKind.wrap .i64 (v5 + 1))), .bad, .bad, .bad, .bad, .bad, .bad, .bad, .bad, .bad, .bad, .bad, .bad, .bad, .bad, .bad, .bad, .bad, .bad, .bad, .bad, .bad, .bad, .bad, .bad, .bad, .bad, .bad, .bad, .bad, .bad, .bad, .bad, .bad, .bad, .bad, .bad, .bad, .bad, .bad, .bad, .bad, .bad, .bad, .bad, .bad, .bad, .bad, .bad, .bad, .bad, .bad, .bad, .bad, .bad, .bad, .bad, .bad, .bad, .bad, .bad, .bad, .bad]) (by kernel_rfl) (mB (mC (by kernel_rfl) (mC (by kernel_rfl) (mB (mB (mC (by kernel_rfl) (mB (mB (mB (mB (mB (mB (mB (mB (mB (mB (mB (mB (mB (mB (mB (mB (mB (mB (mB (mB (mB (mB (mB (mB (mB (mB (mB (mB (mB (mB (mB (mB (mB (mB (mB (mB (mB (mB (mB (mB (mB (mB (mB (mB (mB (mB (mB (mB (mB (mB (mB (mB (mB (mB (mB (mB (mB (mB (mB (mB (mB (mB mN))))))))))))))))))))))))))))))))))))))))))))))))))))))))))))))))))))) (cut_go (mid := [.box 25 (cNode n_0)]) (by kernel_rfl) (oC (oB (lC (by kernel_rfl) (lC (sl_scrub tProp _ _) (lC (sl_scrub tNode _ _) lN)))) oN))
            · rw [if_neg (ne_true h6)] at h
              refine J_condF (v := (decide (v5 < (n_0.props.length : Int)))) (by kernel_rfl) h6 ?_
              refine J_exit ?_
              refine JK_sq_exit ?_
              refine JK_nil ?_
              obtain rfl := Option.some.inj h
              exact turn_exit (tm' := [.bad, (vI levels_1), .ref 0 0 0, .bad, .bad, .bad, .bad, .bad, .bad, .bad, .bad, .bad, .bad, .bad, .bad, .bad, .bad, .bad, .bad, .bad, .bad, .bad, .bad, .bad, .bad, .bad, .bad, .bad, .bad, .bad, .bad, .bad, .bad, .bad, .bad, .bad, .bad, .bad, .bad, .bad, .bad, .bad, .bad, .bad, .bad, .bad, .bad, .bad, .bad, .bad, .bad, .bad, .bad, .bad, .bad, .bad, .bad, .bad, .bad, .bad, .bad, .bad, .bad, .bad, .bad, .bad, .bad, .bad]) (st' := [.box 25 (cNode n_0)]) () (kill_go (mid := [.bad, (vI levels_1), .ref 0 0 0, .bad, .bad, .bad, .bad, .bad, .bad, .bad, .bad, .bad, .bad, .bad, .bad, .bad, .bad, .bad, .bad, .bad, .bad, .bad, .bad, .bad, .bad, .bad, .bad, .bad, .bad, .bad, .bad, .bad, .bad, .bad, .bad, .bad, .bad, .bad, .bad, .bad, .bad, .bad, .bad, .bad, .bad, .bad, .bad, .bad, .bad, .bad, .bad, .bad, .bad, .bad, .bad, .bad, .bad, .bad, .bad, .bad, .bad, .bad, .bad, .bad, .bad, .bad, .bad, .bad]) (by kernel_rfl) (mB (mC (by kernel_rfl) (mC (by kernel_rfl) (mB (mB (mB (mB (mB (mB (mB (mB (mB (mB (mB (mB (mB (mB (mB (mB (mB (mB (mB (mB (mB (mB (mB (mB (mB (mB (mB (mB (mB (mB (mB (mB (mB (mB (mB (mB (mB (mB (mB (mB (mB (mB (mB (mB (mB (mB (mB (mB (mB (mB (mB (mB (mB (mB (mB (mB (mB (mB (mB (mB (mB (mB (mB (mB (mB mN))))))))))))))))))))))))))))))))))))))))))))))))))))))))))))))))))))) (cut_go (mid := [.box 25 (cNode n_0)]) (by kernel_rfl) (oC (oB (lC (by kernel_rfl) (lC (sl_scrub tProp _ _) (lC (sl_scrub tNode _ _) lN)))) oN)) (by kernel_rfl)
          · intro g_
            rcases r13 with r15 | r27
            · dsimp only at h
              refine (show JK _ _ _ _ (.exit 0, [.bad, (vI levels_1), .ref 0 0 0, .bad, .bad, .bad, .bad, .bad, .bad, .bad, .bad, .bad, .bad, .bad, .bad, .bad, .bad, .bad, .bad, .bad, .bad, .bad, .bad, .bad, .bad, .bad, .bad, .bad, .bad, .bad, .bad, .bad, .bad, .bad, .bad, .bad, .bad, .bad, .bad, .bad, .bad, .bad, .bad, .bad, .bad, .bad, .bad, .bad, .bad, .bad, .bad, .bad, .bad, .bad, .bad, .bad, .bad, .bad, .bad, .bad, .bad, .bad, .bad, .bad, .bad, .bad, .bad, .bad], [.box 25 (cNode n_0)]) from ?_)
              refine JK_bl_hit ?_
              refine JK_sq ?_
              refine J_seq ?_
              refine J_seq ?_
              refine J_region ?_
              refine JS_end [.bad, (vI levels_1), .ref 0 0 0, .bad, .bad, .bad, (vI 0), .bad, .bad, .bad, .bad, .bad, .bad, .bad, .bad, .bad, .bad, .bad, .bad, .bad, .bad, .bad, .bad, .bad, .bad, .bad, .bad, .bad, .bad, .bad, .bad, .bad, .bad, .bad, .bad, .bad, .bad, .bad, .bad, .bad, .bad, .bad, .bad, .bad, .bad, .bad, .bad, .bad, .bad, .bad, .bad, .bad, .bad, .bad, .bad, .bad, .bad, .bad, .bad, .bad, .bad, .bad, .bad, .bad, .bad, .bad, .bad, .bad] [.box 25 (cNode n_0)] (by kernel_rfl) ?_
              refine JK_sq ?_
              refine J_block ?_
              obtain ⟨r23, h24, h⟩ := Option.bind_eq_some_iff.1 h
              refine J_loop (γ := Unit) h24 1 [.bad, (vI levels_1), .ref 0 0 0, .bad, .bad, .bad, (vI 0), .bad, .bad, .bad, .bad, .bad, .bad, .bad, .bad, .bad, .bad, .bad, .bad, .bad, .bad, .bad, .bad, .bad, .bad, .bad, .bad, .bad, .bad, .bad, .bad, .bad, .bad, .bad, .bad, .bad, .bad, .bad, .bad, .bad, .bad, .bad, .bad, .bad, .bad, .bad, .bad, .bad, .bad, .bad, .bad, .bad, .bad, .bad, .bad, .bad, .bad, .bad, .bad, .bad, .bad, .bad, .bad, .bad, .bad, .bad, .bad, .bad] [.box 25 (cNode n_0)] (fun s g => [.bad, (vI levels_1), .ref 0 0 0, .bad, .bad, .bad, (vI s), .bad, .bad, .bad, .bad, .bad, .bad, .bad, .bad, .bad, .bad, .bad, .bad, .bad, .bad, .bad, .bad, .bad, .bad, .bad, .bad, .bad, .bad, .bad, .bad, .bad, .bad, .bad, .bad, .bad, .bad, .bad, .bad, .bad, .bad, .bad, .bad, .bad, .bad, .bad, .bad, .bad, .bad, .bad, .bad, .bad, .bad, .bad, .bad, .bad, .bad, .bad, .bad, .bad, .bad, .bad, .bad, .bad, .bad, .bad, .bad, .bad]) (fun s g => [.box 25 (cNode n_0)]) (fun r g => match r with | (.inl r) => (.exit 2, [.bad, .bad, .bad, .bad, .bad, .bad, .bad, .bad, .bad, .bad, .bad, .bad, .bad, .bad, .bad, .bad, .bad, .bad, .bad, .bad, .bad, .bad, .bad, .bad, .bad, .bad, .bad, .bad, .bad, .bad, .bad, .bad, .bad, .bad, .bad, .bad, .bad, .bad, .bad, .bad, .bad, .bad, .bad, .bad, .bad, .bad, .bad, .bad, .bad, .bad, .bad, .bad, .bad, .bad, .bad, .bad, .bad, .bad, .bad, .bad, .bad, .bad, .bad, .bad, .bad, .bad, .bad, .bad], [.box 25 (cNode n_0)]) | (.inr r) => (.ret, [.bad, .bad, .bad, .bad, (vB false), .bad, .bad, .bad, .bad, .bad, .bad, .bad, .bad, .bad, .bad, .bad, .bad, .bad, .bad, .bad, .bad, .bad, .bad, .bad, .bad, .bad, .bad, .bad, .bad, .bad, .bad, .bad, .bad, .bad, .bad, .bad, .bad, .bad, .bad, .bad, .bad, .bad, .bad, .bad, .bad, .bad, .bad, .bad, .bad, .bad, .bad, .bad, .bad, .bad, .bad, .bad, .bad, .bad, .bad, .bad, .bad, .bad, .bad, .bad, .bad, .bad, .bad, .bad], [.box 25 (cNode n_0)])) () (by kernel_rfl) (by kernel_rfl) (kill_go (mid := [.bad, (vI levels_1), .ref 0 0 0, .bad, .bad, .bad, (vI 0), .bad, .bad, .bad, .bad, .bad, .bad, .bad, .bad, .bad, .bad, .bad, .bad, .bad, .bad, .bad, .bad, .bad, .bad, .bad, .bad, .bad, .bad, .bad, .bad, .bad, .bad, .bad, .bad, .bad, .bad, .bad, .bad, .bad, .bad, .bad, .bad, .bad, .bad, .bad, .bad, .bad, .bad, .bad, .bad, .bad, .bad, .bad, .bad, .bad, .bad, .bad, .bad, .bad, .bad, .bad, .bad, .bad, .bad, .bad, .bad, .bad]) (by kernel_rfl) (mB (mC (by kernel_rfl) (mC (by kernel_rfl) (mB (mB (mB (mC (by kernel_rfl) (mB (mB (mB (mB (mB (mB (mB (mB (mB (mB (mB (mB (mB (mB (mB (mB (mB (mB (mB (mB (mB (mB (mB (mB (mB (mB (mB (mB (mB (mB (mB (mB (mB (mB (mB (mB (mB (mB (mB (mB (mB (mB (mB (mB (mB (mB (mB (mB (mB (mB (mB (mB (mB (mB (mB (mB (mB (mB (mB (mB (mB mN))))))))))))))))))))))))))))))))))))))))))))))))))))))))))))))))))))) (cut_go (mid := [.box 25 (cNode n_0)]) (by kernel_rfl) (oC (oB (lC (by kernel_rfl) (lC (sl_scrub tProp _ _) (lC (sl_scrub tNode _ _) lN)))) oN)) ?_ ?_
              · rintro v16 _ y h
                unfold ref12_low_l2 at h
                refine J_seq ?_
                refine J_seq ?_
                refine J_region ?_
                refine JS_end [.bad, (vI levels_1), .ref 0 0 0, .bad, .bad, .bad, (vI v16), .bad, .bad, .bad, .bad, .bad, .bad, .bad, .bad, .bad, .bad, .bad, .bad, .bad, .bad, .bad, .bad, .bad, .bad, .bad, .bad, .bad, .bad, .bad, .bad, .bad, .bad, .bad, .bad, .bad, .bad, .bad, .bad, .bad, .bad, .bad, .bad, .bad, .bad, .bad, .bad, .bad, .bad, .bad, .bad, .bad, (vI v16), .ref 0 0 2, Ty.sl tNode n_0.kids, .sc (.int .i64 (n_0.kids.length : Int)), .sc (.bool (decide (v16 < (n_0.kids.length : Int)))), .bad, .bad, .bad, .bad, .bad, .bad, .bad, .bad, .bad, .bad, .bad] [.box 25 (cNode n_0)] (by kernel_rfl) ?_
                refine JK_sq ?_
                rcases bool_cases (decide (v16 < (n_0.kids.length : Int))) with h17 | h17
                · rw [if_pos h17] at h
                  refine J_condT (v := (decide (v16 < (n_0.kids.length : Int)))) (by kernel_rfl) h17 ?_
                  refine J_skip ?_
                  refine JK_sq ?_
                  refine J_seq ?_
                  refine J_block ?_
                  refine J_seq ?_
                  refine J_region ?_
                  refine JS_seg 3 [.bad, (vI levels_1), .ref 0 0 0, .bad, .bad, .bad, (vI v16), .bad, .bad, .bad, .bad, .bad, .bad, .bad, .bad, .bad, .bad, .bad, .bad, .bad, .bad, .bad, .bad, .bad, .bad, .bad, .bad, .bad, .bad, .bad, .bad, .bad, .bad, .bad, .bad, .bad, .bad, .bad, .bad, .bad, .bad, .bad, .bad, .bad, .bad, .bad, .bad, .bad, .bad, .bad, .bad, .bad, (vI v16), .ref 0 0 2, Ty.sl tNode n_0.kids, .sc (.int .i64 (n_0.kids.length : Int)), .sc (.bool (decide (v16 < (n_0.kids.length : Int)))), .bad, .bad, .ref 0 0 2, Ty.sl tNode n_0.kids, (vI v16), .bad, .bad, .bad, .bad, .bad, .bad] [.box 25 (cNode n_0)] (by kernel_rfl) ?_
                  obtain ⟨x18, h19, h⟩ := Option.bind_eq_some_iff.1 h
                  refine JS_val (fun s => aindexAddr E0.tb s 23 (Ty.sl tNode n_0.kids) ((vI v16))) (by kernel_rfl) (sl_addr tNode tb_23 rfl tb_25 rfl h19) ?_
                  refine JS_seg 4 [.bad, (vI levels_1), .ref 0 0 0, .bad, .bad, .bad, (vI v16), .bad, .bad, .bad, .bad, .bad, .bad, .bad, .bad, .bad, .bad, .bad, .bad, .bad, .bad, .bad, .bad, .bad, .bad, .bad, .bad, .bad, .bad, .bad, .bad, .bad, .bad, .bad, .bad, .bad, .bad, .bad, .bad, .bad, .bad, .bad, .bad, .bad, .bad, .bad, .bad, .bad, .bad, .bad, .bad, .bad, (vI v16), .ref 0 0 2, Ty.sl tNode n_0.kids, .sc (.int .i64 (n_0.kids.length : Int)), .sc (.bool (decide (v16 < (n_0.kids.length : Int)))), .bad, .bad, .ref 0 0 2, Ty.sl tNode n_0.kids, (vI v16), .fp (List.flatMap (Ty.cells tNode) n_0.kids) (v16.toNat * Ty.size tNode), .bad, .bad, .bad, .bad, .bad] [.box 25 (cNode n_0)] (by kernel_rfl) ?_
                  refine JS_val (fun s => aload E0.tb s 25 (.fp (List.flatMap (Ty.cells tNode) n_0.kids) (v16.toNat * Ty.size tNode))) (by kernel_rfl) (fp_loadN tNode (o := 0) (vs := (cNode x18)) tb_25 rfl h19 (by decide) (by rw [tNode_cells]; rfl)) ?_
                  refine JS_seg 7 [.bad, (vI levels_1), .ref 0 0 0, .bad, .bad, .bad, (vI v16), .bad, .bad, .bad, .bad, .bad, .bad, .bad, .bad, .bad, .bad, .bad, .bad, .bad, .bad, .bad, .bad, .bad, .bad, .bad, .bad, .bad, .bad, .bad, .bad, .bad, .bad, .bad, .bad, .bad, .bad, .bad, .bad, .bad, .bad, .bad, .bad, .bad, .bad, .bad, .bad, .bad, .bad, .bad, .bad, .bad, (vI v16), .ref 0 0 2, Ty.sl tNode n_0.kids, .sc (.int .i64 (n_0.kids.length : Int)), .sc (.bool (decide (v16 < (n_0.kids.length : Int)))), .bad, .bad, .ref 0 0 2, Ty.sl tNode n_0.kids, (vI v16), .fp (List.flatMap (Ty.cells tNode) n_0.kids) (v16.toNat * Ty.size tNode), .agg (cNode x18), (vI levels_1), .sc (.int .i64 (IntKind.wrap .i64 (levels_1 - 1))), .bad, .bad] [.box 25 (cNode n_0)] (by kernel_rfl) ?_
                  obtain ⟨r20, h21, h⟩ := Option.bind_eq_some_iff.1 h
                  refine JS_upd (fun s => fcall E0 46 [.agg (cNode x18), .sc (.int .i64 (IntKind.wrap .i64 (levels_1 - 1)))] s) (by kernel_rfl) (hrec_ x18 (IntKind.wrap .i64 (levels_1 - 1)) _ _ h21) ?_
                  refine JS_end [.bad, (vI levels_1), .ref 0 0 0, .bad, .bad, .bad, (vI v16), .bad, .bad, .bad, .bad, .bad, .bad, .bad, .bad, .bad, .bad, .bad, .bad, .bad, .bad, .bad, .bad, .bad, .bad, .bad, .bad, .bad, .bad, .bad, .bad, .bad, .bad, .bad, .bad, .bad, .bad, .bad, .bad, .bad, .bad, .bad, .bad, .bad, .bad, .bad, .bad, .bad, .bad, .bad, .bad, .bad, (vI v16), .ref 0 0 2, Ty.sl tNode n_0.kids, .sc (.int .i64 (n_0.kids.length : Int)), .sc (.bool (decide (v16 < (n_0.kids.length : Int)))), .bad, .bad, .ref 0 0 2, Ty.sl tNode n_0.kids, (vI v16), .fp (List.flatMap (Ty.cells tNode) n_0.kids) (v16.toNat * Ty.size tNode), .agg (cNode x18), (vI levels_1), .sc (.int .i64 (IntKind.wrap .i64 (levels_1 - 1))), (vB r20), .sc (.bool (!r20))] [.box 25 (cNode n_0)] (by kernel_rfl) ?_
                  refine JK_sq ?_
                  rcases bool_cases (!r20) with h22 | h22
                  · rw [if_pos h22] at h
                    refine J_condT (v := (!r20)) (by kernel_rfl) h22 ?_
                    refine J_seq ?_
                    refine J_region ?_
                    refine JS_end [.bad, (vI levels_1), .ref 0 0 0, .bad, (vB false), .bad, (vI v16), .bad, .bad, .bad, .bad, .bad, .bad, .bad, .bad, .bad, .bad, .bad, .bad, .bad, .bad, .bad, .bad, .bad, .bad, .bad, .bad, .bad, .bad, .bad, .bad, .bad, .bad, .bad, .bad, .bad, .bad, .bad, .bad, .bad, .bad, .bad, .bad, .bad, .bad, .bad, .bad, .bad, .bad, .bad, .bad, .bad, (vI v16), .ref 0 0 2, Ty.sl tNode n_0.kids, .sc (.int .i64 (n_0.kids.length : Int)), .sc (.bool (decide (v16 < (n_0.kids.length : Int)))), .bad, .bad, .ref 0 0 2, Ty.sl tNode n_0.kids, (vI v16), .fp (List.flatMap (Ty.cells tNode) n_0.kids) (v16.toNat * Ty.size tNode), .agg (cNode x18), (vI levels_1), .sc (.int .i64 (IntKind.wrap .i64 (levels_1 - 1))), (vB r20), .sc (.bool (!r20))] [.box 25 (cNode n_0)] (by kernel_rfl) ?_
                    refine JK_sq ?_
                    refine J_ret ?_
                    refine JK_bl_ret ?_
                    refine JK_sq_ret ?_
                    refine JK_nil ?_
                    obtain rfl := Option.some.inj h
                    exact turn_ret (tm' := [.bad, .bad, .bad, .bad, (vB false), .bad, .bad, .bad, .bad, .bad, .bad, .bad, .bad, .bad, .bad, .bad, .bad, .bad, .bad, .bad, .bad, .bad, .bad, .bad, .bad, .bad, .bad, .bad, .bad, .bad, .bad, .bad, .bad, .bad, .bad, .bad, .bad, .bad, .bad, .bad, .bad, .bad, .bad, .bad, .bad, .bad, .bad, .bad, .bad, .bad, .bad, .bad, .bad, .bad, .bad, .bad, .bad, .bad, .bad, .bad, .bad, .bad, .bad, .bad, .bad, .bad, .bad, .bad]) (st' := [.box 25 (cNode n_0)]) () (kill_go (mid := [.bad, .bad, .bad, .bad, (vB false), .bad, .bad, .bad, .bad, .bad, .bad, .bad, .bad, .bad, .bad, .bad, .bad, .bad, .bad, .bad, .bad, .bad, .bad, .bad, .bad, .bad, .bad, .bad, .bad, .bad, .bad, .bad, .bad, .bad, .bad, .bad, .bad, .bad, .bad, .bad, .bad, .bad, .bad, .bad, .bad, .bad, .bad, .bad, .bad, .bad, .bad, .bad, .bad, .bad, .bad, .bad, .bad, .bad, .bad, .bad, .bad, .bad, .bad, .bad, .bad, .bad, .bad, .bad]) (by kernel_rfl) (mB (mB (mB (mB (mC (by kernel_rfl) (mB (mB (mB (mB (mB (mB (mB (mB (mB (mB (mB (mB (mB (mB (mB (mB (mB (mB (mB (mB (mB (mB (mB (mB (mB (mB (mB (mB (mB (mB (mB (mB (mB (mB (mB (mB (mB (mB (mB (mB (mB (mB (mB (mB (mB (mB (mB (mB (mB (mB (mB (mB (mB (mB (mB (mB (mB (mB (mB (mB (mB (mB (mB mN))))))))))))))))))))))))))))))))))))))))))))))))))))))))))))))))))))) (cut_go (mid := [.box 25 (cNode n_0)]) (by kernel_rfl) (oC (oB (lC (by kernel_rfl) (lC (sl_scrub tProp _ _) (lC (sl_scrub tNode _ _) lN)))) oN)) (by kernel_rfl)
                  · rw [if_neg (ne_true h22)] at h
                    refine J_condF (v := (!r20)) (by kernel_rfl) h22 ?_
                    refine J_skip ?_
                    refine JK_bl ?_
                    refine JK_sq ?_
                    refine J_region ?_
                    refine JS_end [.bad, (vI levels_1), .ref 0 0 0, .bad, .bad, .bad, .sc (.int .i64 (IntKind.wrap .i64 (v16 + 1))), .bad, .bad, .bad, .bad, .bad, .bad, .bad, .bad, .bad, .bad, .bad, .bad, .bad, .bad, .bad, .bad, .bad, .bad, .bad, .bad, .bad, .bad, .bad, .bad, .bad, .bad, .bad, .bad, .bad, .bad, .bad, .bad, .bad, .bad, .bad, .bad, .bad, .bad, .bad, .bad, .bad, .bad, .bad, .bad, .bad, (vI v16), .ref 0 0 2, Ty.sl tNode n_0.kids, .sc (.int .i64 (n_0.kids.length : Int)), .sc (.bool (decide (v16 < (n_0.kids.length : Int)))), (vI v16), .sc (.int .i64 (IntKind.wrap .i64 (v16 + 1))), .ref 0 0 2, Ty.sl tNode n_0.kids, (vI v16), .fp (List.flatMap (Ty.cells tNode) n_0.kids) (v16.toNat * Ty.size tNode), .agg (cNode x18), (vI levels_1), .sc (.int .i64 (IntKind.wrap .i64 (levels_1 - 1))), (vB r20), .sc (.bool (!r20))] [.box 25 (cNode n_0)] (by kernel_rfl) ?_
                    refine JK_nil ?_
                    obtain rfl := Option.some.inj h
                    exact turn_next () (kill_go (mid := [.bad, (vI levels_1), .ref 0 0 0, .bad, .bad, .bad, .sc (.int .i64 (IntKind.wrap .i64 (v16 + 1))), .bad, .bad, .bad, .bad, .bad, .bad, .bad, .bad, .bad, .bad, .bad, .bad, .bad, .bad, .bad, .bad, .bad, .bad, .bad, .bad, .bad, .bad, .bad, .bad, .bad, .bad, .bad, .bad, .bad, .bad, .bad, .bad, .bad, .bad, .bad, .bad, .bad, .bad, .bad, .bad, .bad, .bad, .bad, .bad, .bad, .bad, .bad, .bad, .bad, .bad, .bad, .bad, .bad, .bad, .bad, .bad, .bad, .bad, .bad, .bad, .bad]) (by kernel_rfl) (mB (mC (by kernel_rfl) (mC (by kernel_rfl) (mB (mB (mB (mC (by kernel_rfl) (mB (mB (mB (mB (mB (mB (mB (mB (mB (mB (mB (mB (mB (mB (mB (mB (mB (mB (mB (mB (mB (mB (mB (mB (mB (mB (mB (mB (mB (mB (mB (mB (mB (mB (mB (mB (mB (mB (mB (mB (mB (mB (mB (mB (mB (mB (mB (mB (mB (mB (mB (mB (mB (mB (mB (mB (mB (mB (mB (mB (mB mN))))))))))))))))))))))))))))))))))))))))))))))))))))))))))))))))))))) (cut_go (mid := [.box 25 (cNode n_0)]) (by kernel_rfl) (oC (oB (lC (by kernel_rfl) (lC (sl_scrub tProp _ _) (lC (sl_scrub tNode _ _) lN)))) oN))
                · rw [if_neg (ne_true h17)] at h
                  refine J_condF (v := (decide (v16 < (n_0.kids.length : Int)))) (by kernel_rfl) h17 ?_
                  refine J_exit ?_
                  refine JK_sq_exit ?_
                  refine JK_nil ?_
                  obtain rfl := Option.some.inj h
                  exact turn_exit (tm' := [.bad, .bad, .bad, .bad, .bad, .bad, .bad, .bad, .bad, .bad, .bad, .bad, .bad, .bad, .bad, .bad, .bad, .bad, .bad, .bad, .bad, .bad, .bad, .bad, .bad, .bad, .bad, .bad, .bad, .bad, .bad, .bad, .bad, .bad, .bad, .bad, .bad, .bad, .bad, .bad, .bad, .bad, .bad, .bad, .bad, .bad, .bad, .bad, .bad, .bad, .bad, .bad, .bad, .bad, .bad, .bad, .bad, .bad, .bad, .bad, .bad, .bad, .bad, .bad, .bad, .bad, .bad, .bad]) (st' := [.box 25 (cNode n_0)]) () (kill_go (mid := [.bad, .bad, .bad, .bad, .bad, .bad, .bad, .bad, .bad, .bad, .bad, .bad, .bad, .bad, .bad, .bad, .bad, .bad, .bad, .bad, .bad, .bad, .bad, .bad, .bad, .bad, .bad, .bad, .bad, .bad, .bad, .bad, .bad, .bad, .bad, .bad, .bad, .bad, .bad, .bad, .bad, .bad, .bad, .bad, .bad, .bad, .bad, .bad, .bad, .bad, .bad, .bad, .bad, .bad, .bad, .bad, .bad, .bad, .bad, .bad, .bad, .bad, .bad, .bad, .bad, .bad, .bad, .bad]) (by kernel_rfl) (mB (mB (mB (mB (mB (mB (mB (mB (mB (mB (mB (mB (mB (mB (mB (mB (mB (mB (mB (mB (mB (mB (mB (mB (mB (mB (mB (mB (mB (mB (mB (mB (mB (mB (mB (mB (mB (mB (mB (mB (mB (mB (mB (mB (mB (mB (mB (mB (mB (mB (mB (mB (mB (mB (mB (mB (mB (mB (mB (mB (mB (mB (mB (mB (mB (mB (mB (mB mN))))))))))))))))))))))))))))))))))))))))))))))))))))))))))))))))))))) (cut_go (mid := [.box 25 (cNode n_0)]) (by kernel_rfl) (oC (oB (lC (by kernel_rfl) (lC (sl_scrub tProp _ _) (lC (sl_scrub tNode _ _) lN)))) oN)) (by kernel_rfl)
              · intro g_
                rcases r23 with r25 | r26
                · dsimp only at h
                  refine (show JK _ _ _ _ (.exit 2, [.bad, .bad, .bad, .bad, .bad, .bad, .bad, .bad, .bad, .bad, .bad, .bad, .bad, .bad, .bad, .bad, .bad, .bad, .bad, .bad, .bad, .bad, .bad, .bad, .bad, .bad, .bad, .bad, .bad, .bad, .bad, .bad, .bad, .bad, .bad, .bad, .bad, .bad, .bad, .bad, .bad, .bad, .bad, .bad, .bad, .bad, .bad, .bad, .bad, .bad, .bad, .bad, .bad, .bad, .bad, .bad, .bad, .bad, .bad, .bad, .bad, .bad, .bad, .bad, .bad, .bad, .bad, .bad], [.box 25 (cNode n_0)]) from ?_)
                  refine JK_bl_hit ?_
                  refine JK_sq ?_
                  refine J_seq ?_
                  refine J_region ?_
                  refine JS_end [.bad, .bad, .bad, .bad, (vB true), .bad, .bad, .bad, .bad, .bad, .bad, .bad, .bad, .bad, .bad, .bad, .bad, .bad, .bad, .bad, .bad, .bad, .bad, .bad, .bad, .bad, .bad, .bad, .bad, .bad, .bad, .bad, .bad, .bad, .bad, .bad, .bad, .bad, .bad, .bad, .bad, .bad, .bad, .bad, .bad, .bad, .bad, .bad, .bad, .bad, .bad, .bad, .bad, .bad, .bad, .bad, .bad, .bad, .bad, .bad, .bad, .bad, .bad, .bad, .bad, .bad, .bad, .bad] [.box 25 (cNode n_0)] (by kernel_rfl) ?_
                  refine JK_sq ?_
                  refine J_ret ?_
                  refine JK_nil ?_
                  obtain rfl := Option.some.inj h
                  exact ret_A (r := (vB true)) (r' := (vB true)) (.inl rfl) (by kernel_rfl) (by kernel_rfl) rfl ⟨by kernel_rfl, rfl⟩
                · dsimp only at h
                  refine (show JK _ _ _ _ (.ret, [.bad, .bad, .bad, .bad, (vB false), .bad, .bad, .bad, .bad, .bad, .bad, .bad, .bad, .bad, .bad, .bad, .bad, .bad, .bad, .bad, .bad, .bad, .bad, .bad, .bad, .bad, .bad, .bad, .bad, .bad, .bad, .bad, .bad, .bad, .bad, .bad, .bad, .bad, .bad, .bad, .bad, .bad, .bad, .bad, .bad, .bad, .bad, .bad, .bad, .bad, .bad, .bad, .bad, .bad, .bad, .bad, .bad, .bad, .bad, .bad, .bad, .bad, .bad, .bad, .bad, .bad, .bad, .bad], [.box 25 (cNode n_0)]) from ?_)
                  refine JK_bl_ret ?_
                  refine JK_sq_ret ?_
                  refine JK_nil ?_
                  obtain rfl := Option.some.inj h
                  exact ret_A (r := (vB false)) (r' := (vB false)) (.inl rfl) (by kernel_rfl) (by kernel_rfl) rfl ⟨by kernel_rfl, rfl⟩
            · dsimp only at h
              refine (show JK _ _ _ _ (.ret, [.bad, (vI levels_1), .ref 0 0 0, .bad, (vB false), .bad, .bad, .bad, .bad, .bad, .bad, .bad, .bad, .bad, .bad, .bad, .bad, .bad, .bad, .bad, .bad, .bad, .bad, .bad, .bad, .bad, .bad, .bad, .bad, .bad, .bad, .bad, .bad, .bad, .bad, .bad, .bad, .bad, .bad, .bad, .bad, .bad, .bad, .bad, .bad, .bad, .bad, .bad, .bad, .bad, .bad, .bad, .bad, .bad, .bad, .bad, .bad, .bad, .bad, .bad, .bad, .bad, .bad, .bad, .bad, .bad, .bad, .bad], [.box 25 (cNode n_0)]) from ?_)
              refine JK_bl_ret ?_
              refine JK_sq_ret ?_
              refine JK_nil ?_
              obtain rfl := Option.some.inj h
              exact ret_A (r := (vB false)) (r' := (vB false)) (.inl rfl) (by kernel_rfl) (by kernel_rfl) rfl ⟨by kernel_rfl, rfl⟩

theorem ref12_low_k_C : ∀ (k : Nat) (n_0 : GNode) (levels_1 : Int) (r : Bool) (st : Store), ref12_low_k k n_0 levels_1 = some r → fcall E0 46 [.agg (cNode n_0), (vI levels_1)] st = some ((vB r), st)
  | 0, n_0, levels_1, r, st, h => by simp [ref12_low_k] at h
  | k + 1, n_0, levels_1, r, st, h => ref12_low_b_C (ref12_low_k k) (ref12_low_k_C k) n_0 levels_1 r st (by simpa only [ref12_low_k] using h)

theorem ref12_low_C (n_0 : GNode) (levels_1 : Int) (r : Bool) (st : Store) (h : ref12_low n_0 levels_1 = some r) : fcall E0 46 [.agg (cNode n_0), (vI levels_1)] st = some ((vB r), st) := by
  obtain ⟨k, hk⟩ := limF_some h
  exact ref12_low_k_C k n_0 levels_1 r st hk

theorem ref12_size_b_C (rec_ : GNode → Int → Option Int) (hrec_ : ∀ (n_0 : GNode) (levels_1 : Int) (r : Int) (st : Store), rec_ n_0 levels_1 = some r → fcall E0 47 [.agg (cNode n_0), (vI levels_1)] st = some ((vI r), st)) (n_0 : GNode) (levels_1 : Int) (r : Int) (st : Store) (h : ref12_size_b rec_ n_0 levels_1 = some r) : fcall E0 47 [.agg (cNode n_0), (vI levels_1)] st = some ((vI r), st) := by
  unfold ref12_size_b at h
  refine fn_alone (fn := Tryd.f47) (av' := [.agg (cNode n_0), (vI levels_1), .bad, .bad, .bad, .bad, .bad, .bad, .bad, .bad, .bad, .bad, .bad, .bad, .bad, .bad, .bad, .bad, .bad, .bad, .bad, .bad, .bad, .bad, .bad, .bad, .bad, .bad, .bad, .bad, .bad, .bad, .bad, .bad, .bad]) rfl fn_47 rfl (pC (pAgg (pC rfl (pC (sl_pure tProp _) (pC (sl_pure tNode _) pN)))) (pC rfl pN)) rfl rfl rfl (has_go (as1 := [.agg (cNode n_0), (vI levels_1)]) (lC (sAgg (lC (by kernel_rfl) (lC (sl_scrub tProp _ _) (lC (sl_scrub tNode _ _) lN)))) (lC (by kernel_rfl) lN)) (by kernel_rfl)) ?_
  refine J_seq ?_
  refine J_region ?_
  refine JS_end [.agg (cNode n_0), (vI levels_1), .ref 0 0 0, .bad, (vI 0), .bad, .bad, .bad, .bad, .bad, .bad, .bad, .bad, .bad, .bad, .bad, .bad, .bad, .bad, .bad, .bad, .bad, .bad, .bad, .bad, .bad, .bad, .bad, .bad, .bad, .bad, .bad, .bad, .bad, .bad] [.box 25 (cNode n_0)] (by kernel_rfl) ?_
  refine JK_sq ?_
  refine J_seq ?_
  refine J_seq ?_
  refine J_region ?_
  refine JS_end [.agg (cNode n_0), (vI levels_1), .ref 0 0 0, .bad, (vI 0), .bad, .bad, (vI levels_1), .sc (.bool (levels_1 == 0)), .bad, .bad, .bad, .bad, .bad, .bad, .bad, .bad, .bad, .bad, .bad, .bad, .bad, .bad, .bad, .bad, .bad, .bad, .bad, .bad, .bad, .bad, .bad, .bad, .bad, .bad] [.box 25 (cNode n_0)] (by kernel_rfl) ?_
  refine JK_sq ?_
  rcases bool_cases (levels_1 == 0) with h1 | h1
  · rw [if_pos h1] at h
    refine J_condT (v := (levels_1 == 0)) (by kernel_rfl) h1 ?_
    refine J_seq ?_
    refine J_region ?_
    refine JS_end [.agg (cNode n_0), (vI levels_1), .ref 0 0 0, .bad, (vI 0), .bad, .bad, (vI levels_1), .sc (.bool (levels_1 == 0)), .bad, .bad, .bad, .bad, .bad, .bad, .bad, .bad, .bad, .bad, .bad, .bad, .bad, .bad, .bad, .bad, .bad, .bad, .bad, .bad, .bad, .bad, .bad, .bad, .bad, .bad] [.box 25 (cNode n_0)] (by kernel_rfl) ?_
    refine JK_sq ?_
    refine J_ret ?_
    refine JK_sq_ret ?_
    refine JK_nil ?_
    obtain rfl := Option.some.inj h
    exact ret_A (r := (vI 0)) (r' := (vI 0)) (.inl rfl) (by kernel_rfl) (by kernel_rfl) rfl ⟨by kernel_rfl, rfl⟩
  · rw [if_neg (ne_true h1)] at h
    refine J_condF (v := (levels_1 == 0)) (by kernel_rfl) h1 ?_
    refine J_skip ?_
    refine JK_sq ?_
    refine J_seq ?_
    refine J_region ?_
    refine JS_end [.agg (cNode n_0), (vI levels_1), .ref 0 0 0, .bad, (vI 0), .sc (.int .i64 (IntKind.wrap .i64 (1 + (n_0.props.length : Int)))), .bad, (vI levels_1), .sc (.bool (levels_1 == 0)), .ref 0 0 1, Ty.sl tProp n_0.props, .sc (.int .i64 (n_0.props.length : Int)), .sc (.int .i64 (IntKind.wrap .i64 (1 + (n_0.props.length : Int)))), .bad, .bad, .bad, .bad, .bad, .bad, .bad, .bad, .bad, .bad, .bad, .bad, .bad, .bad, .bad, .bad, .bad, .bad, .bad, .bad, .bad, .bad] [.box 25 (cNode n_0)] (by kernel_rfl) ?_
    refine JK_sq ?_
    refine J_seq ?_
    refine J_seq ?_
    refine J_region ?_
    refine JS_end [.agg (cNode n_0), (vI levels_1), .ref 0 0 0, .bad, (vI 0), .sc (.int .i64 (IntKind.wrap .i64 (1 + (n_0.props.length : Int)))), (vI 0), (vI levels_1), .sc (.bool (levels_1 == 0)), .ref 0 0 1, Ty.sl tProp n_0.props, .sc (.int .i64 (n_0.props.length : Int)), .sc (.int .i64 (IntKind.wrap .i64 (1 + (n_0.props.length : Int)))), .bad, .bad, .bad, .bad, .bad, .bad, .bad, .bad, .bad, .bad, .bad, .bad, .bad, .bad, .bad, .bad, .bad, .bad, .bad, .bad, .bad, .bad] [.box 25 (cNode n_0)] (by kernel_rfl) ?_
    refine JK_sq ?_
    refine J_block ?_
    obtain ⟨r10, h11, h⟩ := Option.bind_eq_some_iff.1 h
    refine J_loop (γ := Unit) h11 1 [.agg (cNode n_0), (vI levels_1), .ref 0 0 0, .bad, (vI 0), .sc (.int .i64 (IntKind.wrap .i64 (1 + (n_0.props.length : Int)))), (vI 0), (vI levels_1), .sc (.bool (levels_1 == 0)), .ref 0 0 1, Ty.sl tProp n_0.props, .sc (.int .i64 (n_0.props.length : Int)), .sc (.int .i64 (IntKind.wrap .i64 (1 + (n_0.props.length : Int)))), .bad, .bad, .bad, .bad, .bad, .bad, .bad, .bad, .bad, .bad, .bad, .bad, .bad, .bad, .bad, .bad, .bad, .bad, .bad, .bad, .bad, .bad] [.box 25 (cNode n_0)] (fun s g => [.bad, (vI levels_1), .ref 0 0 0, .bad, .bad, .sc (.int .i64 s.1), .sc (.int .i64 s.2), .bad, .bad, .bad, .bad, .bad, .bad, .bad, .bad, .bad, .bad, .bad, .bad, .bad, .bad, .bad, .bad, .bad, .bad, .bad, .bad, .bad, .bad, .bad, .bad, .bad, .bad, .bad, .bad]) (fun s g => [.box 25 (cNode n_0)]) (fun r g => (.exit 0, [.bad, .bad, .bad, .bad, .bad, (vI r), .bad, .bad, .bad, .bad, .bad, .bad, .bad, .bad, .bad, .bad, .bad, .bad, .bad, .bad, .bad, .bad, .bad, .bad, .bad, .bad, .bad, .bad, .bad, .bad, .bad, .bad, .bad, .bad, .bad], [.box 25 (cNode n_0)])) () (by kernel_rfl) (by kernel_rfl) (kill_go (mid := [.bad, (vI levels_1), .ref 0 0 0, .bad, .bad, .sc (.int .i64 (IntKind.wrap .i64 (1 + (n_0.props.length : Int)))), (vI 0), .bad, .bad, .bad, .bad, .bad, .bad, .bad, .bad, .bad, .bad, .bad, .bad, .bad, .bad, .bad, .bad, .bad, .bad, .bad, .bad, .bad, .bad, .bad, .bad, .bad, .bad, .bad, .bad]) (by kernel_rfl) (mB (mC (by kernel_rfl) (mC (by kernel_rfl) (mB (mB (mC (by kernel_rfl) (mC (by kernel_rfl) (mB (mB (mB (mB (mB (mB (mB (mB (mB (mB (mB (mB (mB (mB (mB (mB (mB (mB (mB (mB (mB (mB (mB (mB (mB (mB (mB (mB mN)))))))))))))))))))))))))))))))))))) (cut_go (mid := [.box 25 (cNode n_0)]) (by kernel_rfl) (oC (oB (lC (by kernel_rfl) (lC (sl_scrub tProp _ _) (lC (sl_scrub tNode _ _) lN)))) oN)) ?_ ?_
    · rintro ⟨v2, v3⟩ _ y h
      unfold ref12_size_l1 at h
      dsimp only at h
      refine J_seq ?_
      refine J_seq ?_
      refine J_region ?_
      refine JS_seg 6 [.bad, (vI levels_1), .ref 0 0 0, .bad, .bad, (vI v2), (vI v3), .bad, .bad, .bad, .bad, .bad, .bad, (vI v3), .ref 0 0 2, Ty.sl tNode n_0.kids, .sc (.int .i64 (n_0.kids.length : Int)), .sc (.bool (decide (v3 < (n_0.kids.length : Int)))), .sc (.bool (decide (v3 < (n_0.kids.length : Int)))), .bad, .bad, .bad, .bad, .bad, .bad, .bad, .bad, .bad, .bad, .bad, .bad, .bad, .bad, .bad, .bad] [.box 25 (cNode n_0)] (by kernel_rfl) ?_
      rcases bool_cases (decide (v3 < (n_0.kids.length : Int))) with h4 | h4
      · rw [if_pos h4] at h
        refine JS_cast (tm' := [.bad, (vI levels_1), .ref 0 0 0, .bad, .bad, (vI v2), (vI v3), .bad, .bad, .bad, .bad, .bad, .bad, (vI v3), .ref 0 0 2, Ty.sl tNode n_0.kids, .sc (.int .i64 (n_0.kids.length : Int)), (vB true), (vB true), .bad, .bad, .bad, .bad, .bad, .bad, .bad, .bad, .bad, .bad, .bad, .bad, .bad, .bad, .bad, .bad]) (by rw [h4]) rfl ?_
        refine JS_end [.bad, (vI levels_1), .ref 0 0 0, .bad, .bad, (vI v2), (vI v3), .bad, .bad, .bad, .bad, .bad, .bad, (vI v3), .ref 0 0 2, Ty.sl tNode n_0.kids, .sc (.int .i64 (n_0.kids.length : Int)), (vB true), (vB true), (vI v2), .sc (.bool (decide (v2 < 1000))), .sc (.bool (decide (v2 < 1000))), .bad, .bad, .bad, .bad, .bad, .bad, .bad, .bad, .bad, .bad, .bad, .bad, .bad] [.box 25 (cNode n_0)] (by kernel_rfl) ?_
        refine JK_sq ?_
        rcases bool_cases (decide (v2 < 1000)) with h5 | h5
        · rw [if_pos h5] at h
          refine J_condT (v := (decide (v2 < 1000))) (by kernel_rfl) h5 ?_
          refine J_skip ?_
          refine JK_sq ?_
          refine J_seq ?_
          refine J_block ?_
          refine J_region ?_
          refine JS_seg 4 [.bad, (vI levels_1), .ref 0 0 0, .bad, .bad, (vI v2), (vI v3), .bad, .bad, .bad, .bad, .bad, .bad, (vI v3), .ref 0 0 2, Ty.sl tNode n_0.kids, .sc (.int .i64 (n_0.kids.length : Int)), (vB true), (vB true), (vI v2), .sc (.bool (decide (v2 < 1000))), .sc (.bool (decide (v2 < 1000))), .bad, .bad, (vI v2), .ref 0 0 2, Ty.sl tNode n_0.kids, (vI v3), .bad, .bad, .bad, .bad, .bad, .bad, .bad] [.box 25 (cNode n_0)] (by kernel_rfl) ?_
          obtain ⟨x6, h7, h⟩ := Option.bind_eq_some_iff.1 h
          refine JS_val (fun s => aindexAddr E0.tb s 23 (Ty.sl tNode n_0.kids) ((vI v3))) (by kernel_rfl) (sl_addr tNode tb_23 rfl tb_25 rfl h7) ?_
          refine JS_seg 5 [.bad, (vI levels_1), .ref 0 0 0, .bad, .bad, (vI v2), (vI v3), .bad, .bad, .bad, .bad, .bad, .bad, (vI v3), .ref 0 0 2, Ty.sl tNode n_0.kids, .sc (.int .i64 (n_0.kids.length : Int)), (vB true), (vB true), (vI v2), .sc (.bool (decide (v2 < 1000))), .sc (.bool (decide (v2 < 1000))), .bad, .bad, (vI v2), .ref 0 0 2, Ty.sl tNode n_0.kids, (vI v3), .fp (List.flatMap (Ty.cells tNode) n_0.kids) (v3.toNat * Ty.size tNode), .bad, .bad, .bad, .bad, .bad, .bad] [.box 25 (cNode n_0)] (by kernel_rfl) ?_
          refine JS_val (fun s => aload E0.tb s 25 (.fp (List.flatMap (Ty.cells tNode) n_0.kids) (v3.toNat * Ty.size tNode))) (by kernel_rfl) (fp_loadN tNode (o := 0) (vs := (cNode x6)) tb_25 rfl h7 (by decide) (by rw [tNode_cells]; rfl)) ?_
          refine JS_seg 8 [.bad, (vI levels_1), .ref 0 0 0, .bad, .bad, (vI v2), (vI v3), .bad, .bad, .bad, .bad, .bad, .bad, (vI v3), .ref 0 0 2, Ty.sl tNode n_0.kids, .sc (.int .i64 (n_0.kids.length : Int)), (vB true), (vB true), (vI v2), .sc (.bool (decide (v2 < 1000))), .sc (.bool (decide (v2 < 1000))), .bad, .bad, (vI v2), .ref 0 0 2, Ty.sl tNode n_0.kids, (vI v3), .fp (List.flatMap (Ty.cells tNode) n_0.kids) (v3.toNat * Ty.size tNode), .agg (cNode x6), (vI levels_1), .sc (.int .i64 (IntKind.wrap .i64 (levels_1 - 1))), .bad, .bad, .bad] [.box 25 (cNode n_0)] (by kernel_rfl) ?_
          obtain ⟨r8, h9, h⟩ := Option.bind_eq_some_iff.1 h
          refine JS_upd (fun s => fcall E0 47 [.agg (cNode x6), .sc (.int .i64 (IntKind.wrap .i64 (levels_1 - 1)))] s) (by kernel_rfl) (hrec_ x6 (IntKind.wrap .i64 (levels_1 - 1)) _ _ h9) ?_
          refine JS_end [.bad, (vI levels_1), .ref 0 0 0, .bad, .bad, .sc (.int .i64 (IntKind.wrap .i64 (v2 + r8))), (vI v3), .bad, .bad, .bad, .bad, .bad, .bad, (vI v3), .ref 0 0 2, Ty.sl tNode n_0.kids, .sc (.int .i64 (n_0.kids.length : Int)), (vB true), (vB true), (vI v2), .sc (.bool (decide (v2 < 1000))), .sc (.bool (decide (v2 < 1000))), .bad, .bad, (vI v2), .ref 0 0 2, Ty.sl tNode n_0.kids, (vI v3), .fp (List.flatMap (Ty.cells tNode) n_0.kids) (v3.toNat * Ty.size tNode), .agg (cNode x6), (vI levels_1), .sc (.int .i64 (IntKind.wrap .i64 (levels_1 - 1))), (vI r8), .sc (.int .i64 (IntKind.wrap .i64 (v2 + r8))), .bad] [.box 25 (cNode n_0)] (by kernel_rfl) ?_
          refine JK_bl ?_
          refine JK_sq ?_
          refine J_region ?_
          refine JS_end [.bad, (vI levels_1), .ref 0 0 0, .bad, .bad, .sc (.int .i64 (IntKind.wrap .i64 (v2 + r8))), .sc (.int .i64 (IntKind.wrap .i64 (v3 + 1))), .bad, .bad, .bad, .bad, .bad, .bad, (vI v3), .ref 0 0 2, Ty.sl tNode n_0.kids, .sc (.int .i64 (n_0.kids.length : Int)), (vB true), (vB true), (vI v2), .sc (.bool (decide (v2 < 1000))), .sc (.bool (decide (v2 < 1000))), (vI v3), .sc (.int .i64 (IntKind.wrap .i64 (v3 + 1))), (vI v2), .ref 0 0 2, Ty.sl tNode n_0.kids, (vI v3), .fp (List.flatMap (Ty.cells tNode) n_0.kids) (v3.toNat * Ty.size tNode), .agg (cNode x6), (vI levels_1), .sc (.int .i64 (IntKind.wrap .i64 (levels_1 - 1))), (vI r8), .sc (.int .i64 (IntKind.wrap .i64 (v2 + r8))), .bad] [.box 25 (cNode n_0)] (by kernel_rfl) ?_
          refine JK_nil ?_
          obtain rfl := Option.some.inj h
          exact turn_next () (kill_go (mid := [.bad, (vI levels_1), .ref 0 0 0, .bad, .bad, .sc (.int .i64 (IntKind.wrap .i64 (v2 + r8))), .sc (.int .i64 (IntKind.wrap .i64 (v3 + 1))), .bad, .bad, .bad, .bad, .bad, .bad, .bad, .bad, .bad, .bad, .bad, .bad, .bad, .bad, .bad, .bad, .bad, .bad, .bad, .bad, .bad, .bad, .bad, .bad, .bad, .bad, .bad, .bad]) (by kernel_rfl) (mB (mC (by kernel_rfl) (mC (by kernel_rfl) (mB (mB (mC (by kernel_rfl) (mC (by kernel_rfl) (mB (mB (mB (mB (mB (mB (mB (mB (mB (mB (mB (mB (mB (mB (mB (mB (mB (mB (mB (mB (mB (mB (mB (mB (mB (mB (mB (mB mN)))))))))))))))))))))))))))))))))))) (cut_go (mid := [.box 25 (cNode n_0)]) (by kernel_rfl) (oC (oB (lC (by kernel_rfl) (lC (sl_scrub tProp _ _) (lC (sl_scrub tNode _ _) lN)))) oN))
        · rw [if_neg (ne_true h5)] at h
          refine J_condF (v := (decide (v2 < 1000))) (by kernel_rfl) h5 ?_
          refine J_exit ?_
          refine JK_sq_exit ?_
          refine JK_nil ?_
          obtain rfl := Option.some.inj h
          exact turn_exit (tm' := [.bad, .bad, .bad, .bad, .bad, (vI v2), .bad, .bad, .bad, .bad, .bad, .bad, .bad, .bad, .bad, .bad, .bad, .bad, .bad, .bad, .bad, .bad, .bad, .bad, .bad, .bad, .bad, .bad, .bad, .bad, .bad, .bad, .bad, .bad, .bad]) (st' := [.box 25 (cNode n_0)]) () (kill_go (mid := [.bad, .bad, .bad, .bad, .bad, (vI v2), .bad, .bad, .bad, .bad, .bad, .bad, .bad, .bad, .bad, .bad, .bad, .bad, .bad, .bad, .bad, .bad, .bad, .bad, .bad, .bad, .bad, .bad, .bad, .bad, .bad, .bad, .bad, .bad, .bad]) (by kernel_rfl) (mB (mB (mB (mB (mB (mC (by kernel_rfl) (mB (mB (mB (mB (mB (mB (mB (mB (mB (mB (mB (mB (mB (mB (mB (mB (mB (mB (mB (mB (mB (mB (mB (mB (mB (mB (mB (mB (mB mN)))))))))))))))))))))))))))))))))))) (cut_go (mid := [.box 25 (cNode n_0)]) (by kernel_rfl) (oC (oB (lC (by kernel_rfl) (lC (sl_scrub tProp _ _) (lC (sl_scrub tNode _ _) lN)))) oN)) (by kernel_rfl)
      · rw [if_neg (ne_true h4)] at h
        refine JS_cast (tm' := [.bad, (vI levels_1), .ref 0 0 0, .bad, .bad, (vI v2), (vI v3), .bad, .bad, .bad, .bad, .bad, .bad, (vI v3), .ref 0 0 2, Ty.sl tNode n_0.kids, .sc (.int .i64 (n_0.kids.length : Int)), (vB false), (vB false), .bad, .bad, .bad, .bad, .bad, .bad, .bad, .bad, .bad, .bad, .bad, .bad, .bad, .bad, .bad, .bad]) (by rw [h4]) rfl ?_
        refine JS_end [.bad, (vI levels_1), .ref 0 0 0, .bad, .bad, (vI v2), (vI v3), .bad, .bad, .bad, .bad, .bad, .bad, (vI v3), .ref 0 0 2, Ty.sl tNode n_0.kids, .sc (.int .i64 (n_0.kids.length : Int)), (vB false), (vB false), .tup [], .tup [], (vB false), .bad, .bad, .bad, .bad, .bad, .bad, .bad, .bad, .bad, .bad, .bad, .bad, .bad] [.box 25 (cNode n_0)] (by kernel_rfl) ?_
        refine JK_sq ?_
        refine J_condF (v := false) (by kernel_rfl) rfl ?_
        refine J_exit ?_
        refine JK_sq_exit ?_
        refine JK_nil ?_
        obtain rfl := Option.some.inj h
        exact turn_exit (tm' := [.bad, .bad, .bad, .bad, .bad, (vI v2), .bad, .bad, .bad, .bad, .bad, .bad, .bad, .bad, .bad, .bad, .bad, .bad, .bad, .bad, .bad, .bad, .bad, .bad, .bad, .bad, .bad, .bad, .bad, .bad, .bad, .bad, .bad, .bad, .bad]) (st' := [.box 25 (cNode n_0)]) () (kill_go (mid := [.bad, .bad, .bad, .bad, .bad, (vI v2), .bad, .bad, .bad, .bad, .bad, .bad, .bad, .bad, .bad, .bad, .bad, .bad, .bad, .bad, .bad, .bad, .bad, .bad, .bad, .bad, .bad, .bad, .bad, .bad, .bad, .bad, .bad, .bad, .bad]) (by kernel_rfl) (mB (mB (mB (mB (mB (mC (by kernel_rfl) (mB (mB (mB (mB (mB (mB (mB (mB (mB (mB (mB (mB (mB (mB (mB (mB (mB (mB (mB (mB (mB (mB (mB (mB (mB (mB (mB (mB (mB mN)))))))))))))))))))))))))))))))))))) (cut_go (mid := [.box 25 (cNode n_0)]) (by kernel_rfl) (oC (oB (lC (by kernel_rfl) (lC (sl_scrub tProp _ _) (lC (sl_scrub tNode _ _) lN)))) oN)) (by kernel_rfl)
    · intro g_
      refine (show JK _ _ _ _ (.exit 0, [.bad, .bad, .bad, .bad, .bad, (vI r10), .bad, .bad, .bad, .bad, .bad, .bad, .bad, .bad, .bad, .bad, .bad, .bad, .bad, .bad, .bad, .bad, .bad, .bad, .bad, .bad, .bad, .bad, .bad, .bad, .bad, .bad, .bad, .bad, .bad], [.box 25 (cNode n_0)]) from ?_)
      refine JK_bl_hit ?_
      refine JK_sq ?_
      refine J_seq ?_
      refine J_region ?_
      refine JS_end [.bad, .bad, .bad, .bad, (vI r10), (vI r10), .bad, .bad, .bad, .bad, .bad, .bad, .bad, .bad, .bad, .bad, .bad, .bad, .bad, .bad, .bad, .bad, .bad, .bad, .bad, .bad, .bad, .bad, .bad, .bad, .bad, .bad, .bad, .bad, (vI r10)] [.box 25 (cNode n_0)] (by kernel_rfl) ?_
      refine JK_sq ?_
      refine J_ret ?_
      refine JK_nil ?_
      obtain rfl := Option.some.inj h
      exact ret_A (r := (vI r10)) (r' := (vI r10)) (.inl rfl) (by kernel_rfl) (by kernel_rfl) rfl ⟨by kernel_rfl, rfl⟩

theorem ref12_size_k_C : ∀ (k : Nat) (n_0 : GNode) (levels_1 : Int) (r : Int) (st : Store), ref12_size_k k n_0 levels_1 = some r → fcall E0 47 [.agg (cNode n_0), (vI levels_1)] st = some ((vI r), st)
  | 0, n_0, levels_1, r, st, h => by simp [ref12_size_k] at h
  | k + 1, n_0, levels_1, r, st, h => ref12_size_b_C (ref12_size_k k) (ref12_size_k_C k) n_0 levels_1 r st (by simpa only [ref12_size_k] using h)

theorem ref12_size_C (n_0 : GNode) (levels_1 : Int) (r : Int) (st : Store) (h : ref12_size n_0 levels_1 = some r) : fcall E0 47 [.agg (cNode n_0), (vI levels_1)] st = some ((vI r), st) := by
  obtain ⟨k, hk⟩ := limF_some h
  exact ref12_size_k_C k n_0 levels_1 r st hk

theorem ref12_Low_C (n_0 : GNode) (r : Bool) (st : Store) (h : ref12_Low n_0 = some r) : fcall E0 9 [.agg (cNode n_0)] st = some ((vB r), st) := by
  unfold ref12_Low at h
  refine fn_alone (fn := Tryd.f9) (av' := [.agg (cNode n_0), .bad, .bad, .bad, .bad, .bad, .bad, .bad, .bad, .bad]) rfl fn_9 rfl (pC (pAgg (pC rfl (pC (sl_pure tProp _) (pC (sl_pure tNode _) pN)))) pN) rfl rfl rfl (has_go (as1 := [.agg (cNode n_0)]) (lC (sAgg (lC (by kernel_rfl) (lC (sl_scrub tProp _ _) (lC (sl_scrub tNode _ _) lN)))) lN) (by kernel_rfl)) ?_
  refine J_seq ?_
  refine J_region ?_
  refine JS_end [.agg (cNode n_0), .ref 0 0 0, (vB false), .bad, .bad, .bad, .bad, .bad, .bad, .bad] [.box 25 (cNode n_0)] (by kernel_rfl) ?_
  refine JK_sq ?_
  refine J_seq ?_
  refine J_region ?_
  refine JS_seg 1 [.agg (cNode n_0), .ref 0 0 0, (vB false), .agg (cNode n_0), .bad, .bad, .bad, .bad, .bad, .bad] [.box 25 (cNode n_0)] (by kernel_rfl) ?_
  obtain ⟨r1, h2, h⟩ := Option.bind_eq_some_iff.1 h
  refine JS_upd (fun s => fcall E0 46 [.agg (cNode n_0), (vI 12)] s) (by kernel_rfl) (ref12_low_C n_0 12 _ _ h2) ?_
  refine JS_seg 3 [.agg (cNode n_0), .ref 0 0 0, (vB false), .agg (cNode n_0), (vB r1), (vB r1), .bad, .bad, .bad, .bad] [.box 25 (cNode n_0)] (by kernel_rfl) ?_
  rcases bool_cases r1 with h3 | h3
  · rw [if_pos h3] at h
    refine JS_cast (tm' := [.agg (cNode n_0), .ref 0 0 0, (vB false), .agg (cNode n_0), (vB true), (vB true), .bad, .bad, .bad, .bad]) (by rw [h3]) rfl ?_
    refine JS_seg 4 [.agg (cNode n_0), .ref 0 0 0, (vB false), .agg (cNode n_0), (vB true), (vB true), .agg (cNode n_0), .bad, .bad, .bad] [.box 25 (cNode n_0)] (by kernel_rfl) ?_
    obtain ⟨r4, h5, h⟩ := Option.bind_eq_some_iff.1 h
    refine JS_upd (fun s => fcall E0 47 [.agg (cNode n_0), (vI 12)] s) (by kernel_rfl) (ref12_size_C n_0 12 _ _ h5) ?_
    refine JS_end [.agg (cNode n_0), .ref 0 0 0, .sc (.bool (decide (r4 ≤ 400))), .agg (cNode n_0), (vB true), (vB true), .agg (cNode n_0), (vI r4), .sc (.bool (decide (r4 ≤ 400))), .sc (.bool (decide (r4 ≤ 400)))] [.box 25 (cNode n_0)] (by kernel_rfl) ?_
    refine JK_sq ?_
    refine J_ret ?_
    refine JK_nil ?_
    obtain rfl := Option.some.inj h
    exact ret_A (r := .sc (.bool (decide (r4 ≤ 400)))) (r' := .sc (.bool (decide (r4 ≤ 400)))) (.inl rfl) (by kernel_rfl) (by kernel_rfl) rfl ⟨by kernel_rfl, rfl⟩
  · rw [if_neg (ne_true h3)] at h
    refine JS_cast (tm' := [.agg (cNode n_0), .ref 0 0 0, (vB false), .agg (cNode n_0), (vB false), (vB false), .bad, .bad, .bad, .bad]) (by rw [h3]) rfl ?_
    refine JS_end [.agg (cNode n_0), .ref 0 0 0, (vB false), .agg (cNode n_0), (vB false), (vB false), .tup [], .tup [], .tup [], (vB false)] [.box 25 (cNode n_0)] (by kernel_rfl) ?_
    refine JK_sq ?_
    refine J_ret ?_
    refine JK_nil ?_
    obtain rfl := Option.some.inj h
    exact ret_A (r := (vB false)) (r' := (vB false)) (.inl rfl) (by kernel_rfl) (by kernel_rfl) rfl ⟨by kernel_rfl, rfl⟩

theorem law16_awake_C (r : Bool) (st : Store) (h : law16_awake = some r) : fcall E0 10 [] st = some ((vB r), st) := by
  obtain rfl := Option.some.inj h
  exact fcall_some.2 ⟨1000, by kernel_rfl⟩

theorem stringslite_HasPrefix_C (s_0 : Str) (prefix_1 : Str) (r : Bool) (st : Store) (h : stringslite_HasPrefix s_0 prefix_1 = some r) : fcall E0 118 [strV s_0, strV prefix_1] st = some ((vB r), st) := by
  unfold stringslite_HasPrefix at h
  refine fn_alone (fn := Tryd.f118) (av' := [strV s_0, strV prefix_1, .bad, .bad, .bad, .bad, .bad, .bad, .bad, .bad, .bad, .bad, .bad, .bad, .bad, .bad, .bad, .bad]) rfl fn_118 rfl (pC rfl (pC rfl pN)) rfl rfl rfl (has_go (as1 := [strV s_0, strV prefix_1]) (lC (by kernel_rfl) (lC (by kernel_rfl) lN)) (by kernel_rfl)) ?_
  refine J_seq ?_
  refine J_region ?_
  refine JS_end [strV s_0, strV prefix_1, .bad, .bad, (vB false), .bad, .bad, .bad, .bad, .bad, .bad, .bad, .bad, .bad, .bad, .bad, .bad, .bad] [] (by kernel_rfl) ?_
  refine JK_sq ?_
  refine J_seq ?_
  refine J_region ?_
  refine JS_seg 6 [strV s_0, strV prefix_1, .bad, .bad, (vB false), strV s_0, .sc (.int .i64 (s_0.length : Int)), strV prefix_1, .sc (.int .i64 (prefix_1.length : Int)), .sc (.bool (decide ((s_0.length : Int) ≥ (prefix_1.length : Int)))), .sc (.bool (decide ((s_0.length : Int) ≥ (prefix_1.length : Int)))), .bad, .bad, .bad, .bad, .bad, .bad, .bad] [] (by kernel_rfl) ?_
  rcases bool_cases (decide ((s_0.length : Int) ≥ (prefix_1.length : Int))) with h1 | h1
  · rw [if_pos h1] at h
    refine JS_cast (tm' := [strV s_0, strV prefix_1, .bad, .bad, (vB false), strV s_0, .sc (.int .i64 (s_0.length : Int)), strV prefix_1, .sc (.int .i64 (prefix_1.length : Int)), (vB true), (vB true), .bad, .bad, .bad, .bad, .bad, .bad, .bad]) (by rw [h1]) rfl ?_
    refine JS_seg 9 [strV s_0, strV prefix_1, .bad, .bad, (vB false), strV s_0, .sc (.int .i64 (s_0.length : Int)), strV prefix_1, .sc (.int .i64 (prefix_1.length : Int)), (vB true), (vB true), strV s_0, strV prefix_1, .sc (.int .i64 (prefix_1.length : Int)), .bad, .bad, .bad, .bad] [] (by kernel_rfl) ?_
    obtain ⟨s2, h3, h⟩ := Option.bind_eq_some_iff.1 h
    refine JS_val (fun s => aslice E0.tb s 9 (strV s_0) none (some (.sc (.int .i64 (prefix_1.length : Int))))) (by kernel_rfl) (str_sub tb_9 rfl loV_none hiV_some h3) ?_
    refine JS_seg 11 [strV s_0, strV prefix_1, .bad, .bad, (vB false), strV s_0, .sc (.int .i64 (s_0.length : Int)), strV prefix_1, .sc (.int .i64 (prefix_1.length : Int)), (vB true), (vB true), strV s_0, strV prefix_1, .sc (.int .i64 (prefix_1.length : Int)), strV s2, strV prefix_1, .bad, .bad] [] (by kernel_rfl) ?_
    refine JS_val (fun s => abin E0.tb s .eql 9 (strV s2) (strV prefix_1)) (by kernel_rfl) (str_eq s2 prefix_1) ?_
    refine JS_end [strV s_0, strV prefix_1, .bad, .bad, .sc (.bool (s2 == prefix_1)), strV s_0, .sc (.int .i64 (s_0.length : Int)), strV prefix_1, .sc (.int .i64 (prefix_1.length : Int)), (vB true), (vB true), strV s_0, strV prefix_1, .sc (.int .i64 (prefix_1.length : Int)), strV s2, strV prefix_1, .sc (.bool (s2 == prefix_1)), .sc (.bool (s2 == prefix_1))] [] (by kernel_rfl) ?_
    refine JK_sq ?_
    refine J_ret ?_
    refine JK_nil ?_
    obtain rfl := Option.some.inj h
    exact ret_A (r := .sc (.bool (s2 == prefix_1))) (r' := .sc (.bool (s2 == prefix_1))) (.inl rfl) (by kernel_rfl) (by kernel_rfl) rfl ⟨by kernel_rfl, rfl⟩
  · rw [if_neg (ne_true h1)] at h
    refine JS_cast (tm' := [strV s_0, strV prefix_1, .bad, .bad, (vB false), strV s_0, .sc (.int .i64 (s_0.length : Int)), strV prefix_1, .sc (.int .i64 (prefix_1.length : Int)), (vB false), (vB false), .bad, .bad, .bad, .bad, .bad, .bad, .bad]) (by rw [h1]) rfl ?_
    refine JS_end [strV s_0, strV prefix_1, .bad, .bad, (vB false), strV s_0, .sc (.int .i64 (s_0.length : Int)), strV prefix_1, .sc (.int .i64 (prefix_1.length : Int)), (vB false), (vB false), .tup [], .tup [], .tup [], .tup [], .tup [], .tup [], (vB false)] [] (by kernel_rfl) ?_
    refine JK_sq ?_
    refine J_ret ?_
    refine JK_nil ?_
    obtain rfl := Option.some.inj h
    exact ret_A (r := (vB false)) (r' := (vB false)) (.inl rfl) (by kernel_rfl) (by kernel_rfl) rfl ⟨by kernel_rfl, rfl⟩

theorem stringslite_CutPrefix_C (s_0 : Str) (prefix_1 : Str) (r : Str × Bool) (st : Store) (h : stringslite_CutPrefix s_0 prefix_1 = some r) : fcall E0 98 [strV s_0, strV prefix_1] st = some (.tup [strV r.1, .sc (.bool r.2)], st) := by
  unfold stringslite_CutPrefix at h
  refine fn_alone (fn := Tryd.f98) (av' := [strV s_0, strV prefix_1, .bad, .bad, .bad, .bad, .bad, .bad, .bad, .bad, .bad, .bad, .bad, .bad, .bad]) rfl fn_98 rfl (pC rfl (pC rfl pN)) rfl rfl rfl (has_go (as1 := [strV s_0, strV prefix_1]) (lC (by kernel_rfl) (lC (by kernel_rfl) lN)) (by kernel_rfl)) ?_
  refine J_seq ?_
  refine J_region ?_
  refine JS_end [strV s_0, strV prefix_1, .bad, .bad, strV [], (vB false), .bad, .bad, .bad, .bad, .bad, .bad, .bad, .bad, .bad] [] (by kernel_rfl) ?_
  refine JK_sq ?_
  refine J_seq ?_
  refine J_seq ?_
  refine J_region ?_
  refine JS_seg 2 [strV s_0, strV prefix_1, .bad, .bad, strV [], (vB false), strV s_0, strV prefix_1, .bad, .bad, .bad, .bad, .bad, .bad, .bad] [] (by kernel_rfl) ?_
  obtain ⟨r1, h2, h⟩ := Option.bind_eq_some_iff.1 h
  refine JS_upd (fun s => fcall E0 118 [strV s_0, strV prefix_1] s) (by kernel_rfl) (stringslite_HasPrefix_C s_0 prefix_1 _ _ h2) ?_
  refine JS_end [strV s_0, strV prefix_1, .bad, .bad, strV [], (vB false), strV s_0, strV prefix_1, (vB r1), .sc (.bool (!r1)), .bad, .bad, .bad, .bad, .bad] [] (by kernel_rfl) ?_
  refine JK_sq ?_
  rcases bool_cases (!r1) with h3 | h3
  · rw [if_pos h3] at h
    refine J_condT (v := (!r1)) (by kernel_rfl) h3 ?_
    refine J_seq ?_
    refine J_region ?_
    refine JS_end [strV s_0, strV prefix_1, .bad, .bad, strV s_0, (vB false), strV s_0, strV prefix_1, (vB r1), .sc (.bool (!r1)), strV s_0, .bad, .bad, .bad, .bad] [] (by kernel_rfl) ?_
    refine JK_sq ?_
    refine J_ret ?_
    refine JK_sq_ret ?_
    refine JK_nil ?_
    obtain rfl := Option.some.inj h
    exact ret_A (r := .tup [strV s_0, (vB false)]) (r' := .tup [strV s_0, (vB false)]) (.inl rfl) (by kernel_rfl) (fTup (fC (by kernel_rfl) (fC (by kernel_rfl) fN))) (pTup (pC rfl (pC rfl pN))) ⟨by kernel_rfl, rfl⟩
  · rw [if_neg (ne_true h3)] at h
    refine J_condF (v := (!r1)) (by kernel_rfl) h3 ?_
    refine J_skip ?_
    refine JK_sq ?_
    refine J_seq ?_
    refine J_region ?_
    refine JS_seg 3 [strV s_0, strV prefix_1, .bad, .bad, strV [], (vB false), strV s_0, strV prefix_1, (vB r1), .sc (.bool (!r1)), .bad, strV s_0, strV prefix_1, .sc (.int .i64 (prefix_1.length : Int)), .bad] [] (by kernel_rfl) ?_
    obtain ⟨s4, h5, h⟩ := Option.bind_eq_some_iff.1 h
    refine JS_val (fun s => aslice E0.tb s 9 (strV s_0) (some (.sc (.int .i64 (prefix_1.length : Int)))) none) (by kernel_rfl) (str_sub tb_9 rfl loV_some hiV_none h5) ?_
    refine JS_end [strV s_0, strV prefix_1, .bad, .bad, strV s4, (vB true), strV s_0, strV prefix_1, (vB r1), .sc (.bool (!r1)), .bad, strV s_0, strV prefix_1, .sc (.int .i64 (prefix_1.length : Int)), strV s4] [] (by kernel_rfl) ?_
    refine JK_sq ?_
    refine J_ret ?_
    refine JK_nil ?_
    obtain rfl := Option.some.inj h
    exact ret_A (r := .tup [strV s4, (vB true)]) (r' := .tup [strV s4, (vB true)]) (.inl rfl) (by kernel_rfl) (fTup (fC (by kernel_rfl) (fC (by kernel_rfl) fN))) (pTup (pC rfl (pC rfl pN))) ⟨by kernel_rfl, rfl⟩

theorem strings_CutPrefix_C (s_0 : Str) (prefix_1 : Str) (r : Str × Bool) (st : Store) (h : strings_CutPrefix s_0 prefix_1 = some r) : fcall E0 60 [strV s_0, strV prefix_1] st = some (.tup [strV r.1, .sc (.bool r.2)], st) := by
  unfold strings_CutPrefix at h
  refine fn_alone (fn := Tryd.f60) (av' := [strV s_0, strV prefix_1, .bad, .bad, .bad, .bad, .bad, .bad, .bad, .bad, .bad]) rfl fn_60 rfl (pC rfl (pC rfl pN)) rfl rfl rfl (has_go (as1 := [strV s_0, strV prefix_1]) (lC (by kernel_rfl) (lC (by kernel_rfl) lN)) (by kernel_rfl)) ?_
  refine J_seq ?_
  refine J_region ?_
  refine JS_end [strV s_0, strV prefix_1, .bad, .bad, strV [], (vB false), .bad, .bad, .bad, .bad, .bad] [] (by kernel_rfl) ?_
  refine JK_sq ?_
  refine J_seq ?_
  refine J_region ?_
  refine JS_seg 2 [strV s_0, strV prefix_1, .bad, .bad, strV [], (vB false), strV s_0, strV prefix_1, .bad, .bad, .bad] [] (by kernel_rfl) ?_
  obtain ⟨r1, h2, h⟩ := Option.bind_eq_some_iff.1 h
  refine JS_upd (fun s => fcall E0 98 [strV s_0, strV prefix_1] s) (by kernel_rfl) (stringslite_CutPrefix_C s_0 prefix_1 _ _ h2) ?_
  refine JS_end [strV s_0, strV prefix_1, .bad, .bad, strV r1.1, .sc (.bool r1.2), strV s_0, strV prefix_1, .tup [strV r1.1, .sc (.bool r1.2)], strV r1.1, .sc (.bool r1.2)] [] (by kernel_rfl) ?_
  refine JK_sq ?_
  refine J_ret ?_
  refine JK_nil ?_
  obtain rfl := Option.some.inj h
  exact ret_A (r := .tup [strV r1.1, .sc (.bool r1.2)]) (r' := .tup [strV r1.1, .sc (.bool r1.2)]) (.inl rfl) (by kernel_rfl) (fTup (fC (by kernel_rfl) (fC (by kernel_rfl) fN))) (pTup (pC rfl (pC rfl pN))) ⟨by kernel_rfl, rfl⟩

theorem slices_Index_string_C (s_0 : List Str) (v_1 : Str) (r : Int) (st : Store) (h : slices_Index_string s_0 v_1 = some r) : fcall E0 100 [Ty.sl tS s_0, strV v_1] st = some ((vI r), st) := by
  unfold slices_Index_string at h
  refine fn_alone (fn := Tryd.f100) (av' := [Ty.sl tS s_0, strV v_1, .bad, .bad, .bad, .bad, .bad, .bad, .bad, .bad, .bad, .bad, .bad, .bad, .bad, .bad, .bad, .bad, .bad]) rfl fn_100 rfl (pC (sl_pure tS _) (pC rfl pN)) rfl rfl rfl (has_go (as1 := [Ty.sl tS s_0, strV v_1]) (lC (sl_scrub tS _ _) (lC (by kernel_rfl) lN)) (by kernel_rfl)) ?_
  refine J_seq ?_
  refine J_region ?_
  refine JS_end [Ty.sl tS s_0, strV v_1, .bad, .bad, (vI 0), .bad, .bad, .bad, .bad, .bad, .bad, .bad, .bad, .bad, .bad, .bad, .bad, .bad, .bad] [] (by kernel_rfl) ?_
  refine JK_sq ?_
  refine J_seq ?_
  refine J_seq ?_
  refine J_region ?_
  refine JS_end [Ty.sl tS s_0, strV v_1, .bad, .bad, (vI 0), .bad, Ty.sl tS s_0, .sc (.int .i64 (s_0.length : Int)), (vI 0), .bad, .bad, .bad, .bad, .bad, .bad, .bad, .bad, .bad, .bad] [] (by kernel_rfl) ?_
  refine JK_sq ?_
  refine J_block ?_
  obtain ⟨r6, h7, h⟩ := Option.bind_eq_some_iff.1 h
  refine J_loop (γ := Unit) h7 0 [Ty.sl tS s_0, strV v_1, .bad, .bad, (vI 0), .bad, Ty.sl tS s_0, .sc (.int .i64 (s_0.length : Int)), (vI 0), .bad, .bad, .bad, .bad, .bad, .bad, .bad, .bad, .bad, .bad] [] (fun s g => [Ty.sl tS s_0, strV v_1, .bad, .bad, .bad, .bad, .bad, .sc (.int .i64 (s_0.length : Int)), (vI s), .bad, .bad, .bad, .bad, .bad, .bad, .bad, .bad, .bad, .bad]) (fun s g => []) (fun r g => match r with | (.inl r) => (.exit 0, [.bad, .bad, .bad, .bad, .bad, .bad, .bad, .bad, .bad, .bad, .bad, .bad, .bad, .bad, .bad, .bad, .bad, .bad, .bad], []) | (.inr r) => (.ret, [.bad, .bad, .bad, .bad, (vI r), .bad, .bad, .bad, .bad, .bad, .bad, .bad, .bad, .bad, .bad, .bad, .bad, .bad, .bad], [])) () (by kernel_rfl) (by kernel_rfl) (kill_go (mid := [Ty.sl tS s_0, strV v_1, .bad, .bad, .bad, .bad, .bad, .sc (.int .i64 (s_0.length : Int)), (vI 0), .bad, .bad, .bad, .bad, .bad, .bad, .bad, .bad, .bad, .bad]) (by kernel_rfl) (mC (sl_scrub tS _ _) (mC (by kernel_rfl) (mB (mB (mB (mB (mB (mC (by kernel_rfl) (mC (by kernel_rfl) (mB (mB (mB (mB (mB (mB (mB (mB (mB (mB mN)))))))))))))))))))) (cut_go (mid := []) (by kernel_rfl) oN) ?_ ?_
  · rintro v1 _ y h
    unfold slices_Index_string_l1 at h
    refine J_seq ?_
    refine J_region ?_
    refine JS_end [Ty.sl tS s_0, strV v_1, .bad, .bad, .bad, .bad, .bad, .sc (.int .i64 (s_0.length : Int)), (vI v1), .sc (.bool (decide (v1 < (s_0.length : Int)))), .bad, .bad, .bad, .bad, .bad, .bad, .bad, .bad, .bad] [] (by kernel_rfl) ?_
    refine JK_sq ?_
    refine J_seq ?_
    rcases bool_cases (decide (v1 < (s_0.length : Int))) with h2 | h2
    · rw [if_pos h2] at h
      refine J_condT (v := (decide (v1 < (s_0.length : Int)))) (by kernel_rfl) h2 ?_
      refine J_skip ?_
      refine JK_sq ?_
      refine J_seq ?_
      refine J_block ?_
      refine J_seq ?_
      refine J_region ?_
      refine JS_end [Ty.sl tS s_0, strV v_1, .bad, .bad, .bad, (vI v1), .bad, .sc (.int .i64 (s_0.length : Int)), (vI v1), .sc (.bool (decide (v1 < (s_0.length : Int)))), (vI v1), .bad, .bad, .bad, .bad, .bad, .bad, .bad, .bad] [] (by kernel_rfl) ?_
      refine JK_sq ?_
      refine J_seq ?_
      refine J_region ?_
      refine JS_seg 3 [Ty.sl tS s_0, strV v_1, .bad, .bad, .bad, (vI v1), .bad, .sc (.int .i64 (s_0.length : Int)), (vI v1), .sc (.bool (decide (v1 < (s_0.length : Int)))), (vI v1), strV v_1, Ty.sl tS s_0, (vI v1), .bad, .bad, .bad, .bad, .bad] [] (by kernel_rfl) ?_
      obtain ⟨x3, h4, h⟩ := Option.bind_eq_some_iff.1 h
      refine JS_val (fun s => aindexAddr E0.tb s 37 (Ty.sl tS s_0) ((vI v1))) (by kernel_rfl) (sl_addr tS tb_37 rfl tb_9 rfl h4) ?_
      refine JS_seg 4 [Ty.sl tS s_0, strV v_1, .bad, .bad, .bad, (vI v1), .bad, .sc (.int .i64 (s_0.length : Int)), (vI v1), .sc (.bool (decide (v1 < (s_0.length : Int)))), (vI v1), strV v_1, Ty.sl tS s_0, (vI v1), .fp (List.flatMap (Ty.cells tS) s_0) (v1.toNat * Ty.size tS), .bad, .bad, .bad, .bad] [] (by kernel_rfl) ?_
      refine JS_val (fun s => aload E0.tb s 9 (.fp (List.flatMap (Ty.cells tS) s_0) (v1.toNat * Ty.size tS))) (by kernel_rfl) (fp_load1 tS (o := 0) tb_9 rfl h4 (rfl)) ?_
      refine JS_seg 5 [Ty.sl tS s_0, strV v_1, .bad, .bad, .bad, (vI v1), .bad, .sc (.int .i64 (s_0.length : Int)), (vI v1), .sc (.bool (decide (v1 < (s_0.length : Int)))), (vI v1), strV v_1, Ty.sl tS s_0, (vI v1), .fp (List.flatMap (Ty.cells tS) s_0) (v1.toNat * Ty.size tS), strV x3, .bad, .bad, .bad] [] (by kernel_rfl) ?_
      refine JS_val (fun s => abin E0.tb s .eql 9 (strV v_1) (strV x3)) (by kernel_rfl) (str_eq v_1 x3) ?_
      refine JS_end [Ty.sl tS s_0, strV v_1, .bad, .bad, .bad, (vI v1), .bad, .sc (.int .i64 (s_0.length : Int)), (vI v1), .sc (.bool (decide (v1 < (s_0.length : Int)))), (vI v1), strV v_1, Ty.sl tS s_0, (vI v1), .fp (List.flatMap (Ty.cells tS) s_0) (v1.toNat * Ty.size tS), strV x3, .sc (.bool (v_1 == x3)), .bad, .bad] [] (by kernel_rfl) ?_
      refine JK_sq ?_
      rcases bool_cases (v_1 == x3) with h5 | h5
      · rw [if_pos h5] at h
        refine J_condT (v := (v_1 == x3)) (by kernel_rfl) h5 ?_
        refine J_seq ?_
        refine J_region ?_
        refine JS_end [Ty.sl tS s_0, strV v_1, .bad, .bad, (vI v1), (vI v1), .bad, .sc (.int .i64 (s_0.length : Int)), (vI v1), .sc (.bool (decide (v1 < (s_0.length : Int)))), (vI v1), strV v_1, Ty.sl tS s_0, (vI v1), .fp (List.flatMap (Ty.cells tS) s_0) (v1.toNat * Ty.size tS), strV x3, .sc (.bool (v_1 == x3)), (vI v1), .bad] [] (by kernel_rfl) ?_
        refine JK_sq ?_
        refine J_ret ?_
        refine JK_bl_ret ?_
        refine JK_sq_ret ?_
        refine JK_nil ?_
        obtain rfl := Option.some.inj h
        exact turn_ret (tm' := [.bad, .bad, .bad, .bad, (vI v1), .bad, .bad, .bad, .bad, .bad, .bad, .bad, .bad, .bad, .bad, .bad, .bad, .bad, .bad]) (st' := []) () (kill_go (mid := [.bad, .bad, .bad, .bad, (vI v1), .bad, .bad, .bad, .bad, .bad, .bad, .bad, .bad, .bad, .bad, .bad, .bad, .bad, .bad]) (by kernel_rfl) (mB (mB (mB (mB (mC (by kernel_rfl) (mB (mB (mB (mB (mB (mB (mB (mB (mB (mB (mB (mB (mB (mB mN)))))))))))))))))))) (cut_go (mid := []) (by kernel_rfl) oN) (by kernel_rfl)
      · rw [if_neg (ne_true h5)] at h
        refine J_condF (v := (v_1 == x3)) (by kernel_rfl) h5 ?_
        refine J_skip ?_
        refine JK_bl ?_
        refine JK_sq ?_
        refine J_region ?_
        refine JS_end [Ty.sl tS s_0, strV v_1, .bad, .bad, .bad, (vI v1), .bad, .sc (.int .i64 (s_0.length : Int)), .sc (.int .i64 (IntKind.wrap .i64 (v1 + 1))), .sc (.bool (decide (v1 < (s_0.length : Int)))), (vI v1), strV v_1, Ty.sl tS s_0, (vI v1), .fp (List.flatMap (Ty.cells tS) s_0) (v1.toNat * Ty.size tS), strV x3, .sc (.bool (v_1 == x3)), .bad, .sc (.int .i64 (IntKind.wrap .i64 (v1 + 1)))] [] (by kernel_rfl) ?_
        refine JK_nil ?_
        obtain rfl := Option.some.inj h
        exact turn_next () (kill_go (mid := [Ty.sl tS s_0, strV v_1, .bad, .bad, .bad, .bad, .bad, .sc (.int .i64 (s_0.length : Int)), .sc (.int .i64 (IntKind.wrap .i64 (v1 + 1))), .bad, .bad, .bad, .bad, .bad, .bad, .bad, .bad, .bad, .bad]) (by kernel_rfl) (mC (sl_scrub tS _ _) (mC (by kernel_rfl) (mB (mB (mB (mB (mB (mC (by kernel_rfl) (mC (by kernel_rfl) (mB (mB (mB (mB (mB (mB (mB (mB (mB (mB mN)))))))))))))))))))) (cut_go (mid := []) (by kernel_rfl) oN)
    · rw [if_neg (ne_true h2)] at h
      refine J_condF (v := (decide (v1 < (s_0.length : Int)))) (by kernel_rfl) h2 ?_
      refine J_exit ?_
      refine JK_sq_exit ?_
      refine JK_nil ?_
      obtain rfl := Option.some.inj h
      exact turn_exit (tm' := [.bad, .bad, .bad, .bad, .bad, .bad, .bad, .bad, .bad, .bad, .bad, .bad, .bad, .bad, .bad, .bad, .bad, .bad, .bad]) (st' := []) () (kill_go (mid := [.bad, .bad, .bad, .bad, .bad, .bad, .bad, .bad, .bad, .bad, .bad, .bad, .bad, .bad, .bad, .bad, .bad, .bad, .bad]) (by kernel_rfl) (mB (mB (mB (mB (mB (mB (mB (mB (mB (mB (mB (mB (mB (mB (mB (mB (mB (mB (mB mN)))))))))))))))))))) (cut_go (mid := []) (by kernel_rfl) oN) (by kernel_rfl)
  · intro g_
    rcases r6 with r8 | r9
    · dsimp only at h
      refine (show JK _ _ _ _ (.exit 0, [.bad, .bad, .bad, .bad, .bad, .bad, .bad, .bad, .bad, .bad, .bad, .bad, .bad, .bad, .bad, .bad, .bad, .bad, .bad], []) from ?_)
      refine JK_bl_hit ?_
      refine JK_sq ?_
      refine J_seq ?_
      refine J_region ?_
      refine JS_end [.bad, .bad, .bad, .bad, .sc (.int .i64 (-1)), .bad, .bad, .bad, .bad, .bad, .bad, .bad, .bad, .bad, .bad, .bad, .bad, .bad, .bad] [] (by kernel_rfl) ?_
      refine JK_sq ?_
      refine J_ret ?_
      refine JK_nil ?_
      obtain rfl := Option.some.inj h
      exact ret_A (r := .sc (.int .i64 (-1))) (r' := .sc (.int .i64 (-1))) (.inl rfl) (by kernel_rfl) (by kernel_rfl) rfl ⟨by kernel_rfl, rfl⟩
    · dsimp only at h
      refine (show JK _ _ _ _ (.ret, [.bad, .bad, .bad, .bad, (vI r9), .bad, .bad, .bad, .bad, .bad, .bad, .bad, .bad, .bad, .bad, .bad, .bad, .bad, .bad], []) from ?_)
      refine JK_bl_ret ?_
      refine JK_sq_ret ?_
      refine JK_nil ?_
      obtain rfl := Option.some.inj h
      exact ret_A (r := (vI r9)) (r' := (vI r9)) (.inl rfl) (by kernel_rfl) (by kernel_rfl) rfl ⟨by kernel_rfl, rfl⟩

theorem slices_Contains_string_C (s_0 : List Str) (v_1 : Str) (r : Bool) (st : Store) (h : slices_Contains_string s_0 v_1 = some r) : fcall E0 62 [Ty.sl tS s_0, strV v_1] st = some ((vB r), st) := by
  unfold slices_Contains_string at h
  refine fn_alone (fn := Tryd.f62) (av' := [Ty.sl tS s_0, strV v_1, .bad, .bad, .bad, .bad, .bad, .bad, .bad]) rfl fn_62 rfl (pC (sl_pure tS _) (pC rfl pN)) rfl rfl rfl (has_go (as1 := [Ty.sl tS s_0, strV v_1]) (lC (sl_scrub tS _ _) (lC (by kernel_rfl) lN)) (by kernel_rfl)) ?_
  refine J_seq ?_
  refine J_region ?_
  refine JS_end [Ty.sl tS s_0, strV v_1, .bad, .bad, (vB false), .bad, .bad, .bad, .bad] [] (by kernel_rfl) ?_
  refine JK_sq ?_
  refine J_seq ?_
  refine J_region ?_
  refine JS_seg 2 [Ty.sl tS s_0, strV v_1, .bad, .bad, (vB false), Ty.sl tS s_0, strV v_1, .bad, .bad] [] (by kernel_rfl) ?_
  obtain ⟨r1, h2, h⟩ := Option.bind_eq_some_iff.1 h
  refine JS_upd (fun s => fcall E0 100 [Ty.sl tS s_0, strV v_1] s) (by kernel_rfl) (slices_Index_string_C s_0 v_1 _ _ h2) ?_
  refine JS_end [Ty.sl tS s_0, strV v_1, .bad, .bad, .sc (.bool (decide (r1 ≥ 0))), Ty.sl tS s_0, strV v_1, (vI r1), .sc (.bool (decide (r1 ≥ 0)))] [] (by kernel_rfl) ?_
  refine JK_sq ?_
  refine J_ret ?_
  refine JK_nil ?_
  obtain rfl := Option.some.inj h
  exact ret_A (r := .sc (.bool (decide (r1 ≥ 0)))) (r' := .sc (.bool (decide (r1 ≥ 0)))) (.inl rfl) (by kernel_rfl) (by kernel_rfl) rfl ⟨by kernel_rfl, rfl⟩

theorem path_Parts_C (path_0 : Str) (r : (List Str) × Bool) (st : Store) (h : path_Parts path_0 = some r) : fcall E0 22 [strV path_0] st = some (.tup [Ty.sl tS r.1, .sc (.bool r.2)], st) := by
  unfold path_Parts at h
  refine fn_alone (fn := Tryd.f22) (av' := [strV path_0, .bad, .bad, .bad, .bad, .bad, .bad, .bad, .bad, .bad, .bad, .bad, .bad, .bad, .bad, .bad, .bad, .bad, .bad, .bad, .bad, .bad, .bad, .bad, .bad, .bad, .bad, .bad]) rfl fn_22 rfl (pC rfl pN) rfl rfl rfl (has_go (as1 := [strV path_0]) (lC (by kernel_rfl) lN) (by kernel_rfl)) ?_
  refine J_seq ?_
  refine J_region ?_
  refine JS_end [strV path_0, .bad, .sc (.slice none 0 0), (vB false), .bad, .bad, .bad, .bad, .bad, .bad, .bad, .bad, .bad, .bad, .bad, .bad, .bad, .bad, .bad, .bad, .bad, .bad, .bad, .bad, .bad, .bad, .bad, .bad] [] (by kernel_rfl) ?_
  refine JK_sq ?_
  refine J_seq ?_
  refine J_seq ?_
  refine J_region ?_
  refine JS_seg 1 [strV path_0, .bad, .sc (.slice none 0 0), (vB false), .bad, .bad, .bad, strV path_0, .bad, .bad, .bad, .bad, .bad, .bad, .bad, .bad, .bad, .bad, .bad, .bad, .bad, .bad, .bad, .bad, .bad, .bad, .bad, .bad] [] (by kernel_rfl) ?_
  refine JS_val (fun s => abin E0.tb s .eql 9 (strV path_0) (strV [47])) (by kernel_rfl) (str_eq path_0 ([47] : Str)) ?_
  refine JS_end [strV path_0, .bad, .sc (.slice none 0 0), (vB false), .bad, .bad, .bad, strV path_0, .sc (.bool (path_0 == ([47] : Str))), .bad, .bad, .bad, .bad, .bad, .bad, .bad, .bad, .bad, .bad, .bad, .bad, .bad, .bad, .bad, .bad, .bad, .bad, .bad] [] (by kernel_rfl) ?_
  refine JK_sq ?_
  rcases bool_cases (path_0 == ([47] : Str)) with h1 | h1
  · rw [if_pos h1] at h
    refine J_condT (v := (path_0 == ([47] : Str))) (by kernel_rfl) h1 ?_
    refine J_seq ?_
    refine J_region ?_
    refine JS_end [strV path_0, .bad, .sc (.slice none 0 0), (vB true), .bad, .bad, .bad, strV path_0, .sc (.bool (path_0 == ([47] : Str))), .bad, .bad, .bad, .bad, .bad, .bad, .bad, .bad, .bad, .bad, .bad, .bad, .bad, .bad, .bad, .bad, .bad, .bad, .bad] [] (by kernel_rfl) ?_
    refine JK_sq ?_
    refine J_ret ?_
    refine JK_sq_ret ?_
    refine JK_nil ?_
    obtain rfl := Option.some.inj h
    exact ret_A (r := .tup [.sc (.slice none 0 0), (vB true)]) (r' := .tup [Ty.sl tS [], (vB true)]) (.inl rfl) (by kernel_rfl) (fTup (fC (by kernel_rfl) (fC (by kernel_rfl) fN))) (pTup (pC (sl_pure tS _) (pC rfl pN))) ⟨by kernel_rfl, rfl⟩
  · rw [if_neg (ne_true h1)] at h
    refine J_condF (v := (path_0 == ([47] : Str))) (by kernel_rfl) h1 ?_
    refine J_skip ?_
    refine JK_sq ?_
    refine J_seq ?_
    refine J_region ?_
    refine JS_seg 1 [strV path_0, .bad, .sc (.slice none 0 0), (vB false), .bad, .bad, .bad, strV path_0, .sc (.bool (path_0 == ([47] : Str))), .bad, strV path_0, .bad, .bad, .bad, .bad, .bad, .bad, .bad, .bad, .bad, .bad, .bad, .bad, .bad, .bad, .bad, .bad, .bad] [] (by kernel_rfl) ?_
    obtain ⟨r2, h3, h⟩ := Option.bind_eq_some_iff.1 h
    refine JS_upd (fun s => fcall E0 60 [strV path_0, strV [47]] s) (by kernel_rfl) (strings_CutPrefix_C path_0 [47] _ _ h3) ?_
    refine JS_end [strV path_0, .bad, .sc (.slice none 0 0), (vB false), strV r2.1, .sc (.bool r2.2), .bad, strV path_0, .sc (.bool (path_0 == ([47] : Str))), .tup [strV r2.1, .sc (.bool r2.2)], strV path_0, .tup [strV r2.1, .sc (.bool r2.2)], strV r2.1, .sc (.bool r2.2), .bad, .bad, .bad, .bad, .bad, .bad, .bad, .bad, .bad, .bad, .bad, .bad, .bad, .bad] [] (by kernel_rfl) ?_
    refine JK_sq ?_
    refine J_seq ?_
    refine J_region ?_
    refine JS_seg 1 [strV path_0, .bad, .sc (.slice none 0 0), (vB false), strV r2.1, .sc (.bool r2.2), .bad, strV path_0, .sc (.bool (path_0 == ([47] : Str))), .tup [strV r2.1, .sc (.bool r2.2)], strV path_0, .tup [strV r2.1, .sc (.bool r2.2)], strV r2.1, .sc (.bool r2.2), strV r2.1, .bad, .bad, .bad, .bad, .bad, .bad, .bad, .bad, .bad, .bad, .bad, .bad, .bad] [] (by kernel_rfl) ?_
    obtain ⟨r4, h5, h⟩ := Option.bind_eq_some_iff.1 h
    refine JS_upd (fun s => fcall E0 61 [strV r2.1, strV [47]] s) (by kernel_rfl) (strings_Split_C r2.1 [47] _ _ h5) ?_
    refine JS_end [strV path_0, .bad, .sc (.slice none 0 0), (vB false), strV r2.1, .sc (.bool r2.2), Ty.sl tS r4, strV path_0, .sc (.bool (path_0 == ([47] : Str))), .tup [strV r2.1, .sc (.bool r2.2)], strV path_0, .tup [strV r2.1, .sc (.bool r2.2)], strV r2.1, .sc (.bool r2.2), strV r2.1, Ty.sl tS r4, .bad, .bad, .bad, .bad, .bad, .bad, .bad, .bad, .bad, .bad, .bad, .bad] [] (by kernel_rfl) ?_
    refine JK_sq ?_
    refine J_seq ?_
    refine J_seq ?_
    refine J_region ?_
    refine JS_seg 3 [strV path_0, .bad, .sc (.slice none 0 0), (vB false), strV r2.1, .sc (.bool r2.2), Ty.sl tS r4, strV path_0, .sc (.bool (path_0 == ([47] : Str))), .tup [strV r2.1, .sc (.bool r2.2)], strV path_0, .tup [strV r2.1, .sc (.bool r2.2)], strV r2.1, .sc (.bool r2.2), strV r2.1, Ty.sl tS r4, .sc (.bool r2.2), .sc (.bool (!r2.2)), .sc (.bool (!r2.2)), .bad, .bad, .bad, .bad, .bad, .bad, .bad, .bad, .bad] [] (by kernel_rfl) ?_
    rcases bool_cases (!r2.2) with h6 | h6
    · rw [if_pos h6] at h
      refine JS_cast (tm' := [strV path_0, .bad, .sc (.slice none 0 0), (vB false), strV r2.1, .sc (.bool r2.2), Ty.sl tS r4, strV path_0, .sc (.bool (path_0 == ([47] : Str))), .tup [strV r2.1, .sc (.bool r2.2)], strV path_0, .tup [strV r2.1, .sc (.bool r2.2)], strV r2.1, .sc (.bool r2.2), strV r2.1, Ty.sl tS r4, .sc (.bool r2.2), (vB true), (vB true), .bad, .bad, .bad, .bad, .bad, .bad, .bad, .bad, .bad]) (by rw [h6]) rfl ?_
      refine JS_end [strV path_0, .bad, .sc (.slice none 0 0), (vB false), strV r2.1, .sc (.bool r2.2), Ty.sl tS r4, strV path_0, .sc (.bool (path_0 == ([47] : Str))), .tup [strV r2.1, .sc (.bool r2.2)], strV path_0, .tup [strV r2.1, .sc (.bool r2.2)], strV r2.1, .sc (.bool r2.2), strV r2.1, Ty.sl tS r4, .sc (.bool r2.2), (vB true), (vB true), .tup [], .tup [], .tup [], (vB true), (vB true), .tup [], .tup [], (vB true), .bad] [] (by kernel_rfl) ?_
      refine JK_sq ?_
      refine J_condT (v := true) (by kernel_rfl) rfl ?_
      refine J_seq ?_
      refine J_region ?_
      refine JS_end [strV path_0, .bad, .sc (.slice none 0 0), (vB false), strV r2.1, .sc (.bool r2.2), Ty.sl tS r4, strV path_0, .sc (.bool (path_0 == ([47] : Str))), .tup [strV r2.1, .sc (.bool r2.2)], strV path_0, .tup [strV r2.1, .sc (.bool r2.2)], strV r2.1, .sc (.bool r2.2), strV r2.1, Ty.sl tS r4, .sc (.bool r2.2), (vB true), (vB true), .tup [], .tup [], .tup [], (vB true), (vB true), .tup [], .tup [], (vB true), .bad] [] (by kernel_rfl) ?_
      refine JK_sq ?_
      refine J_ret ?_
      refine JK_sq_ret ?_
      refine JK_nil ?_
      obtain rfl := Option.some.inj h
      exact ret_A (r := .tup [.sc (.slice none 0 0), (vB false)]) (r' := .tup [Ty.sl tS [], (vB false)]) (.inl rfl) (by kernel_rfl) (fTup (fC (by kernel_rfl) (fC (by kernel_rfl) fN))) (pTup (pC (sl_pure tS _) (pC rfl pN))) ⟨by kernel_rfl, rfl⟩
    · rw [if_neg (ne_true h6)] at h
      refine JS_cast (tm' := [strV path_0, .bad, .sc (.slice none 0 0), (vB false), strV r2.1, .sc (.bool r2.2), Ty.sl tS r4, strV path_0, .sc (.bool (path_0 == ([47] : Str))), .tup [strV r2.1, .sc (.bool r2.2)], strV path_0, .tup [strV r2.1, .sc (.bool r2.2)], strV r2.1, .sc (.bool r2.2), strV r2.1, Ty.sl tS r4, .sc (.bool r2.2), (vB false), (vB false), .bad, .bad, .bad, .bad, .bad, .bad, .bad, .bad, .bad]) (by rw [h6]) rfl ?_
      refine JS_seg 8 [strV path_0, .bad, .sc (.slice none 0 0), (vB false), strV r2.1, .sc (.bool r2.2), Ty.sl tS r4, strV path_0, .sc (.bool (path_0 == ([47] : Str))), .tup [strV r2.1, .sc (.bool r2.2)], strV path_0, .tup [strV r2.1, .sc (.bool r2.2)], strV r2.1, .sc (.bool r2.2), strV r2.1, Ty.sl tS r4, .sc (.bool r2.2), (vB false), (vB false), Ty.sl tS r4, .sc (.int .i64 (r4.length : Int)), .sc (.bool (decide ((r4.length : Int) ≥ 8))), .sc (.bool (decide ((r4.length : Int) ≥ 8))), .sc (.bool (decide ((r4.length : Int) ≥ 8))), .bad, .bad, .bad, .bad] [] (by kernel_rfl) ?_
      rcases bool_cases (decide ((r4.length : Int) ≥ 8)) with h7 | h7
      · rw [if_pos h7] at h
        refine JS_cast (tm' := [strV path_0, .bad, .sc (.slice none 0 0), (vB false), strV r2.1, .sc (.bool r2.2), Ty.sl tS r4, strV path_0, .sc (.bool (path_0 == ([47] : Str))), .tup [strV r2.1, .sc (.bool r2.2)], strV path_0, .tup [strV r2.1, .sc (.bool r2.2)], strV r2.1, .sc (.bool r2.2), strV r2.1, Ty.sl tS r4, .sc (.bool r2.2), (vB false), (vB false), Ty.sl tS r4, .sc (.int .i64 (r4.length : Int)), (vB true), (vB true), (vB true), .bad, .bad, .bad, .bad]) (by rw [h7]) rfl ?_
        refine JS_end [strV path_0, .bad, .sc (.slice none 0 0), (vB false), strV r2.1, .sc (.bool r2.2), Ty.sl tS r4, strV path_0, .sc (.bool (path_0 == ([47] : Str))), .tup [strV r2.1, .sc (.bool r2.2)], strV path_0, .tup [strV r2.1, .sc (.bool r2.2)], strV r2.1, .sc (.bool r2.2), strV r2.1, Ty.sl tS r4, .sc (.bool r2.2), (vB false), (vB false), Ty.sl tS r4, .sc (.int .i64 (r4.length : Int)), (vB true), (vB true), (vB true), .tup [], .tup [], (vB true), .bad] [] (by kernel_rfl) ?_
        refine JK_sq ?_
        refine J_condT (v := true) (by kernel_rfl) rfl ?_
        refine J_seq ?_
        refine J_region ?_
        refine JS_end [strV path_0, .bad, .sc (.slice none 0 0), (vB false), strV r2.1, .sc (.bool r2.2), Ty.sl tS r4, strV path_0, .sc (.bool (path_0 == ([47] : Str))), .tup [strV r2.1, .sc (.bool r2.2)], strV path_0, .tup [strV r2.1, .sc (.bool r2.2)], strV r2.1, .sc (.bool r2.2), strV r2.1, Ty.sl tS r4, .sc (.bool r2.2), (vB false), (vB false), Ty.sl tS r4, .sc (.int .i64 (r4.length : Int)), (vB true), (vB true), (vB true), .tup [], .tup [], (vB true), .bad] [] (by kernel_rfl) ?_
        refine JK_sq ?_
        refine J_ret ?_
        refine JK_sq_ret ?_
        refine JK_nil ?_
        obtain rfl := Option.some.inj h
        exact ret_A (r := .tup [.sc (.slice none 0 0), (vB false)]) (r' := .tup [Ty.sl tS [], (vB false)]) (.inl rfl) (by kernel_rfl) (fTup (fC (by kernel_rfl) (fC (by kernel_rfl) fN))) (pTup (pC (sl_pure tS _) (pC rfl pN))) ⟨by kernel_rfl, rfl⟩
      · rw [if_neg (ne_true h7)] at h
        refine JS_cast (tm' := [strV path_0, .bad, .sc (.slice none 0 0), (vB false), strV r2.1, .sc (.bool r2.2), Ty.sl tS r4, strV path_0, .sc (.bool (path_0 == ([47] : Str))), .tup [strV r2.1, .sc (.bool r2.2)], strV path_0, .tup [strV r2.1, .sc (.bool r2.2)], strV r2.1, .sc (.bool r2.2), strV r2.1, Ty.sl tS r4, .sc (.bool r2.2), (vB false), (vB false), Ty.sl tS r4, .sc (.int .i64 (r4.length : Int)), (vB false), (vB false), (vB false), .bad, .bad, .bad, .bad]) (by rw [h7]) rfl ?_
        refine JS_seg 9 [strV path_0, .bad, .sc (.slice none 0 0), (vB false), strV r2.1, .sc (.bool r2.2), Ty.sl tS r4, strV path_0, .sc (.bool (path_0 == ([47] : Str))), .tup [strV r2.1, .sc (.bool r2.2)], strV path_0, .tup [strV r2.1, .sc (.bool r2.2)], strV r2.1, .sc (.bool r2.2), strV r2.1, Ty.sl tS r4, .sc (.bool r2.2), (vB false), (vB false), Ty.sl tS r4, .sc (.int .i64 (r4.length : Int)), (vB false), (vB false), (vB false), Ty.sl tS r4, .bad, .bad, .bad] [] (by kernel_rfl) ?_
        obtain ⟨r8, h9, h⟩ := Option.bind_eq_some_iff.1 h
        refine JS_upd (fun s => fcall E0 62 [Ty.sl tS r4, strV []] s) (by kernel_rfl) (slices_Contains_string_C r4 [] _ _ h9) ?_
        refine JS_end [strV path_0, .bad, .sc (.slice none 0 0), (vB false), strV r2.1, .sc (.bool r2.2), Ty.sl tS r4, strV path_0, .sc (.bool (path_0 == ([47] : Str))), .tup [strV r2.1, .sc (.bool r2.2)], strV path_0, .tup [strV r2.1, .sc (.bool r2.2)], strV r2.1, .sc (.bool r2.2), strV r2.1, Ty.sl tS r4, .sc (.bool r2.2), (vB false), (vB false), Ty.sl tS r4, .sc (.int .i64 (r4.length : Int)), (vB false), (vB false), (vB false), Ty.sl tS r4, (vB r8), (vB r8), .bad] [] (by kernel_rfl) ?_
        refine JK_sq ?_
        rcases bool_cases r8 with h10 | h10
        · rw [if_pos h10] at h
          refine J_condT (v := r8) (by kernel_rfl) h10 ?_
          refine J_seq ?_
          refine J_region ?_
          refine JS_end [strV path_0, .bad, .sc (.slice none 0 0), (vB false), strV r2.1, .sc (.bool r2.2), Ty.sl tS r4, strV path_0, .sc (.bool (path_0 == ([47] : Str))), .tup [strV r2.1, .sc (.bool r2.2)], strV path_0, .tup [strV r2.1, .sc (.bool r2.2)], strV r2.1, .sc (.bool r2.2), strV r2.1, Ty.sl tS r4, .sc (.bool r2.2), (vB false), (vB false), Ty.sl tS r4, .sc (.int .i64 (r4.length : Int)), (vB false), (vB false), (vB false), Ty.sl tS r4, (vB r8), (vB r8), .bad] [] (by kernel_rfl) ?_
          refine JK_sq ?_
          refine J_ret ?_
          refine JK_sq_ret ?_
          refine JK_nil ?_
          obtain rfl := Option.some.inj h
          exact ret_A (r := .tup [.sc (.slice none 0 0), (vB false)]) (r' := .tup [Ty.sl tS [], (vB false)]) (.inl rfl) (by kernel_rfl) (fTup (fC (by kernel_rfl) (fC (by kernel_rfl) fN))) (pTup (pC (sl_pure tS _) (pC rfl pN))) ⟨by kernel_rfl, rfl⟩
        · rw [if_neg (ne_true h10)] at h
          refine J_condF (v := r8) (by kernel_rfl) h10 ?_
          refine J_skip ?_
          refine JK_sq ?_
          refine J_seq ?_
          refine J_region ?_
          refine JS_end [strV path_0, .bad, Ty.sl tS r4, (vB true), strV r2.1, .sc (.bool r2.2), Ty.sl tS r4, strV path_0, .sc (.bool (path_0 == ([47] : Str))), .tup [strV r2.1, .sc (.bool r2.2)], strV path_0, .tup [strV r2.1, .sc (.bool r2.2)], strV r2.1, .sc (.bool r2.2), strV r2.1, Ty.sl tS r4, .sc (.bool r2.2), (vB false), (vB false), Ty.sl tS r4, .sc (.int .i64 (r4.length : Int)), (vB false), (vB false), (vB false), Ty.sl tS r4, (vB r8), (vB r8), Ty.sl tS r4] [] (by kernel_rfl) ?_
          refine JK_sq ?_
          refine J_ret ?_
          refine JK_nil ?_
          obtain rfl := Option.some.inj h
          exact ret_A (r := .tup [Ty.sl tS r4, (vB true)]) (r' := .tup [Ty.sl tS r4, (vB true)]) (.inl rfl) (by kernel_rfl) (fTup (fC (sl_frz tS _ _ _ _) (fC (by kernel_rfl) fN))) (pTup (pC (sl_pure tS _) (pC rfl pN))) ⟨by kernel_rfl, rfl⟩

theorem path_Kid_C (n_0 : GNode) (name_1 : Str) (r : GNode × Bool) (st : Store) (h : path_Kid n_0 name_1 = some r) : fcall E0 13 [.agg (cNode n_0), strV name_1] st = some (.tup [.agg (cNode r.1), .sc (.bool r.2)], st) := by
  unfold path_Kid at h
  refine fn_alone (fn := Tryd.f13) (av' := [.agg (cNode n_0), strV name_1, .bad, .bad, .bad, .bad, .bad, .bad, .bad, .bad, .bad, .bad, .bad, .bad, .bad, .bad, .bad, .bad, .bad]) rfl fn_13 rfl (pC (pAgg (pC rfl (pC (sl_pure tProp _) (pC (sl_pure tNode _) pN)))) (pC rfl pN)) rfl rfl rfl (has_go (as1 := [.agg (cNode n_0), strV name_1]) (lC (sAgg (lC (by kernel_rfl) (lC (sl_scrub tProp _ _) (lC (sl_scrub tNode _ _) lN)))) (lC (by kernel_rfl) lN)) (by kernel_rfl)) ?_
  refine J_seq ?_
  refine J_region ?_
  refine JS_end [.agg (cNode n_0), strV name_1, .ref 0 0 0, .ref 1 0 0, .ref 2 0 0, (vB false), .bad, .bad, .bad, .bad, .bad, .bad, .bad, .bad, .bad, .bad, .bad, .bad, .bad] [.box 25 (cNode n_0), .box 9 [strV name_1], .box 25 [strV [], .sc (.slice none 0 0), .sc (.slice none 0 0)]] (by kernel_rfl) ?_
  refine JK_sq ?_
  refine J_seq ?_
  refine J_region ?_
  refine JS_seg 3 [.agg (cNode n_0), strV name_1, .ref 0 0 0, .ref 1 0 0, .ref 2 0 0, (vB false), .bad, .ref 0 0 2, Ty.sl tNode n_0.kids, .fn 51 [.ref 1 0 0], .bad, .bad, .bad, .bad, .bad, .bad, .bad, .bad, .bad] [.box 25 (cNode n_0), .box 9 [strV name_1], .box 25 [strV [], .sc (.slice none 0 0), .sc (.slice none 0 0)]] (by kernel_rfl) ?_
  refine JS_call (av := [Ty.sl tNode n_0.kids, .fn 51 [.ref 1 0 0]]) (av' := [Ty.sl tNode n_0.kids, .fn 51 [.ref 1 0 0], .bad, .bad, .bad, .bad, .bad, .bad, .bad, .bad, .bad, .bad, .bad, .bad, .bad, .bad, .bad, .bad, .bad]) (n0 := 3) (by kernel_rfl) rfl fn_50 rfl (nP2 (nP1 (nP1 rfl))) rfl rfl rfl rfl (has_go (as1 := [Ty.sl tNode n_0.kids, .fn 51 [.ref 1 0 0]]) (lC (sl_scrub tNode _ _) (lC (sFn (lC (by kernel_rfl) lN)) lN)) (by kernel_rfl)) ?_
  refine J_seq ?_
  refine J_region ?_
  refine JS_end [Ty.sl tNode n_0.kids, .fn 51 [.ref 1 0 0], .bad, .bad, (vI 0), .bad, .bad, .bad, .bad, .bad, .bad, .bad, .bad, .bad, .bad, .bad, .bad, .bad, .bad] [.box 25 (cNode n_0), .box 9 [strV name_1], .box 25 [strV [], .sc (.slice none 0 0), .sc (.slice none 0 0)]] (by kernel_rfl) ?_
  refine JK_sq ?_
  refine J_seq ?_
  refine J_seq ?_
  refine J_region ?_
  refine JS_end [Ty.sl tNode n_0.kids, .fn 51 [.ref 1 0 0], .bad, .bad, (vI 0), .bad, Ty.sl tNode n_0.kids, .sc (.int .i64 (n_0.kids.length : Int)), (vI 0), .bad, .bad, .bad, .bad, .bad, .bad, .bad, .bad, .bad, .bad] [.box 25 (cNode n_0), .box 9 [strV name_1], .box 25 [strV [], .sc (.slice none 0 0), .sc (.slice none 0 0)]] (by kernel_rfl) ?_
  refine JK_sq ?_
  refine J_block ?_
  obtain ⟨r6, h7, h⟩ := Option.bind_eq_some_iff.1 h
  refine J_loop (γ := Unit) h7 3 [Ty.sl tNode n_0.kids, .fn 51 [.ref 1 0 0], .bad, .bad, (vI 0), .bad, Ty.sl tNode n_0.kids, .sc (.int .i64 (n_0.kids.length : Int)), (vI 0), .bad, .bad, .bad, .bad, .bad, .bad, .bad, .bad, .bad, .bad] [.box 25 (cNode n_0), .box 9 [strV name_1], .box 25 [strV [], .sc (.slice none 0 0), .sc (.slice none 0 0)]] (fun s g => [Ty.sl tNode n_0.kids, .fn 51 [.ref 1 0 0], .bad, .bad, .bad, .bad, .bad, .sc (.int .i64 (n_0.kids.length : Int)), (vI s), .bad, .bad, .bad, .bad, .bad, .bad, .bad, .bad, .bad, .bad]) (fun s g => [.box 25 (cNode n_0), .box 9 [strV name_1], .box 25 [strV [], Ty.sl tProp [], Ty.sl tNode []]]) (fun r g => match r with | (.inl r) => (.exit 0, [.bad, .bad, .bad, .bad, .bad, .bad, .bad, .bad, .bad, .bad, .bad, .bad, .bad, .bad, .bad, .bad, .bad, .bad, .bad], [.box 25 (cNode n_0), .box 9 [strV name_1], .box 25 [strV [], Ty.sl tProp [], Ty.sl tNode []]]) | (.inr r) => (.ret, [.bad, .bad, .bad, .bad, (vI r), .bad, .bad, .bad, .bad, .bad, .bad, .bad, .bad, .bad, .bad, .bad, .bad, .bad, .bad], [.box 25 (cNode n_0), .box 9 [strV name_1], .box 25 [strV [], Ty.sl tProp [], Ty.sl tNode []]])) () (by kernel_rfl) (by kernel_rfl) (kill_go (mid := [Ty.sl tNode n_0.kids, .fn 51 [.ref 1 0 0], .bad, .bad, .bad, .bad, .bad, .sc (.int .i64 (n_0.kids.length : Int)), (vI 0), .bad, .bad, .bad, .bad, .bad, .bad, .bad, .bad, .bad, .bad]) (by kernel_rfl) (mC (sl_scrub tNode _ _) (mC (sFn (lC (by kernel_rfl) lN)) (mB (mB (mB (mB (mB (mC (by kernel_rfl) (mC (by kernel_rfl) (mB (mB (mB (mB (mB (mB (mB (mB (mB (mB mN)))))))))))))))))))) (cut_go (mid := [.box 25 (cNode n_0), .box 9 [strV name_1], .box 25 [strV [], .sc (.slice none 0 0), .sc (.slice none 0 0)]]) (by kernel_rfl) (oC (oB (lC (by kernel_rfl) (lC (sl_scrub tProp _ _) (lC (sl_scrub tNode _ _) lN)))) (oC (oB (lC (by kernel_rfl) lN)) (oC (oB (lC (by kernel_rfl) (lC (by kernel_rfl) (lC (by kernel_rfl) lN)))) oN)))) ?_ ?_
  · rintro v1 _ y h
    unfold path_Kid_l1 at h
    refine J_seq ?_
    refine J_region ?_
    refine JS_end [Ty.sl tNode n_0.kids, .fn 51 [.ref 1 0 0], .bad, .bad, .bad, .bad, .bad, .sc (.int .i64 (n_0.kids.length : Int)), (vI v1), .sc (.bool (decide (v1 < (n_0.kids.length : Int)))), .bad, .bad, .bad, .bad, .bad, .bad, .bad, .bad, .bad] [.box 25 (cNode n_0), .box 9 [strV name_1], .box 25 [strV [], Ty.sl tProp [], Ty.sl tNode []]] (by kernel_rfl) ?_
    refine JK_sq ?_
    refine J_seq ?_
    rcases bool_cases (decide (v1 < (n_0.kids.length : Int))) with h2 | h2
    · rw [if_pos h2] at h
      refine J_condT (v := (decide (v1 < (n_0.kids.length : Int)))) (by kernel_rfl) h2 ?_
      refine J_skip ?_
      refine JK_sq ?_
      refine J_seq ?_
      refine J_block ?_
      refine J_seq ?_
      refine J_region ?_
      refine JS_end [Ty.sl tNode n_0.kids, .fn 51 [.ref 1 0 0], .bad, .bad, .bad, (vI v1), .bad, .sc (.int .i64 (n_0.kids.length : Int)), (vI v1), .sc (.bool (decide (v1 < (n_0.kids.length : Int)))), (vI v1), .bad, .bad, .bad, .bad, .bad, .bad, .bad, .bad] [.box 25 (cNode n_0), .box 9 [strV name_1], .box 25 [strV [], Ty.sl tProp [], Ty.sl tNode []]] (by kernel_rfl) ?_
      refine JK_sq ?_
      refine J_seq ?_
      refine J_region ?_
      refine JS_seg 3 [Ty.sl tNode n_0.kids, .fn 51 [.ref 1 0 0], .bad, .bad, .bad, (vI v1), .bad, .sc (.int .i64 (n_0.kids.length : Int)), (vI v1), .sc (.bool (decide (v1 < (n_0.kids.length : Int)))), (vI v1), .fn 51 [.ref 1 0 0], Ty.sl tNode n_0.kids, (vI v1), .bad, .bad, .bad, .bad, .bad] [.box 25 (cNode n_0), .box 9 [strV name_1], .box 25 [strV [], Ty.sl tProp [], Ty.sl tNode []]] (by kernel_rfl) ?_
      obtain ⟨x3, h4, h⟩ := Option.bind_eq_some_iff.1 h
      refine JS_val (fun s => aindexAddr E0.tb s 23 (Ty.sl tNode n_0.kids) ((vI v1))) (by kernel_rfl) (sl_addr tNode tb_23 rfl tb_25 rfl h4) ?_
      refine JS_seg 4 [Ty.sl tNode n_0.kids, .fn 51 [.ref 1 0 0], .bad, .bad, .bad, (vI v1), .bad, .sc (.int .i64 (n_0.kids.length : Int)), (vI v1), .sc (.bool (decide (v1 < (n_0.kids.length : Int)))), (vI v1), .fn 51 [.ref 1 0 0], Ty.sl tNode n_0.kids, (vI v1), .fp (List.flatMap (Ty.cells tNode) n_0.kids) (v1.toNat * Ty.size tNode), .bad, .bad, .bad, .bad] [.box 25 (cNode n_0), .box 9 [strV name_1], .box 25 [strV [], Ty.sl tProp [], Ty.sl tNode []]] (by kernel_rfl) ?_
      refine JS_val (fun s => aload E0.tb s 25 (.fp (List.flatMap (Ty.cells tNode) n_0.kids) (v1.toNat * Ty.size tNode))) (by kernel_rfl) (fp_loadN tNode (o := 0) (vs := (cNode x3)) tb_25 rfl h4 (by decide) (by rw [tNode_cells]; rfl)) ?_
      refine JS_seg 5 [Ty.sl tNode n_0.kids, .fn 51 [.ref 1 0 0], .bad, .bad, .bad, (vI v1), .bad, .sc (.int .i64 (n_0.kids.length : Int)), (vI v1), .sc (.bool (decide (v1 < (n_0.kids.length : Int)))), (vI v1), .fn 51 [.ref 1 0 0], Ty.sl tNode n_0.kids, (vI v1), .fp (List.flatMap (Ty.cells tNode) n_0.kids) (v1.toNat * Ty.size tNode), .agg (cNode x3), .bad, .bad, .bad] [.box 25 (cNode n_0), .box 9 [strV name_1], .box 25 [strV [], Ty.sl tProp [], Ty.sl tNode []]] (by kernel_rfl) ?_
      refine JS_call (av := [.agg (cNode x3), .ref 1 0 0]) (av' := [.agg (cNode x3), .ref 1 0 0, .bad, .bad, .bad, .bad, .bad, .bad]) (n0 := 3) (by kernel_rfl) rfl fn_51 rfl (nP2 (nP1 rfl)) rfl rfl rfl rfl (has_go (as1 := [.agg (cNode x3), .ref 1 0 0]) (lC (sAgg (lC (by kernel_rfl) (lC (sl_scrub tProp _ _) (lC (sl_scrub tNode _ _) lN)))) (lC (by kernel_rfl) lN)) (by kernel_rfl)) ?_
      refine J_seq ?_
      refine J_region ?_
      refine JS_end [.agg (cNode x3), .ref 1 0 0, .ref 3 0 0, (vB false), .bad, .bad, .bad, .bad] [.box 25 (cNode n_0), .box 9 [strV name_1], .box 25 [strV [], Ty.sl tProp [], Ty.sl tNode []], .box 25 (cNode x3)] (by kernel_rfl) ?_
      refine JK_sq ?_
      refine J_seq ?_
      refine J_region ?_
      refine JS_seg 3 [.agg (cNode x3), .ref 1 0 0, .ref 3 0 0, (vB false), .ref 3 0 0, strV x3.name, strV name_1, .bad] [.box 25 (cNode n_0), .box 9 [strV name_1], .box 25 [strV [], Ty.sl tProp [], Ty.sl tNode []], .box 25 (cNode x3)] (by kernel_rfl) ?_
      refine JS_val (fun s => abin E0.tb s .eql 9 (strV x3.name) (strV name_1)) (by kernel_rfl) (str_eq x3.name name_1) ?_
      refine JS_end [.agg (cNode x3), .ref 1 0 0, .ref 3 0 0, .sc (.bool (x3.name == name_1)), .ref 3 0 0, strV x3.name, strV name_1, .sc (.bool (x3.name == name_1))] [.box 25 (cNode n_0), .box 9 [strV name_1], .box 25 [strV [], Ty.sl tProp [], Ty.sl tNode []], .box 25 (cNode x3)] (by kernel_rfl) ?_
      refine JK_sq ?_
      refine J_ret ?_
      refine JK_nil ?_
      refine ret_M (r := .sc (.bool (x3.name == name_1))) (r' := .sc (.bool (x3.name == name_1))) (st2 := [.box 25 (cNode n_0), .box 9 [strV name_1], .box 25 [strV [], Ty.sl tProp [], Ty.sl tNode []]]) (.inl rfl) (by kernel_rfl) (by kernel_rfl) (cut_go (mid := [.box 25 (cNode n_0), .box 9 [strV name_1], .box 25 [strV [], Ty.sl tProp [], Ty.sl tNode []]]) (by kernel_rfl) (oC (oB (lC (by kernel_rfl) (lC (sl_scrub tProp _ _) (lC (sl_scrub tNode _ _) lN)))) (oC (oB (lC (by kernel_rfl) lN)) (oC (oB (lC (by kernel_rfl) (lC (sl_scrub tProp _ _) (lC (sl_scrub tNode _ _) lN)))) oN)))) ?_
      refine JS_end [Ty.sl tNode n_0.kids, .fn 51 [.ref 1 0 0], .bad, .bad, .bad, (vI v1), .bad, .sc (.int .i64 (n_0.kids.length : Int)), (vI v1), .sc (.bool (decide (v1 < (n_0.kids.length : Int)))), (vI v1), .fn 51 [.ref 1 0 0], Ty.sl tNode n_0.kids, (vI v1), .fp (List.flatMap (Ty.cells tNode) n_0.kids) (v1.toNat * Ty.size tNode), .agg (cNode x3), .sc (.bool (x3.name == name_1)), .bad, .bad] [.box 25 (cNode n_0), .box 9 [strV name_1], .box 25 [strV [], Ty.sl tProp [], Ty.sl tNode []]] (by kernel_rfl) ?_
      refine JK_sq ?_
      rcases bool_cases (x3.name == name_1) with h5 | h5
      · rw [if_pos h5] at h
        refine J_condT (v := (x3.name == name_1)) (by kernel_rfl) h5 ?_
        refine J_seq ?_
        refine J_region ?_
        refine JS_end [Ty.sl tNode n_0.kids, .fn 51 [.ref 1 0 0], .bad, .bad, (vI v1), (vI v1), .bad, .sc (.int .i64 (n_0.kids.length : Int)), (vI v1), .sc (.bool (decide (v1 < (n_0.kids.length : Int)))), (vI v1), .fn 51 [.ref 1 0 0], Ty.sl tNode n_0.kids, (vI v1), .fp (List.flatMap (Ty.cells tNode) n_0.kids) (v1.toNat * Ty.size tNode), .agg (cNode x3), .sc (.bool (x3.name == name_1)), (vI v1), .bad] [.box 25 (cNode n_0), .box 9 [strV name_1], .box 25 [strV [], Ty.sl tProp [], Ty.sl tNode []]] (by kernel_rfl) ?_
        refine JK_sq ?_
        refine J_ret ?_
        refine JK_bl_ret ?_
        refine JK_sq_ret ?_
        refine JK_nil ?_
        obtain rfl := Option.some.inj h
        exact turn_ret (tm' := [.bad, .bad, .bad, .bad, (vI v1), .bad, .bad, .bad, .bad, .bad, .bad, .bad, .bad, .bad, .bad, .bad, .bad, .bad, .bad]) (st' := [.box 25 (cNode n_0), .box 9 [strV name_1], .box 25 [strV [], Ty.sl tProp [], Ty.sl tNode []]]) () (kill_go (mid := [.bad, .bad, .bad, .bad, (vI v1), .bad, .bad, .bad, .bad, .bad, .bad, .bad, .bad, .bad, .bad, .bad, .bad, .bad, .bad]) (by kernel_rfl) (mB (mB (mB (mB (mC (by kernel_rfl) (mB (mB (mB (mB (mB (mB (mB (mB (mB (mB (mB (mB (mB (mB mN)))))))))))))))))))) (cut_go (mid := [.box 25 (cNode n_0), .box 9 [strV name_1], .box 25 [strV [], Ty.sl tProp [], Ty.sl tNode []]]) (by kernel_rfl) (oC (oB (lC (by kernel_rfl) (lC (sl_scrub tProp _ _) (lC (sl_scrub tNode _ _) lN)))) (oC (oB (lC (by kernel_rfl) lN)) (oC (oB (lC (by kernel_rfl) (lC (sl_scrub tProp _ _) (lC (sl_scrub tNode _ _) lN)))) oN)))) (by kernel_rfl)
      · rw [if_neg (ne_true h5)] at h
        refine J_condF (v := (x3.name == name_1)) (by kernel_rfl) h5 ?_
        refine J_skip ?_
        refine JK_bl ?_
        refine JK_sq ?_
        refine J_region ?_
        refine JS_end [Ty.sl tNode n_0.kids, .fn 51 [.ref 1 0 0], .bad, .bad, .bad, (vI v1), .bad, .sc (.int .i64 (n_0.kids.length : Int)), .sc (.int .i64 (IntKind.wrap .i64 (v1 + 1))), .sc (.bool (decide (v1 < (n_0.kids.length : Int)))), (vI v1), .fn 51 [.ref 1 0 0], Ty.sl tNode n_0.kids, (vI v1), .fp (List.flatMap (Ty.cells tNode) n_0.kids) (v1.toNat * Ty.size tNode), .agg (cNode x3), .sc (.bool (x3.name == name_1)), .bad, .sc (.int .i64 (IntKind.wrap .i64 (v1 + 1)))] [.box 25 (cNode n_0), .box 9 [strV name_1], .box 25 [strV [], Ty.sl tProp [], Ty.sl tNode []]] (by kernel_rfl) ?_
        refine JK_nil ?_
        obtain rfl := Option.some.inj h
        exact turn_next () (kill_go (mid := [Ty.sl tNode n_0.kids, .fn 51 [.ref 1 0 0], .bad, .bad, .bad, .bad, .bad, .sc (.int .i64 (n_0.kids.length : Int)), .sc (.int .i64 (IntKind.wrap .i64 (v1 + 1))), .bad, .bad, .bad, .bad, .bad, .bad, .bad, .bad, .bad, .bad]) (by kernel_rfl) (mC (sl_scrub tNode _ _) (mC (sFn (lC (by kernel_rfl) lN)) (mB (mB (mB (mB (mB (mC (by kernel_rfl) (mC (by kernel_rfl) (mB (mB (mB (mB (mB (mB (mB (mB (mB (mB mN)))))))))))))))))))) (cut_go (mid := [.box 25 (cNode n_0), .box 9 [strV name_1], .box 25 [strV [], Ty.sl tProp [], Ty.sl tNode []]]) (by kernel_rfl) (oC (oB (lC (by kernel_rfl) (lC (sl_scrub tProp _ _) (lC (sl_scrub tNode _ _) lN)))) (oC (oB (lC (by kernel_rfl) lN)) (oC (oB (lC (by kernel_rfl) (lC (sl_scrub tProp _ _) (lC (sl_scrub tNode _ _) lN)))) oN))))
    · rw [if_neg (ne_true h2)] at h
      refine J_condF (v := (decide (v1 < (n_0.kids.length : Int)))) (by kernel_rfl) h2 ?_
      refine J_exit ?_
      refine JK_sq_exit ?_
      refine JK_nil ?_
      obtain rfl := Option.some.inj h
      exact turn_exit (tm' := [.bad, .bad, .bad, .bad, .bad, .bad, .bad, .bad, .bad, .bad, .bad, .bad, .bad, .bad, .bad, .bad, .bad, .bad, .bad]) (st' := [.box 25 (cNode n_0), .box 9 [strV name_1], .box 25 [strV [], Ty.sl tProp [], Ty.sl tNode []]]) () (kill_go (mid := [.bad, .bad, .bad, .bad, .bad, .bad, .bad, .bad, .bad, .bad, .bad, .bad, .bad, .bad, .bad, .bad, .bad, .bad, .bad]) (by kernel_rfl) (mB (mB (mB (mB (mB (mB (mB (mB (mB (mB (mB (mB (mB (mB (mB (mB (mB (mB (mB mN)))))))))))))))))))) (cut_go (mid := [.box 25 (cNode n_0), .box 9 [strV name_1], .box 25 [strV [], Ty.sl tProp [], Ty.sl tNode []]]) (by kernel_rfl) (oC (oB (lC (by kernel_rfl) (lC (sl_scrub tProp _ _) (lC (sl_scrub tNode _ _) lN)))) (oC (oB (lC (by kernel_rfl) lN)) (oC (oB (lC (by kernel_rfl) (lC (sl_scrub tProp _ _) (lC (sl_scrub tNode _ _) lN)))) oN)))) (by kernel_rfl)
  · intro g_
    rcases r6 with r8 | r9
    · dsimp only at h
      refine (show JK _ _ _ _ (.exit 0, [.bad, .bad, .bad, .bad, .bad, .bad, .bad, .bad, .bad, .bad, .bad, .bad, .bad, .bad, .bad, .bad, .bad, .bad, .bad], [.box 25 (cNode n_0), .box 9 [strV name_1], .box 25 [strV [], Ty.sl tProp [], Ty.sl tNode []]]) from ?_)
      refine JK_bl_hit ?_
      refine JK_sq ?_
      refine J_seq ?_
      refine J_region ?_
      refine JS_end [.bad, .bad, .bad, .bad, .sc (.int .i64 (-1)), .bad, .bad, .bad, .bad, .bad, .bad, .bad, .bad, .bad, .bad, .bad, .bad, .bad, .bad] [.box 25 (cNode n_0), .box 9 [strV name_1], .box 25 [strV [], Ty.sl tProp [], Ty.sl tNode []]] (by kernel_rfl) ?_
      refine JK_sq ?_
      refine J_ret ?_
      refine JK_nil ?_
      refine ret_M (r := .sc (.int .i64 (-1))) (r' := .sc (.int .i64 (-1))) (st2 := [.box 25 (cNode n_0), .box 9 [strV name_1], .box 25 [strV [], Ty.sl tProp [], Ty.sl tNode []]]) (.inl rfl) (by kernel_rfl) (by kernel_rfl) (cut_go (mid := [.box 25 (cNode n_0), .box 9 [strV name_1], .box 25 [strV [], Ty.sl tProp [], Ty.sl tNode []]]) (by kernel_rfl) (oC (oB (lC (by kernel_rfl) (lC (sl_scrub tProp _ _) (lC (sl_scrub tNode _ _) lN)))) (oC (oB (lC (by kernel_rfl) lN)) (oC (oB (lC (by kernel_rfl) (lC (sl_scrub tProp _ _) (lC (sl_scrub tNode _ _) lN)))) oN)))) ?_
      refine JS_end [.agg (cNode n_0), strV name_1, .ref 0 0 0, .ref 1 0 0, .ref 2 0 0, (vB false), .sc (.int .i64 (-1)), .ref 0 0 2, Ty.sl tNode n_0.kids, .fn 51 [.ref 1 0 0], .sc (.int .i64 (-1)), .bad, .bad, .bad, .bad, .bad, .bad, .bad, .bad] [.box 25 (cNode n_0), .box 9 [strV name_1], .box 25 [strV [], Ty.sl tProp [], Ty.sl tNode []]] (by kernel_rfl) ?_
      refine JK_sq ?_
      refine J_seq ?_
      refine J_seq ?_
      refine J_region ?_
      refine JS_end [.agg (cNode n_0), strV name_1, .ref 0 0 0, .ref 1 0 0, .ref 2 0 0, (vB false), .sc (.int .i64 (-1)), .ref 0 0 2, Ty.sl tNode n_0.kids, .fn 51 [.ref 1 0 0], .sc (.int .i64 (-1)), .sc (.int .i64 (-1)), (vB true), .bad, .bad, .bad, .bad, .bad, .bad] [.box 25 (cNode n_0), .box 9 [strV name_1], .box 25 [strV [], Ty.sl tProp [], Ty.sl tNode []]] (by kernel_rfl) ?_
      refine JK_sq ?_
      refine J_condT (v := true) (by kernel_rfl) rfl ?_
      refine J_seq ?_
      refine J_region ?_
      refine JS_end [.agg (cNode n_0), strV name_1, .ref 0 0 0, .ref 1 0 0, .ref 2 0 0, (vB false), .sc (.int .i64 (-1)), .ref 0 0 2, Ty.sl tNode n_0.kids, .fn 51 [.ref 1 0 0], .sc (.int .i64 (-1)), .sc (.int .i64 (-1)), (vB true), .agg [strV [], .sc (.slice none 0 0), .sc (.slice none 0 0)], .bad, .bad, .bad, .bad, .bad] [.box 25 (cNode n_0), .box 9 [strV name_1], .box 25 [strV [], .sc (.slice none 0 0), .sc (.slice none 0 0)]] (by kernel_rfl) ?_
      refine JK_sq ?_
      refine J_ret ?_
      refine JK_sq_ret ?_
      refine JK_nil ?_
      obtain rfl := Option.some.inj h
      exact ret_A (r := .tup [.agg [strV [], .sc (.slice none 0 0), .sc (.slice none 0 0)], (vB false)]) (r' := .tup [.agg [strV [], Ty.sl tProp [], Ty.sl tNode []], (vB false)]) (.inl rfl) (by kernel_rfl) (fTup (fC (fAgg (fC (by kernel_rfl) (fC (by kernel_rfl) (fC (by kernel_rfl) fN)))) (fC (by kernel_rfl) fN))) (pTup (pC (pAgg (pC rfl (pC (sl_pure tProp _) (pC (sl_pure tNode _) pN)))) (pC rfl pN))) ⟨by kernel_rfl, rfl⟩
    · dsimp only at h
      refine (show JK _ _ _ _ (.ret, [.bad, .bad, .bad, .bad, (vI r9), .bad, .bad, .bad, .bad, .bad, .bad, .bad, .bad, .bad, .bad, .bad, .bad, .bad, .bad], [.box 25 (cNode n_0), .box 9 [strV name_1], .box 25 [strV [], Ty.sl tProp [], Ty.sl tNode []]]) from ?_)
      refine JK_bl_ret ?_
      refine JK_sq_ret ?_
      refine JK_nil ?_
      refine ret_M (r := (vI r9)) (r' := (vI r9)) (st2 := [.box 25 (cNode n_0), .box 9 [strV name_1], .box 25 [strV [], Ty.sl tProp [], Ty.sl tNode []]]) (.inl rfl) (by kernel_rfl) (by kernel_rfl) (cut_go (mid := [.box 25 (cNode n_0), .box 9 [strV name_1], .box 25 [strV [], Ty.sl tProp [], Ty.sl tNode []]]) (by kernel_rfl) (oC (oB (lC (by kernel_rfl) (lC (sl_scrub tProp _ _) (lC (sl_scrub tNode _ _) lN)))) (oC (oB (lC (by kernel_rfl) lN)) (oC (oB (lC (by kernel_rfl) (lC (sl_scrub tProp _ _) (lC (sl_scrub tNode _ _) lN)))) oN)))) ?_
      refine JS_end [.agg (cNode n_0), strV name_1, .ref 0 0 0, .ref 1 0 0, .ref 2 0 0, (vB false), (vI r9), .ref 0 0 2, Ty.sl tNode n_0.kids, .fn 51 [.ref 1 0 0], (vI r9), .bad, .bad, .bad, .bad, .bad, .bad, .bad, .bad] [.box 25 (cNode n_0), .box 9 [strV name_1], .box 25 [strV [], Ty.sl tProp [], Ty.sl tNode []]] (by kernel_rfl) ?_
      refine JK_sq ?_
      refine J_seq ?_
      refine J_seq ?_
      refine J_region ?_
      refine JS_end [.agg (cNode n_0), strV name_1, .ref 0 0 0, .ref 1 0 0, .ref 2 0 0, (vB false), (vI r9), .ref 0 0 2, Ty.sl tNode n_0.kids, .fn 51 [.ref 1 0 0], (vI r9), (vI r9), .sc (.bool (decide (r9 < 0))), .bad, .bad, .bad, .bad, .bad, .bad] [.box 25 (cNode n_0), .box 9 [strV name_1], .box 25 [strV [], Ty.sl tProp [], Ty.sl tNode []]] (by kernel_rfl) ?_
      refine JK_sq ?_
      rcases bool_cases (decide (r9 < 0)) with h10 | h10
      · rw [if_pos h10] at h
        refine J_condT (v := (decide (r9 < 0))) (by kernel_rfl) h10 ?_
        refine J_seq ?_
        refine J_region ?_
        refine JS_end [.agg (cNode n_0), strV name_1, .ref 0 0 0, .ref 1 0 0, .ref 2 0 0, (vB false), (vI r9), .ref 0 0 2, Ty.sl tNode n_0.kids, .fn 51 [.ref 1 0 0], (vI r9), (vI r9), .sc (.bool (decide (r9 < 0))), .agg [strV [], .sc (.slice none 0 0), .sc (.slice none 0 0)], .bad, .bad, .bad, .bad, .bad] [.box 25 (cNode n_0), .box 9 [strV name_1], .box 25 [strV [], .sc (.slice none 0 0), .sc (.slice none 0 0)]] (by kernel_rfl) ?_
        refine JK_sq ?_
        refine J_ret ?_
        refine JK_sq_ret ?_
        refine JK_nil ?_
        obtain rfl := Option.some.inj h
        exact ret_A (r := .tup [.agg [strV [], .sc (.slice none 0 0), .sc (.slice none 0 0)], (vB false)]) (r' := .tup [.agg [strV [], Ty.sl tProp [], Ty.sl tNode []], (vB false)]) (.inl rfl) (by kernel_rfl) (fTup (fC (fAgg (fC (by kernel_rfl) (fC (by kernel_rfl) (fC (by kernel_rfl) fN)))) (fC (by kernel_rfl) fN))) (pTup (pC (pAgg (pC rfl (pC (sl_pure tProp _) (pC (sl_pure tNode _) pN)))) (pC rfl pN))) ⟨by kernel_rfl, rfl⟩
      · rw [if_neg (ne_true h10)] at h
        refine J_condF (v := (decide (r9 < 0))) (by kernel_rfl) h10 ?_
        refine J_skip ?_
        refine JK_sq ?_
        refine J_seq ?_
        refine J_region ?_
        refine JS_seg 3 [.agg (cNode n_0), strV name_1, .ref 0 0 0, .ref 1 0 0, .ref 2 0 0, (vB false), (vI r9), .ref 0 0 2, Ty.sl tNode n_0.kids, .fn 51 [.ref 1 0 0], (vI r9), (vI r9), .sc (.bool (decide (r9 < 0))), .bad, .ref 0 0 2, Ty.sl tNode n_0.kids, (vI r9), .bad, .bad] [.box 25 (cNode n_0), .box 9 [strV name_1], .box 25 [strV [], Ty.sl tProp [], Ty.sl tNode []]] (by kernel_rfl) ?_
        obtain ⟨x11, h12, h⟩ := Option.bind_eq_some_iff.1 h
        refine JS_val (fun s => aindexAddr E0.tb s 23 (Ty.sl tNode n_0.kids) ((vI r9))) (by kernel_rfl) (sl_addr tNode tb_23 rfl tb_25 rfl h12) ?_
        refine JS_seg 4 [.agg (cNode n_0), strV name_1, .ref 0 0 0, .ref 1 0 0, .ref 2 0 0, (vB false), (vI r9), .ref 0 0 2, Ty.sl tNode n_0.kids, .fn 51 [.ref 1 0 0], (vI r9), (vI r9), .sc (.bool (decide (r9 < 0))), .bad, .ref 0 0 2, Ty.sl tNode n_0.kids, (vI r9), .fp (List.flatMap (Ty.cells tNode) n_0.kids) (r9.toNat * Ty.size tNode), .bad] [.box 25 (cNode n_0), .box 9 [strV name_1], .box 25 [strV [], Ty.sl tProp [], Ty.sl tNode []]] (by kernel_rfl) ?_
        refine JS_val (fun s => aload E0.tb s 25 (.fp (List.flatMap (Ty.cells tNode) n_0.kids) (r9.toNat * Ty.size tNode))) (by kernel_rfl) (fp_loadN tNode (o := 0) (vs := (cNode x11)) tb_25 rfl h12 (by decide) (by rw [tNode_cells]; rfl)) ?_
        refine JS_end [.agg (cNode n_0), strV name_1, .ref 0 0 0, .ref 1 0 0, .ref 2 0 0, (vB true), (vI r9), .ref 0 0 2, Ty.sl tNode n_0.kids, .fn 51 [.ref 1 0 0], (vI r9), (vI r9), .sc (.bool (decide (r9 < 0))), .bad, .ref 0 0 2, Ty.sl tNode n_0.kids, (vI r9), .fp (List.flatMap (Ty.cells tNode) n_0.kids) (r9.toNat * Ty.size tNode), .agg (cNode x11)] [.box 25 (cNode n_0), .box 9 [strV name_1], .box 25 (cNode x11)] (by kernel_rfl) ?_
        refine JK_sq ?_
        refine J_ret ?_
        refine JK_nil ?_
        obtain rfl := Option.some.inj h
        exact ret_A (r := .tup [.agg (cNode x11), (vB true)]) (r' := .tup [.agg (cNode x11), (vB true)]) (.inl rfl) (by kernel_rfl) (fTup (fC (fAgg (fC (by kernel_rfl) (fC (sl_frz tProp _ _ _ _) (fC (sl_frz tNode _ _ _ _) fN)))) (fC (by kernel_rfl) fN))) (pTup (pC (pAgg (pC rfl (pC (sl_pure tProp _) (pC (sl_pure tNode _) pN)))) (pC rfl pN))) ⟨by kernel_rfl, rfl⟩

end Go.Proofs.YticlelmlnadclaaDoor
