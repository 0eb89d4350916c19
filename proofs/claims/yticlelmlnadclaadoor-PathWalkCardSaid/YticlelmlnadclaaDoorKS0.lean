/-
  What the evaluator's calls come to. Printed by program. No condition.
-/
import Derived.Test.YticlelmlnadclaaDoorKQ
set_option linter.unusedVariables false
set_option linter.unusedSimpArgs false
set_option linter.unusedSectionVars false
set_option linter.unnecessarySimpa false
set_option linter.deprecated false
namespace Go.Proofs.YticlelmlnadclaaDoor
open Go.P
open Go Go.Abs

set_option maxRecDepth 100000
set_option maxHeartbeats 4000000

theorem strings_Split_C (s sep : Str) (r : List Str) (st : Store) (h : strings_Split s sep = some r) : fcall E0 61 [strV s, strV sep] st = some (tS.sl r, st) := split_C rfl s sep r h

theorem strings_Join_C (l : List Str) (sep r : Str) (st : Store) (h : strings_Join l sep = some r) : fcall E0 63 [tS.sl l, strV sep] st = some (strV r, st) := join_C rfl l sep r h

theorem ref12_low_b_C (rec_ : GNode → Int → Option Bool) (hrec_ : ∀ (n_0 : GNode) (levels_1 : Int) (r : Bool) (st : Store), rec_ n_0 levels_1 = some r → fcall E0 46 [.agg (cNode n_0), (vI levels_1)] st = some ((vB r), st)) (n_0 : GNode) (levels_1 : Int) (r : Bool) (st : Store) (h : ref12_low_b rec_ n_0 levels_1 = some r) : fcall E0 46 [.agg (cNode n_0), (vI levels_1)] st = some ((vB r), st) := by
  unfold ref12_low_b at h
  refine fn_alone (fn := Tryd.f46) (av' := (.agg (cNode n_0) :: (vI levels_1) :: bz 66 [])) rfl fn_46 rfl (pC (pAgg (pC rfl (pC (sl_pure tProp _) (pC (sl_pure tNode _) pN)))) (pC rfl pN)) rfl rfl rfl (has_go (as1 := [.agg (cNode n_0), (vI levels_1)]) (lC (sAgg (lC (by kernel_rfl) (lC (sl_scrub tProp _ _) (lC (sl_scrub tNode _ _) lN)))) (lC (by kernel_rfl) lN)) (by kernel_rfl)) ?_
  refine J_seq ?_
  refine J_region ?_
  refine JS_end (.agg (cNode n_0) :: (vI levels_1) :: .ref 0 0 0 :: .bad :: (vB false) :: bz 63 []) [.box 25 (cNode n_0)] (by kernel_rfl) ?_
  refine JK_sq ?_
  refine J_seq ?_
  refine J_seq ?_
  refine J_region ?_
  refine JS_seg 3 (.agg (cNode n_0) :: (vI levels_1) :: .ref 0 0 0 :: .bad :: (vB false) :: .bad :: .bad :: (vI levels_1) :: .sc (.bool (levels_1 == 0)) :: .sc (.bool (levels_1 == 0)) :: bz 58 []) [.box 25 (cNode n_0)] (by kernel_rfl) ?_
  rcases bool_cases (levels_1 == 0) with h1 | h1
  · rw [if_pos h1] at h
    refine JS_cast (tm' := (.agg (cNode n_0) :: (vI levels_1) :: .ref 0 0 0 :: .bad :: (vB false) :: .bad :: .bad :: (vI levels_1) :: (vB true) :: (vB true) :: bz 58 [])) (by rw [h1]) rfl ?_
    refine JS_end (.agg (cNode n_0) :: (vI levels_1) :: .ref 0 0 0 :: .bad :: (vB false) :: .bad :: .bad :: (vI levels_1) :: (vB true) :: (vB true) :: .tup [] :: .tup [] :: .tup [] :: .tup [] :: (vB true) :: (vB true) :: .tup [] :: .tup [] :: .tup [] :: .tup [] :: (vB true) :: (vB true) :: .tup [] :: .tup [] :: .tup [] :: .tup [] :: (vB true) :: bz 41 []) [.box 25 (cNode n_0)] (by kernel_rfl) ?_
    refine JK_sq ?_
    refine J_condT (v := true) (by kernel_rfl) rfl ?_
    refine J_seq ?_
    refine J_region ?_
    refine JS_end (.agg (cNode n_0) :: (vI levels_1) :: .ref 0 0 0 :: .bad :: (vB false) :: .bad :: .bad :: (vI levels_1) :: (vB true) :: (vB true) :: .tup [] :: .tup [] :: .tup [] :: .tup [] :: (vB true) :: (vB true) :: .tup [] :: .tup [] :: .tup [] :: .tup [] :: (vB true) :: (vB true) :: .tup [] :: .tup [] :: .tup [] :: .tup [] :: (vB true) :: bz 41 []) [.box 25 (cNode n_0)] (by kernel_rfl) ?_
    refine JK_sq ?_
    refine J_ret ?_
    refine JK_sq_ret ?_
    refine JK_nil ?_
    obtain rfl := Option.some.inj h
    exact ret_A (r := (vB false)) (r' := (vB false)) (.inl rfl) (by kernel_rfl) (by kernel_rfl) rfl ⟨by kernel_rfl, rfl⟩
  · rw [if_neg (ne_true h1)] at h
    refine JS_cast (tm' := (.agg (cNode n_0) :: (vI levels_1) :: .ref 0 0 0 :: .bad :: (vB false) :: .bad :: .bad :: (vI levels_1) :: (vB false) :: (vB false) :: bz 58 [])) (by rw [h1]) rfl ?_
    refine JS_seg 9 (.agg (cNode n_0) :: (vI levels_1) :: .ref 0 0 0 :: .bad :: (vB false) :: .bad :: .bad :: (vI levels_1) :: (vB false) :: (vB false) :: .ref 0 0 0 :: strV n_0.name :: .sc (.int .i64 (n_0.name.length : Int)) :: .sc (.bool (decide ((n_0.name.length : Int) > 100))) :: .sc (.bool (decide ((n_0.name.length : Int) > 100))) :: .sc (.bool (decide ((n_0.name.length : Int) > 100))) :: bz 52 []) [.box 25 (cNode n_0)] (by kernel_rfl) ?_
    rcases bool_cases (decide ((n_0.name.length : Int) > 100)) with h2 | h2
    · rw [if_pos h2] at h
      refine JS_cast (tm' := (.agg (cNode n_0) :: (vI levels_1) :: .ref 0 0 0 :: .bad :: (vB false) :: .bad :: .bad :: (vI levels_1) :: (vB false) :: (vB false) :: .ref 0 0 0 :: strV n_0.name :: .sc (.int .i64 (n_0.name.length : Int)) :: (vB true) :: (vB true) :: (vB true) :: bz 52 [])) (by rw [h2]) rfl ?_
      refine JS_end (.agg (cNode n_0) :: (vI levels_1) :: .ref 0 0 0 :: .bad :: (vB false) :: .bad :: .bad :: (vI levels_1) :: (vB false) :: (vB false) :: .ref 0 0 0 :: strV n_0.name :: .sc (.int .i64 (n_0.name.length : Int)) :: (vB true) :: (vB true) :: (vB true) :: .tup [] :: .tup [] :: .tup [] :: .tup [] :: (vB true) :: (vB true) :: .tup [] :: .tup [] :: .tup [] :: .tup [] :: (vB true) :: bz 41 []) [.box 25 (cNode n_0)] (by kernel_rfl) ?_
      refine JK_sq ?_
      refine J_condT (v := true) (by kernel_rfl) rfl ?_
      refine J_seq ?_
      refine J_region ?_
      refine JS_end (.agg (cNode n_0) :: (vI levels_1) :: .ref 0 0 0 :: .bad :: (vB false) :: .bad :: .bad :: (vI levels_1) :: (vB false) :: (vB false) :: .ref 0 0 0 :: strV n_0.name :: .sc (.int .i64 (n_0.name.length : Int)) :: (vB true) :: (vB true) :: (vB true) :: .tup [] :: .tup [] :: .tup [] :: .tup [] :: (vB true) :: (vB true) :: .tup [] :: .tup [] :: .tup [] :: .tup [] :: (vB true) :: bz 41 []) [.box 25 (cNode n_0)] (by kernel_rfl) ?_
      refine JK_sq ?_
      refine J_ret ?_
      refine JK_sq_ret ?_
      refine JK_nil ?_
      obtain rfl := Option.some.inj h
      exact ret_A (r := (vB false)) (r' := (vB false)) (.inl rfl) (by kernel_rfl) (by kernel_rfl) rfl ⟨by kernel_rfl, rfl⟩
    · rw [if_neg (ne_true h2)] at h
      refine JS_cast (tm' := (.agg (cNode n_0) :: (vI levels_1) :: .ref 0 0 0 :: .bad :: (vB false) :: .bad :: .bad :: (vI levels_1) :: (vB false) :: (vB false) :: .ref 0 0 0 :: strV n_0.name :: .sc (.int .i64 (n_0.name.length : Int)) :: (vB false) :: (vB false) :: (vB false) :: bz 52 [])) (by rw [h2]) rfl ?_
      refine JS_seg 15 (.agg (cNode n_0) :: (vI levels_1) :: .ref 0 0 0 :: .bad :: (vB false) :: .bad :: .bad :: (vI levels_1) :: (vB false) :: (vB false) :: .ref 0 0 0 :: strV n_0.name :: .sc (.int .i64 (n_0.name.length : Int)) :: (vB false) :: (vB false) :: (vB false) :: .ref 0 0 1 :: Ty.sl tProp n_0.props :: .sc (.int .i64 (n_0.props.length : Int)) :: .sc (.bool (decide ((n_0.props.length : Int) > 300))) :: .sc (.bool (decide ((n_0.props.length : Int) > 300))) :: .sc (.bool (decide ((n_0.props.length : Int) > 300))) :: bz 46 []) [.box 25 (cNode n_0)] (by kernel_rfl) ?_
      rcases bool_cases (decide ((n_0.props.length : Int) > 300)) with h3 | h3
      · rw [if_pos h3] at h
        refine JS_cast (tm' := (.agg (cNode n_0) :: (vI levels_1) :: .ref 0 0 0 :: .bad :: (vB false) :: .bad :: .bad :: (vI levels_1) :: (vB false) :: (vB false) :: .ref 0 0 0 :: strV n_0.name :: .sc (.int .i64 (n_0.name.length : Int)) :: (vB false) :: (vB false) :: (vB false) :: .ref 0 0 1 :: Ty.sl tProp n_0.props :: .sc (.int .i64 (n_0.props.length : Int)) :: (vB true) :: (vB true) :: (vB true) :: bz 46 [])) (by rw [h3]) rfl ?_
        refine JS_end (.agg (cNode n_0) :: (vI levels_1) :: .ref 0 0 0 :: .bad :: (vB false) :: .bad :: .bad :: (vI levels_1) :: (vB false) :: (vB false) :: .ref 0 0 0 :: strV n_0.name :: .sc (.int .i64 (n_0.name.length : Int)) :: (vB false) :: (vB false) :: (vB false) :: .ref 0 0 1 :: Ty.sl tProp n_0.props :: .sc (.int .i64 (n_0.props.length : Int)) :: (vB true) :: (vB true) :: (vB true) :: .tup [] :: .tup [] :: .tup [] :: .tup [] :: (vB true) :: bz 41 []) [.box 25 (cNode n_0)] (by kernel_rfl) ?_
        refine JK_sq ?_
        refine J_condT (v := true) (by kernel_rfl) rfl ?_
        refine J_seq ?_
        refine J_region ?_
        refine JS_end (.agg (cNode n_0) :: (vI levels_1) :: .ref 0 0 0 :: .bad :: (vB false) :: .bad :: .bad :: (vI levels_1) :: (vB false) :: (vB false) :: .ref 0 0 0 :: strV n_0.name :: .sc (.int .i64 (n_0.name.length : Int)) :: (vB false) :: (vB false) :: (vB false) :: .ref 0 0 1 :: Ty.sl tProp n_0.props :: .sc (.int .i64 (n_0.props.length : Int)) :: (vB true) :: (vB true) :: (vB true) :: .tup [] :: .tup [] :: .tup [] :: .tup [] :: (vB true) :: bz 41 []) [.box 25 (cNode n_0)] (by kernel_rfl) ?_
        refine JK_sq ?_
        refine J_ret ?_
        refine JK_sq_ret ?_
        refine JK_nil ?_
        obtain rfl := Option.some.inj h
        exact ret_A (r := (vB false)) (r' := (vB false)) (.inl rfl) (by kernel_rfl) (by kernel_rfl) rfl ⟨by kernel_rfl, rfl⟩
      · rw [if_neg (ne_true h3)] at h
        refine JS_cast (tm' := (.agg (cNode n_0) :: (vI levels_1) :: .ref 0 0 0 :: .bad :: (vB false) :: .bad :: .bad :: (vI levels_1) :: (vB false) :: (vB false) :: .ref 0 0 0 :: strV n_0.name :: .sc (.int .i64 (n_0.name.length : Int)) :: (vB false) :: (vB false) :: (vB false) :: .ref 0 0 1 :: Ty.sl tProp n_0.props :: .sc (.int .i64 (n_0.props.length : Int)) :: (vB false) :: (vB false) :: (vB false) :: bz 46 [])) (by rw [h3]) rfl ?_
        refine JS_end (.agg (cNode n_0) :: (vI levels_1) :: .ref 0 0 0 :: .bad :: (vB false) :: .bad :: .bad :: (vI levels_1) :: (vB false) :: (vB false) :: .ref 0 0 0 :: strV n_0.name :: .sc (.int .i64 (n_0.name.length : Int)) :: (vB false) :: (vB false) :: (vB false) :: .ref 0 0 1 :: Ty.sl tProp n_0.props :: .sc (.int .i64 (n_0.props.length : Int)) :: (vB false) :: (vB false) :: (vB false) :: .ref 0 0 2 :: Ty.sl tNode n_0.kids :: .sc (.int .i64 (n_0.kids.length : Int)) :: .sc (.bool (decide ((n_0.kids.length : Int) > 80))) :: .sc (.bool (decide ((n_0.kids.length : Int) > 80))) :: bz 41 []) [.box 25 (cNode n_0)] (by kernel_rfl) ?_
        refine JK_sq ?_
        rcases bool_cases (decide ((n_0.kids.length : Int) > 80)) with h4 | h4
        · rw [if_pos h4] at h
          refine J_condT (v := (decide ((n_0.kids.length : Int) > 80))) (by kernel_rfl) h4 ?_
          refine J_seq ?_
          refine J_region ?_
          refine JS_end (.agg (cNode n_0) :: (vI levels_1) :: .ref 0 0 0 :: .bad :: (vB false) :: .bad :: .bad :: (vI levels_1) :: (vB false) :: (vB false) :: .ref 0 0 0 :: strV n_0.name :: .sc (.int .i64 (n_0.name.length : Int)) :: (vB false) :: (vB false) :: (vB false) :: .ref 0 0 1 :: Ty.sl tProp n_0.props :: .sc (.int .i64 (n_0.props.length : Int)) :: (vB false) :: (vB false) :: (vB false) :: .ref 0 0 2 :: Ty.sl tNode n_0.kids :: .sc (.int .i64 (n_0.kids.length : Int)) :: .sc (.bool (decide ((n_0.kids.length : Int) > 80))) :: .sc (.bool (decide ((n_0.kids.length : Int) > 80))) :: bz 41 []) [.box 25 (cNode n_0)] (by kernel_rfl) ?_
          refine JK_sq ?_
          refine J_ret ?_
          refine JK_sq_ret ?_
          refine JK_nil ?_
          obtain rfl := Option.some.inj h
          exact ret_A (r := (vB false)) (r' := (vB false)) (.inl rfl) (by kernel_rfl) (by kernel_rfl) rfl ⟨by kernel_rfl, rfl⟩
        · rw [if_neg (ne_true h4)] at h
          refine J_condF (v := (decide ((n_0.kids.length : Int) > 80))) (by kernel_rfl) h4 ?_
          refine J_skip ?_
          refine JK_sq ?_
          refine J_seq ?_
          refine J_seq ?_
          refine J_region ?_
          refine JS_end (.agg (cNode n_0) :: (vI levels_1) :: .ref 0 0 0 :: .bad :: (vB false) :: (vI 0) :: .bad :: (vI levels_1) :: (vB false) :: (vB false) :: .ref 0 0 0 :: strV n_0.name :: .sc (.int .i64 (n_0.name.length : Int)) :: (vB false) :: (vB false) :: (vB false) :: .ref 0 0 1 :: Ty.sl tProp n_0.props :: .sc (.int .i64 (n_0.props.length : Int)) :: (vB false) :: (vB false) :: (vB false) :: .ref 0 0 2 :: Ty.sl tNode n_0.kids :: .sc (.int .i64 (n_0.kids.length : Int)) :: .sc (.bool (decide ((n_0.kids.length : Int) > 80))) :: .sc (.bool (decide ((n_0.kids.length : Int) > 80))) :: bz 41 []) [.box 25 (cNode n_0)] (by kernel_rfl) ?_
          refine JK_sq ?_
          refine J_block ?_
          obtain ⟨r13, h14, h⟩ := Option.bind_eq_some_iff.1 h
          refine J_loop (γ := Unit) h14 1 (.agg (cNode n_0) :: (vI levels_1) :: .ref 0 0 0 :: .bad :: (vB false) :: (vI 0) :: .bad :: (vI levels_1) :: (vB false) :: (vB false) :: .ref 0 0 0 :: strV n_0.name :: .sc (.int .i64 (n_0.name.length : Int)) :: (vB false) :: (vB false) :: (vB false) :: .ref 0 0 1 :: Ty.sl tProp n_0.props :: .sc (.int .i64 (n_0.props.length : Int)) :: (vB false) :: (vB false) :: (vB false) :: .ref 0 0 2 :: Ty.sl tNode n_0.kids :: .sc (.int .i64 (n_0.kids.length : Int)) :: .sc (.bool (decide ((n_0.kids.length : Int) > 80))) :: .sc (.bool (decide ((n_0.kids.length : Int) > 80))) :: bz 41 []) [.box 25 (cNode n_0)] (fun s g => (.bad :: (vI levels_1) :: .ref 0 0 0 :: .bad :: .bad :: (vI s) :: bz 62 [])) (fun s g => [.box 25 (cNode n_0)]) (fun r g => match r with | (.inl r) => (.exit 0, (.bad :: (vI levels_1) :: .ref 0 0 0 :: bz 65 []), [.box 25 (cNode n_0)]) | (.inr r) => (.ret, (.bad :: (vI levels_1) :: .ref 0 0 0 :: .bad :: (vB false) :: bz 63 []), [.box 25 (cNode n_0)])) () (by kernel_rfl) (by kernel_rfl) (kill_go (mid := (.bad :: (vI levels_1) :: .ref 0 0 0 :: .bad :: .bad :: (vI 0) :: bz 62 [])) (by kernel_rfl) (mB (mC (by kernel_rfl) (mC (by kernel_rfl) (mB (mB (mC (by kernel_rfl) (mZ 62 mN)))))))) (cut_go (mid := [.box 25 (cNode n_0)]) (by kernel_rfl) (oC (oB (lC (by kernel_rfl) (lC (sl_scrub tProp _ _) (lC (sl_scrub tNode _ _) lN)))) oN)) ?_ ?_
          · rintro v5 _ y h
            unfold ref12_low_l1 at h
            refine J_seq ?_
            refine J_seq ?_
            refine J_region ?_
            refine JS_end (.bad :: (vI levels_1) :: .ref 0 0 0 :: .bad :: .bad :: (vI v5) :: bz 21 ((vI v5) :: .ref 0 0 1 :: Ty.sl tProp n_0.props :: .sc (.int .i64 (n_0.props.length : Int)) :: .sc (.bool (decide (v5 < (n_0.props.length : Int)))) :: bz 36 [])) [.box 25 (cNode n_0)] (by kernel_rfl) ?_
            refine JK_sq ?_
            rcases bool_cases (decide (v5 < (n_0.props.length : Int))) with h6 | h6
            · rw [if_pos h6] at h
              refine J_condT (v := (decide (v5 < (n_0.props.length : Int)))) (by kernel_rfl) h6 ?_
              refine J_skip ?_
              refine JK_sq ?_
              refine J_seq ?_
              refine J_block ?_
              refine J_seq ?_
              refine J_region ?_
              refine JS_seg 3 (.bad :: (vI levels_1) :: .ref 0 0 0 :: .bad :: .bad :: (vI v5) :: bz 21 ((vI v5) :: .ref 0 0 1 :: Ty.sl tProp n_0.props :: .sc (.int .i64 (n_0.props.length : Int)) :: .sc (.bool (decide (v5 < (n_0.props.length : Int)))) :: .bad :: .bad :: .ref 0 0 1 :: Ty.sl tProp n_0.props :: (vI v5) :: bz 31 [])) [.box 25 (cNode n_0)] (by kernel_rfl) ?_
              obtain ⟨x7, h8, h⟩ := Option.bind_eq_some_iff.1 h
              refine JS_val (fun s => aindexAddr E0.tb s 22 (Ty.sl tProp n_0.props) ((vI v5))) (by kernel_rfl) (sl_addr tProp tb_22 rfl tb_78 rfl h8) ?_
              refine JS_seg 5 (.bad :: (vI levels_1) :: .ref 0 0 0 :: .bad :: .bad :: (vI v5) :: bz 21 ((vI v5) :: .ref 0 0 1 :: Ty.sl tProp n_0.props :: .sc (.int .i64 (n_0.props.length : Int)) :: .sc (.bool (decide (v5 < (n_0.props.length : Int)))) :: .bad :: .bad :: .ref 0 0 1 :: Ty.sl tProp n_0.props :: (vI v5) :: .fp (List.flatMap (Ty.cells tProp) n_0.props) (v5.toNat * Ty.size tProp) :: .fp (List.flatMap (Ty.cells tProp) n_0.props) (v5.toNat * Ty.size tProp + 0) :: bz 29 [])) [.box 25 (cNode n_0)] (by kernel_rfl) ?_
              refine JS_val (fun s => aload E0.tb s 9 (.fp (List.flatMap (Ty.cells tProp) n_0.props) (v5.toNat * Ty.size tProp + 0))) (by kernel_rfl) (fp_load1 tProp (o := 0) tb_9 rfl h8 (by rw [tProp_cells]; rfl)) ?_
              refine JS_seg 9 (.bad :: (vI levels_1) :: .ref 0 0 0 :: .bad :: .bad :: (vI v5) :: bz 21 ((vI v5) :: .ref 0 0 1 :: Ty.sl tProp n_0.props :: .sc (.int .i64 (n_0.props.length : Int)) :: .sc (.bool (decide (v5 < (n_0.props.length : Int)))) :: .bad :: .bad :: .ref 0 0 1 :: Ty.sl tProp n_0.props :: (vI v5) :: .fp (List.flatMap (Ty.cells tProp) n_0.props) (v5.toNat * Ty.size tProp) :: .fp (List.flatMap (Ty.cells tProp) n_0.props) (v5.toNat * Ty.size tProp + 0) :: strV x7.name :: .sc (.int .i64 (x7.name.length : Int)) :: .sc (.bool (decide ((x7.name.length : Int) > 100))) :: .sc (.bool (decide ((x7.name.length : Int) > 100))) :: bz 25 [])) [.box 25 (cNode n_0)] (by kernel_rfl) ?_
              rcases bool_cases (decide ((x7.name.length : Int) > 100)) with h9 | h9
              · rw [if_pos h9] at h
                refine JS_cast (tm' := (.bad :: (vI levels_1) :: .ref 0 0 0 :: .bad :: .bad :: (vI v5) :: bz 21 ((vI v5) :: .ref 0 0 1 :: Ty.sl tProp n_0.props :: .sc (.int .i64 (n_0.props.length : Int)) :: .sc (.bool (decide (v5 < (n_0.props.length : Int)))) :: .bad :: .bad :: .ref 0 0 1 :: Ty.sl tProp n_0.props :: (vI v5) :: .fp (List.flatMap (Ty.cells tProp) n_0.props) (v5.toNat * Ty.size tProp) :: .fp (List.flatMap (Ty.cells tProp) n_0.props) (v5.toNat * Ty.size tProp + 0) :: strV x7.name :: .sc (.int .i64 (x7.name.length : Int)) :: (vB true) :: (vB true) :: bz 25 []))) (by rw [h9]) rfl ?_
                refine JS_end (.bad :: (vI levels_1) :: .ref 0 0 0 :: .bad :: .bad :: (vI v5) :: bz 21 ((vI v5) :: .ref 0 0 1 :: Ty.sl tProp n_0.props :: .sc (.int .i64 (n_0.props.length : Int)) :: .sc (.bool (decide (v5 < (n_0.props.length : Int)))) :: .bad :: .bad :: .ref 0 0 1 :: Ty.sl tProp n_0.props :: (vI v5) :: .fp (List.flatMap (Ty.cells tProp) n_0.props) (v5.toNat * Ty.size tProp) :: .fp (List.flatMap (Ty.cells tProp) n_0.props) (v5.toNat * Ty.size tProp + 0) :: strV x7.name :: .sc (.int .i64 (x7.name.length : Int)) :: (vB true) :: (vB true) :: .tup [] :: .tup [] :: .tup [] :: .tup [] :: .tup [] :: .tup [] :: .tup [] :: .tup [] :: (vB true) :: bz 16 [])) [.box 25 (cNode n_0)] (by kernel_rfl) ?_
                refine JK_sq ?_
                refine J_condT (v := true) (by kernel_rfl) rfl ?_
                refine J_seq ?_
                refine J_region ?_
                refine JS_end (.bad :: (vI levels_1) :: .ref 0 0 0 :: .bad :: (vB false) :: (vI v5) :: bz 21 ((vI v5) :: .ref 0 0 1 :: Ty.sl tProp n_0.props :: .sc (.int .i64 (n_0.props.length : Int)) :: .sc (.bool (decide (v5 < (n_0.props.length : Int)))) :: .bad :: .bad :: .ref 0 0 1 :: Ty.sl tProp n_0.props :: (vI v5) :: .fp (List.flatMap (Ty.cells tProp) n_0.props) (v5.toNat * Ty.size tProp) :: .fp (List.flatMap (Ty.cells tProp) n_0.props) (v5.toNat * Ty.size tProp + 0) :: strV x7.name :: .sc (.int .i64 (x7.name.length : Int)) :: (vB true) :: (vB true) :: .tup [] :: .tup [] :: .tup [] :: .tup [] :: .tup [] :: .tup [] :: .tup [] :: .tup [] :: (vB true) :: bz 16 [])) [.box 25 (cNode n_0)] (by kernel_rfl) ?_
                refine JK_sq ?_
                refine J_ret ?_
                refine JK_bl_ret ?_
                refine JK_sq_ret ?_
                refine JK_nil ?_
                obtain rfl := Option.some.inj h
                exact turn_ret (tm' := (.bad :: (vI levels_1) :: .ref 0 0 0 :: .bad :: (vB false) :: bz 63 [])) (st' := [.box 25 (cNode n_0)]) () (kill_go (mid := (.bad :: (vI levels_1) :: .ref 0 0 0 :: .bad :: (vB false) :: bz 63 [])) (by kernel_rfl) (mB (mC (by kernel_rfl) (mC (by kernel_rfl) (mB (mC (by kernel_rfl) (mZ 63 mN))))))) (cut_go (mid := [.box 25 (cNode n_0)]) (by kernel_rfl) (oC (oB (lC (by kernel_rfl) (lC (sl_scrub tProp _ _) (lC (sl_scrub tNode _ _) lN)))) oN)) (by kernel_rfl)
              · rw [if_neg (ne_true h9)] at h
                refine JS_cast (tm' := (.bad :: (vI levels_1) :: .ref 0 0 0 :: .bad :: .bad :: (vI v5) :: bz 21 ((vI v5) :: .ref 0 0 1 :: Ty.sl tProp n_0.props :: .sc (.int .i64 (n_0.props.length : Int)) :: .sc (.bool (decide (v5 < (n_0.props.length : Int)))) :: .bad :: .bad :: .ref 0 0 1 :: Ty.sl tProp n_0.props :: (vI v5) :: .fp (List.flatMap (Ty.cells tProp) n_0.props) (v5.toNat * Ty.size tProp) :: .fp (List.flatMap (Ty.cells tProp) n_0.props) (v5.toNat * Ty.size tProp + 0) :: strV x7.name :: .sc (.int .i64 (x7.name.length : Int)) :: (vB false) :: (vB false) :: bz 25 []))) (by rw [h9]) rfl ?_
                refine JS_seg 12 (.bad :: (vI levels_1) :: .ref 0 0 0 :: .bad :: .bad :: (vI v5) :: bz 21 ((vI v5) :: .ref 0 0 1 :: Ty.sl tProp n_0.props :: .sc (.int .i64 (n_0.props.length : Int)) :: .sc (.bool (decide (v5 < (n_0.props.length : Int)))) :: .bad :: .bad :: .ref 0 0 1 :: Ty.sl tProp n_0.props :: (vI v5) :: .fp (List.flatMap (Ty.cells tProp) n_0.props) (v5.toNat * Ty.size tProp) :: .fp (List.flatMap (Ty.cells tProp) n_0.props) (v5.toNat * Ty.size tProp + 0) :: strV x7.name :: .sc (.int .i64 (x7.name.length : Int)) :: (vB false) :: (vB false) :: .ref 0 0 1 :: Ty.sl tProp n_0.props :: (vI v5) :: bz 22 [])) [.box 25 (cNode n_0)] (by kernel_rfl) ?_
                obtain ⟨x10, h11, h⟩ := Option.bind_eq_some_iff.1 h
                refine JS_val (fun s => aindexAddr E0.tb s 22 (Ty.sl tProp n_0.props) ((vI v5))) (by kernel_rfl) (sl_addr tProp tb_22 rfl tb_78 rfl h11) ?_
                refine JS_seg 14 (.bad :: (vI levels_1) :: .ref 0 0 0 :: .bad :: .bad :: (vI v5) :: bz 21 ((vI v5) :: .ref 0 0 1 :: Ty.sl tProp n_0.props :: .sc (.int .i64 (n_0.props.length : Int)) :: .sc (.bool (decide (v5 < (n_0.props.length : Int)))) :: .bad :: .bad :: .ref 0 0 1 :: Ty.sl tProp n_0.props :: (vI v5) :: .fp (List.flatMap (Ty.cells tProp) n_0.props) (v5.toNat * Ty.size tProp) :: .fp (List.flatMap (Ty.cells tProp) n_0.props) (v5.toNat * Ty.size tProp + 0) :: strV x7.name :: .sc (.int .i64 (x7.name.length : Int)) :: (vB false) :: (vB false) :: .ref 0 0 1 :: Ty.sl tProp n_0.props :: (vI v5) :: .fp (List.flatMap (Ty.cells tProp) n_0.props) (v5.toNat * Ty.size tProp) :: .fp (List.flatMap (Ty.cells tProp) n_0.props) (v5.toNat * Ty.size tProp + 1) :: bz 20 [])) [.box 25 (cNode n_0)] (by kernel_rfl) ?_
                refine JS_val (fun s => aload E0.tb s 9 (.fp (List.flatMap (Ty.cells tProp) n_0.props) (v5.toNat * Ty.size tProp + 1))) (by kernel_rfl) (fp_load1 tProp (o := 1) tb_9 rfl h11 (by rw [tProp_cells]; rfl)) ?_
                refine JS_end (.bad :: (vI levels_1) :: .ref 0 0 0 :: .bad :: .bad :: (vI v5) :: bz 21 ((vI v5) :: .ref 0 0 1 :: Ty.sl tProp n_0.props :: .sc (.int .i64 (n_0.props.length : Int)) :: .sc (.bool (decide (v5 < (n_0.props.length : Int)))) :: .bad :: .bad :: .ref 0 0 1 :: Ty.sl tProp n_0.props :: (vI v5) :: .fp (List.flatMap (Ty.cells tProp) n_0.props) (v5.toNat * Ty.size tProp) :: .fp (List.flatMap (Ty.cells tProp) n_0.props) (v5.toNat * Ty.size tProp + 0) :: strV x7.name :: .sc (.int .i64 (x7.name.length : Int)) :: (vB false) :: (vB false) :: .ref 0 0 1 :: Ty.sl tProp n_0.props :: (vI v5) :: .fp (List.flatMap (Ty.cells tProp) n_0.props) (v5.toNat * Ty.size tProp) :: .fp (List.flatMap (Ty.cells tProp) n_0.props) (v5.toNat * Ty.size tProp + 1) :: strV x10.value :: .sc (.int .i64 (x10.value.length : Int)) :: .sc (.bool (decide ((x10.value.length : Int) > 300))) :: .sc (.bool (decide ((x10.value.length : Int) > 300))) :: bz 16 [])) [.box 25 (cNode n_0)] (by kernel_rfl) ?_
                refine JK_sq ?_
                rcases bool_cases (decide ((x10.value.length : Int) > 300)) with h12 | h12
                · rw [if_pos h12] at h
                  refine J_condT (v := (decide ((x10.value.length : Int) > 300))) (by kernel_rfl) h12 ?_
                  refine J_seq ?_
                  refine J_region ?_
                  refine JS_end (.bad :: (vI levels_1) :: .ref 0 0 0 :: .bad :: (vB false) :: (vI v5) :: bz 21 ((vI v5) :: .ref 0 0 1 :: Ty.sl tProp n_0.props :: .sc (.int .i64 (n_0.props.length : Int)) :: .sc (.bool (decide (v5 < (n_0.props.length : Int)))) :: .bad :: .bad :: .ref 0 0 1 :: Ty.sl tProp n_0.props :: (vI v5) :: .fp (List.flatMap (Ty.cells tProp) n_0.props) (v5.toNat * Ty.size tProp) :: .fp (List.flatMap (Ty.cells tProp) n_0.props) (v5.toNat * Ty.size tProp + 0) :: strV x7.name :: .sc (.int .i64 (x7.name.length : Int)) :: (vB false) :: (vB false) :: .ref 0 0 1 :: Ty.sl tProp n_0.props :: (vI v5) :: .fp (List.flatMap (Ty.cells tProp) n_0.props) (v5.toNat * Ty.size tProp) :: .fp (List.flatMap (Ty.cells tProp) n_0.props) (v5.toNat * Ty.size tProp + 1) :: strV x10.value :: .sc (.int .i64 (x10.value.length : Int)) :: .sc (.bool (decide ((x10.value.length : Int) > 300))) :: .sc (.bool (decide ((x10.value.length : Int) > 300))) :: bz 16 [])) [.box 25 (cNode n_0)] (by kernel_rfl) ?_
                  refine JK_sq ?_
                  refine J_ret ?_
                  refine JK_bl_ret ?_
                  refine JK_sq_ret ?_
                  refine JK_nil ?_
                  obtain rfl := Option.some.inj h
                  exact turn_ret (tm' := (.bad :: (vI levels_1) :: .ref 0 0 0 :: .bad :: (vB false) :: bz 63 [])) (st' := [.box 25 (cNode n_0)]) () (kill_go (mid := (.bad :: (vI levels_1) :: .ref 0 0 0 :: .bad :: (vB false) :: bz 63 [])) (by kernel_rfl) (mB (mC (by kernel_rfl) (mC (by kernel_rfl) (mB (mC (by kernel_rfl) (mZ 63 mN))))))) (cut_go (mid := [.box 25 (cNode n_0)]) (by kernel_rfl) (oC (oB (lC (by kernel_rfl) (lC (sl_scrub tProp _ _) (lC (sl_scrub tNode _ _) lN)))) oN)) (by kernel_rfl)
                · rw [if_neg (ne_true h12)] at h
                  refine J_condF (v := (decide ((x10.value.length : Int) > 300))) (by kernel_rfl) h12 ?_
                  refine J_skip ?_
                  refine JK_bl ?_
                  refine JK_sq ?_
                  refine J_region ?_
                  refine JS_end (.bad :: (vI levels_1) :: .ref 0 0 0 :: .bad :: .bad :: .sc (.int .i64 (IntKind.wrap .i64 (v5 + 1))) :: bz 21 ((vI v5) :: .ref 0 0 1 :: Ty.sl tProp n_0.props :: .sc (.int .i64 (n_0.props.length : Int)) :: .sc (.bool (decide (v5 < (n_0.props.length : Int)))) :: (vI v5) :: .sc (.int .i64 (IntKind.wrap .i64 (v5 + 1))) :: .ref 0 0 1 :: Ty.sl tProp n_0.props :: (vI v5) :: .fp (List.flatMap (Ty.cells tProp) n_0.props) (v5.toNat * Ty.size tProp) :: .fp (List.flatMap (Ty.cells tProp) n_0.props) (v5.toNat * Ty.size tProp + 0) :: strV x7.name :: .sc (.int .i64 (x7.name.length : Int)) :: (vB false) :: (vB false) :: .ref 0 0 1 :: Ty.sl tProp n_0.props :: (vI v5) :: .fp (List.flatMap (Ty.cells tProp) n_0.props) (v5.toNat * Ty.size tProp) :: .fp (List.flatMap (Ty.cells tProp) n_0.props) (v5.toNat * Ty.size tProp + 1) :: strV x10.value :: .sc (.int .i64 (x10.value.length : Int)) :: .sc (.bool (decide ((x10.value.length : Int) > 300))) :: .sc (.bool (decide ((x10.value.length : Int) > 300))) :: bz 16 [])) [.box 25 (cNode n_0)] (by kernel_rfl) ?_
                  refine JK_nil ?_
                  obtain rfl := Option.some.inj h
                  exact turn_next () (kill_go (mid := (.bad :: (vI levels_1) :: .ref 0 0 0 :: .bad :: .bad :: .sc (.int .i64 (IntKind.wrap .i64 (v5 + 1))) :: bz 62 [])) (by kernel_rfl) (mB (mC (by kernel_rfl) (mC (by kernel_rfl) (mB (mB (mC (by kernel_rfl) (mZ 62 mN)))))))) (cut_go (mid := [.box 25 (cNode n_0)]) (by kernel_rfl) (oC (oB (lC (by kernel_rfl) (lC (sl_scrub tProp _ _) (lC (sl_scrub tNode _ _) lN)))) oN))
            · rw [if_neg (ne_true h6)] at h
              refine J_condF (v := (decide (v5 < (n_0.props.length : Int)))) (by kernel_rfl) h6 ?_
              refine J_exit ?_
              refine JK_sq_exit ?_
              refine JK_nil ?_
              obtain rfl := Option.some.inj h
              exact turn_exit (tm' := (.bad :: (vI levels_1) :: .ref 0 0 0 :: bz 65 [])) (st' := [.box 25 (cNode n_0)]) () (kill_go (mid := (.bad :: (vI levels_1) :: .ref 0 0 0 :: bz 65 [])) (by kernel_rfl) (mB (mC (by kernel_rfl) (mC (by kernel_rfl) (mZ 65 mN))))) (cut_go (mid := [.box 25 (cNode n_0)]) (by kernel_rfl) (oC (oB (lC (by kernel_rfl) (lC (sl_scrub tProp _ _) (lC (sl_scrub tNode _ _) lN)))) oN)) (by kernel_rfl)
          · intro g_
            rcases r13 with r15 | r27
            · dsimp only at h
              refine (show JK _ _ _ _ (.exit 0, (.bad :: (vI levels_1) :: .ref 0 0 0 :: bz 65 []), [.box 25 (cNode n_0)]) from ?_)
              refine JK_bl_hit ?_
              refine JK_sq ?_
              refine J_seq ?_
              refine J_seq ?_
              refine J_region ?_
              refine JS_end (.bad :: (vI levels_1) :: .ref 0 0 0 :: .bad :: .bad :: .bad :: (vI 0) :: bz 61 []) [.box 25 (cNode n_0)] (by kernel_rfl) ?_
              refine JK_sq ?_
              refine J_block ?_
              obtain ⟨r23, h24, h⟩ := Option.bind_eq_some_iff.1 h
              refine J_loop (γ := Unit) h24 1 (.bad :: (vI levels_1) :: .ref 0 0 0 :: .bad :: .bad :: .bad :: (vI 0) :: bz 61 []) [.box 25 (cNode n_0)] (fun s g => (.bad :: (vI levels_1) :: .ref 0 0 0 :: .bad :: .bad :: .bad :: (vI s) :: bz 61 [])) (fun s g => [.box 25 (cNode n_0)]) (fun r g => match r with | (.inl r) => (.exit 2, (bz 68 []), [.box 25 (cNode n_0)]) | (.inr r) => (.ret, (bz 4 ((vB false) :: bz 63 [])), [.box 25 (cNode n_0)])) () (by kernel_rfl) (by kernel_rfl) (kill_go (mid := (.bad :: (vI levels_1) :: .ref 0 0 0 :: .bad :: .bad :: .bad :: (vI 0) :: bz 61 [])) (by kernel_rfl) (mB (mC (by kernel_rfl) (mC (by kernel_rfl) (mB (mB (mB (mC (by kernel_rfl) (mZ 61 mN))))))))) (cut_go (mid := [.box 25 (cNode n_0)]) (by kernel_rfl) (oC (oB (lC (by kernel_rfl) (lC (sl_scrub tProp _ _) (lC (sl_scrub tNode _ _) lN)))) oN)) ?_ ?_
              · rintro v16 _ y h
                unfold ref12_low_l2 at h
                refine J_seq ?_
                refine J_seq ?_
                refine J_region ?_
                refine JS_end (.bad :: (vI levels_1) :: .ref 0 0 0 :: .bad :: .bad :: .bad :: (vI v16) :: bz 45 ((vI v16) :: .ref 0 0 2 :: Ty.sl tNode n_0.kids :: .sc (.int .i64 (n_0.kids.length : Int)) :: .sc (.bool (decide (v16 < (n_0.kids.length : Int)))) :: bz 11 [])) [.box 25 (cNode n_0)] (by kernel_rfl) ?_
                refine JK_sq ?_
                rcases bool_cases (decide (v16 < (n_0.kids.length : Int))) with h17 | h17
                · rw [if_pos h17] at h
                  refine J_condT (v := (decide (v16 < (n_0.kids.length : Int)))) (by kernel_rfl) h17 ?_
                  refine J_skip ?_
                  refine JK_sq ?_
                  refine J_seq ?_
                  refine J_block ?_
                  refine J_seq ?_
                  refine J_region ?_
                  refine JS_seg 3 (.bad :: (vI levels_1) :: .ref 0 0 0 :: .bad :: .bad :: .bad :: (vI v16) :: bz 45 ((vI v16) :: .ref 0 0 2 :: Ty.sl tNode n_0.kids :: .sc (.int .i64 (n_0.kids.length : Int)) :: .sc (.bool (decide (v16 < (n_0.kids.length : Int)))) :: .bad :: .bad :: .ref 0 0 2 :: Ty.sl tNode n_0.kids :: (vI v16) :: bz 6 [])) [.box 25 (cNode n_0)] (by kernel_rfl) ?_
                  obtain ⟨x18, h19, h⟩ := Option.bind_eq_some_iff.1 h
                  refine JS_val (fun s => aindexAddr E0.tb s 23 (Ty.sl tNode n_0.kids) ((vI v16))) (by kernel_rfl) (sl_addr tNode tb_23 rfl tb_25 rfl h19) ?_
                  refine JS_seg 4 (.bad :: (vI levels_1) :: .ref 0 0 0 :: .bad :: .bad :: .bad :: (vI v16) :: bz 45 ((vI v16) :: .ref 0 0 2 :: Ty.sl tNode n_0.kids :: .sc (.int .i64 (n_0.kids.length : Int)) :: .sc (.bool (decide (v16 < (n_0.kids.length : Int)))) :: .bad :: .bad :: .ref 0 0 2 :: Ty.sl tNode n_0.kids :: (vI v16) :: .fp (List.flatMap (Ty.cells tNode) n_0.kids) (v16.toNat * Ty.size tNode) :: bz 5 [])) [.box 25 (cNode n_0)] (by kernel_rfl) ?_
                  refine JS_val (fun s => aload E0.tb s 25 (.fp (List.flatMap (Ty.cells tNode) n_0.kids) (v16.toNat * Ty.size tNode))) (by kernel_rfl) (fp_loadN tNode (o := 0) (vs := (cNode x18)) tb_25 rfl h19 (by decide) (by rw [tNode_cells]; rfl)) ?_
                  refine JS_seg 7 (.bad :: (vI levels_1) :: .ref 0 0 0 :: .bad :: .bad :: .bad :: (vI v16) :: bz 45 [(vI v16), .ref 0 0 2, Ty.sl tNode n_0.kids, .sc (.int .i64 (n_0.kids.length : Int)), .sc (.bool (decide (v16 < (n_0.kids.length : Int)))), .bad, .bad, .ref 0 0 2, Ty.sl tNode n_0.kids, (vI v16), .fp (List.flatMap (Ty.cells tNode) n_0.kids) (v16.toNat * Ty.size tNode), .agg (cNode x18), (vI levels_1), .sc (.int .i64 (IntKind.wrap .i64 (levels_1 - 1))), .bad, .bad]) [.box 25 (cNode n_0)] (by kernel_rfl) ?_
                  obtain ⟨r20, h21, h⟩ := Option.bind_eq_some_iff.1 h
                  refine JS_upd (fun s => fcall E0 46 [.agg (cNode x18), .sc (.int .i64 (IntKind.wrap .i64 (levels_1 - 1)))] s) (by kernel_rfl) (hrec_ x18 (IntKind.wrap .i64 (levels_1 - 1)) _ _ h21) ?_
                  refine JS_end (.bad :: (vI levels_1) :: .ref 0 0 0 :: .bad :: .bad :: .bad :: (vI v16) :: bz 45 [(vI v16), .ref 0 0 2, Ty.sl tNode n_0.kids, .sc (.int .i64 (n_0.kids.length : Int)), .sc (.bool (decide (v16 < (n_0.kids.length : Int)))), .bad, .bad, .ref 0 0 2, Ty.sl tNode n_0.kids, (vI v16), .fp (List.flatMap (Ty.cells tNode) n_0.kids) (v16.toNat * Ty.size tNode), .agg (cNode x18), (vI levels_1), .sc (.int .i64 (IntKind.wrap .i64 (levels_1 - 1))), (vB r20), .sc (.bool (!r20))]) [.box 25 (cNode n_0)] (by kernel_rfl) ?_
                  refine JK_sq ?_
                  rcases bool_cases (!r20) with h22 | h22
                  · rw [if_pos h22] at h
                    refine J_condT (v := (!r20)) (by kernel_rfl) h22 ?_
                    refine J_seq ?_
                    refine J_region ?_
                    refine JS_end (.bad :: (vI levels_1) :: .ref 0 0 0 :: .bad :: (vB false) :: .bad :: (vI v16) :: bz 45 [(vI v16), .ref 0 0 2, Ty.sl tNode n_0.kids, .sc (.int .i64 (n_0.kids.length : Int)), .sc (.bool (decide (v16 < (n_0.kids.length : Int)))), .bad, .bad, .ref 0 0 2, Ty.sl tNode n_0.kids, (vI v16), .fp (List.flatMap (Ty.cells tNode) n_0.kids) (v16.toNat * Ty.size tNode), .agg (cNode x18), (vI levels_1), .sc (.int .i64 (IntKind.wrap .i64 (levels_1 - 1))), (vB r20), .sc (.bool (!r20))]) [.box 25 (cNode n_0)] (by kernel_rfl) ?_
                    refine JK_sq ?_
                    refine J_ret ?_
                    refine JK_bl_ret ?_
                    refine JK_sq_ret ?_
                    refine JK_nil ?_
                    obtain rfl := Option.some.inj h
                    exact turn_ret (tm' := (bz 4 ((vB false) :: bz 63 []))) (st' := [.box 25 (cNode n_0)]) () (kill_go (mid := (bz 4 ((vB false) :: bz 63 []))) (by kernel_rfl) (mZ 4 (mC (by kernel_rfl) (mZ 63 mN)))) (cut_go (mid := [.box 25 (cNode n_0)]) (by kernel_rfl) (oC (oB (lC (by kernel_rfl) (lC (sl_scrub tProp _ _) (lC (sl_scrub tNode _ _) lN)))) oN)) (by kernel_rfl)
                  · rw [if_neg (ne_true h22)] at h
                    refine J_condF (v := (!r20)) (by kernel_rfl) h22 ?_
                    refine J_skip ?_
                    refine JK_bl ?_
                    refine JK_sq ?_
                    refine J_region ?_
                    refine JS_end (.bad :: (vI levels_1) :: .ref 0 0 0 :: .bad :: .bad :: .bad :: .sc (.int .i64 (IntKind.wrap .i64 (v16 + 1))) :: bz 45 [(vI v16), .ref 0 0 2, Ty.sl tNode n_0.kids, .sc (.int .i64 (n_0.kids.length : Int)), .sc (.bool (decide (v16 < (n_0.kids.length : Int)))), (vI v16), .sc (.int .i64 (IntKind.wrap .i64 (v16 + 1))), .ref 0 0 2, Ty.sl tNode n_0.kids, (vI v16), .fp (List.flatMap (Ty.cells tNode) n_0.kids) (v16.toNat * Ty.size tNode), .agg (cNode x18), (vI levels_1), .sc (.int .i64 (IntKind.wrap .i64 (levels_1 - 1))), (vB r20), .sc (.bool (!r20))]) [.box 25 (cNode n_0)] (by kernel_rfl) ?_
                    refine JK_nil ?_
                    obtain rfl := Option.some.inj h
                    exact turn_next () (kill_go (mid := (.bad :: (vI levels_1) :: .ref 0 0 0 :: .bad :: .bad :: .bad :: .sc (.int .i64 (IntKind.wrap .i64 (v16 + 1))) :: bz 61 [])) (by kernel_rfl) (mB (mC (by kernel_rfl) (mC (by kernel_rfl) (mB (mB (mB (mC (by kernel_rfl) (mZ 61 mN))))))))) (cut_go (mid := [.box 25 (cNode n_0)]) (by kernel_rfl) (oC (oB (lC (by kernel_rfl) (lC (sl_scrub tProp _ _) (lC (sl_scrub tNode _ _) lN)))) oN))
                · rw [if_neg (ne_true h17)] at h
                  refine J_condF (v := (decide (v16 < (n_0.kids.length : Int)))) (by kernel_rfl) h17 ?_
                  refine J_exit ?_
                  refine JK_sq_exit ?_
                  refine JK_nil ?_
                  obtain rfl := Option.some.inj h
                  exact turn_exit (tm' := (bz 68 [])) (st' := [.box 25 (cNode n_0)]) () (kill_go (mid := (bz 68 [])) (by kernel_rfl) (mZ 68 mN)) (cut_go (mid := [.box 25 (cNode n_0)]) (by kernel_rfl) (oC (oB (lC (by kernel_rfl) (lC (sl_scrub tProp _ _) (lC (sl_scrub tNode _ _) lN)))) oN)) (by kernel_rfl)
              · intro g_
                rcases r23 with r25 | r26
                · dsimp only at h
                  refine (show JK _ _ _ _ (.exit 2, (bz 68 []), [.box 25 (cNode n_0)]) from ?_)
                  refine JK_bl_hit ?_
                  refine JK_sq ?_
                  refine J_seq ?_
                  refine J_region ?_
                  refine JS_end (bz 4 ((vB true) :: bz 63 [])) [.box 25 (cNode n_0)] (by kernel_rfl) ?_
                  refine JK_sq ?_
                  refine J_ret ?_
                  refine JK_nil ?_
                  obtain rfl := Option.some.inj h
                  exact ret_A (r := (vB true)) (r' := (vB true)) (.inl rfl) (by kernel_rfl) (by kernel_rfl) rfl ⟨by kernel_rfl, rfl⟩
                · dsimp only at h
                  refine (show JK _ _ _ _ (.ret, (bz 4 ((vB false) :: bz 63 [])), [.box 25 (cNode n_0)]) from ?_)
                  refine JK_bl_ret ?_
                  refine JK_sq_ret ?_
                  refine JK_nil ?_
                  obtain rfl := Option.some.inj h
                  exact ret_A (r := (vB false)) (r' := (vB false)) (.inl rfl) (by kernel_rfl) (by kernel_rfl) rfl ⟨by kernel_rfl, rfl⟩
            · dsimp only at h
              refine (show JK _ _ _ _ (.ret, (.bad :: (vI levels_1) :: .ref 0 0 0 :: .bad :: (vB false) :: bz 63 []), [.box 25 (cNode n_0)]) from ?_)
              refine JK_bl_ret ?_
              refine JK_sq_ret ?_
              refine JK_nil ?_
              obtain rfl := Option.some.inj h
              exact ret_A (r := (vB false)) (r' := (vB false)) (.inl rfl) (by kernel_rfl) (by kernel_rfl) rfl ⟨by kernel_rfl, rfl⟩

theorem ref12_low_k_C : ∀ (k : Nat) (n_0 : GNode) (levels_1 : Int) (r : Bool) (st : Store), ref12_low_k k n_0 levels_1 = some r → fcall E0 46 [.agg (cNode n_0), (vI levels_1)] st = some ((vB r), st)
  | 0, n_0, levels_1, r, st, h => by simp [ref12_low_k] at h
  | k + 1, n_0, levels_1, r, st, h => ref12_low_b_C (ref12_low_k k) (ref12_low_k_C k) n_0 levels_1 r st (by simpa only [ref12_low_k] using h)

theorem ref12_low_C (n_0 : GNode) (levels_1 : Int) (r : Bool) (st : Store) (h : ref12_low n_0 levels_1 = some r) : fcall E0 46 [.agg (cNode n_0), (vI levels_1)] st = some ((vB r), st) := by
  obtain ⟨k, hk⟩ := limF_some h
  exact ref12_low_k_C k n_0 levels_1 r st hk

theorem ref12_size_b_C (rec_ : GNode → Int → Option Int) (hrec_ : ∀ (n_0 : GNode) (levels_1 : Int) (r : Int) (st : Store), rec_ n_0 levels_1 = some r → fcall E0 47 [.agg (cNode n_0), (vI levels_1)] st = some ((vI r), st)) (n_0 : GNode) (levels_1 : Int) (r : Int) (st : Store) (h : ref12_size_b rec_ n_0 levels_1 = some r) : fcall E0 47 [.agg (cNode n_0), (vI levels_1)] st = some ((vI r), st) := by
  unfold ref12_size_b at h
  refine fn_alone (fn := Tryd.f47) (av' := (.agg (cNode n_0) :: (vI levels_1) :: bz 33 [])) rfl fn_47 rfl (pC (pAgg (pC rfl (pC (sl_pure tProp _) (pC (sl_pure tNode _) pN)))) (pC rfl pN)) rfl rfl rfl (has_go (as1 := [.agg (cNode n_0), (vI levels_1)]) (lC (sAgg (lC (by kernel_rfl) (lC (sl_scrub tProp _ _) (lC (sl_scrub tNode _ _) lN)))) (lC (by kernel_rfl) lN)) (by kernel_rfl)) ?_
  refine J_seq ?_
  refine J_region ?_
  refine JS_end (.agg (cNode n_0) :: (vI levels_1) :: .ref 0 0 0 :: .bad :: (vI 0) :: bz 30 []) [.box 25 (cNode n_0)] (by kernel_rfl) ?_
  refine JK_sq ?_
  refine J_seq ?_
  refine J_seq ?_
  refine J_region ?_
  refine JS_end (.agg (cNode n_0) :: (vI levels_1) :: .ref 0 0 0 :: .bad :: (vI 0) :: .bad :: .bad :: (vI levels_1) :: .sc (.bool (levels_1 == 0)) :: bz 26 []) [.box 25 (cNode n_0)] (by kernel_rfl) ?_
  refine JK_sq ?_
  rcases bool_cases (levels_1 == 0) with h1 | h1
  · rw [if_pos h1] at h
    refine J_condT (v := (levels_1 == 0)) (by kernel_rfl) h1 ?_
    refine J_seq ?_
    refine J_region ?_
    refine JS_end (.agg (cNode n_0) :: (vI levels_1) :: .ref 0 0 0 :: .bad :: (vI 0) :: .bad :: .bad :: (vI levels_1) :: .sc (.bool (levels_1 == 0)) :: bz 26 []) [.box 25 (cNode n_0)] (by kernel_rfl) ?_
    refine JK_sq ?_
    refine J_ret ?_
    refine JK_sq_ret ?_
    refine JK_nil ?_
    obtain rfl := Option.some.inj h
    exact ret_A (r := (vI 0)) (r' := (vI 0)) (.inl rfl) (by kernel_rfl) (by kernel_rfl) rfl ⟨by kernel_rfl, rfl⟩
  · rw [if_neg (ne_true h1)] at h
    refine J_condF (v := (levels_1 == 0)) (by kernel_rfl) h1 ?_
    refine J_skip ?_
    refine JK_sq ?_
    refine J_seq ?_
    refine J_region ?_
    refine JS_end (.agg (cNode n_0) :: (vI levels_1) :: .ref 0 0 0 :: .bad :: (vI 0) :: .sc (.int .i64 (IntKind.wrap .i64 (1 + (n_0.props.length : Int)))) :: .bad :: (vI levels_1) :: .sc (.bool (levels_1 == 0)) :: .ref 0 0 1 :: Ty.sl tProp n_0.props :: .sc (.int .i64 (n_0.props.length : Int)) :: .sc (.int .i64 (IntKind.wrap .i64 (1 + (n_0.props.length : Int)))) :: bz 22 []) [.box 25 (cNode n_0)] (by kernel_rfl) ?_
    refine JK_sq ?_
    refine J_seq ?_
    refine J_seq ?_
    refine J_region ?_
    refine JS_end (.agg (cNode n_0) :: (vI levels_1) :: .ref 0 0 0 :: .bad :: (vI 0) :: .sc (.int .i64 (IntKind.wrap .i64 (1 + (n_0.props.length : Int)))) :: (vI 0) :: (vI levels_1) :: .sc (.bool (levels_1 == 0)) :: .ref 0 0 1 :: Ty.sl tProp n_0.props :: .sc (.int .i64 (n_0.props.length : Int)) :: .sc (.int .i64 (IntKind.wrap .i64 (1 + (n_0.props.length : Int)))) :: bz 22 []) [.box 25 (cNode n_0)] (by kernel_rfl) ?_
    refine JK_sq ?_
    refine J_block ?_
    obtain ⟨r10, h11, h⟩ := Option.bind_eq_some_iff.1 h
    refine J_loop (γ := Unit) h11 1 (.agg (cNode n_0) :: (vI levels_1) :: .ref 0 0 0 :: .bad :: (vI 0) :: .sc (.int .i64 (IntKind.wrap .i64 (1 + (n_0.props.length : Int)))) :: (vI 0) :: (vI levels_1) :: .sc (.bool (levels_1 == 0)) :: .ref 0 0 1 :: Ty.sl tProp n_0.props :: .sc (.int .i64 (n_0.props.length : Int)) :: .sc (.int .i64 (IntKind.wrap .i64 (1 + (n_0.props.length : Int)))) :: bz 22 []) [.box 25 (cNode n_0)] (fun s g => (.bad :: (vI levels_1) :: .ref 0 0 0 :: .bad :: .bad :: .sc (.int .i64 s.1) :: .sc (.int .i64 s.2) :: bz 28 [])) (fun s g => [.box 25 (cNode n_0)]) (fun r g => (.exit 0, (bz 5 ((vI r) :: bz 29 [])), [.box 25 (cNode n_0)])) () (by kernel_rfl) (by kernel_rfl) (kill_go (mid := (.bad :: (vI levels_1) :: .ref 0 0 0 :: .bad :: .bad :: .sc (.int .i64 (IntKind.wrap .i64 (1 + (n_0.props.length : Int)))) :: (vI 0) :: bz 28 [])) (by kernel_rfl) (mB (mC (by kernel_rfl) (mC (by kernel_rfl) (mB (mB (mC (by kernel_rfl) (mC (by kernel_rfl) (mZ 28 mN))))))))) (cut_go (mid := [.box 25 (cNode n_0)]) (by kernel_rfl) (oC (oB (lC (by kernel_rfl) (lC (sl_scrub tProp _ _) (lC (sl_scrub tNode _ _) lN)))) oN)) ?_ ?_
    · rintro ⟨v2, v3⟩ _ y h
      unfold ref12_size_l1 at h
      dsimp only at h
      refine J_seq ?_
      refine J_seq ?_
      refine J_region ?_
      refine JS_seg 6 (.bad :: (vI levels_1) :: .ref 0 0 0 :: .bad :: .bad :: (vI v2) :: (vI v3) :: bz 6 ((vI v3) :: .ref 0 0 2 :: Ty.sl tNode n_0.kids :: .sc (.int .i64 (n_0.kids.length : Int)) :: .sc (.bool (decide (v3 < (n_0.kids.length : Int)))) :: .sc (.bool (decide (v3 < (n_0.kids.length : Int)))) :: bz 16 [])) [.box 25 (cNode n_0)] (by kernel_rfl) ?_
      rcases bool_cases (decide (v3 < (n_0.kids.length : Int))) with h4 | h4
      · rw [if_pos h4] at h
        refine JS_cast (tm' := (.bad :: (vI levels_1) :: .ref 0 0 0 :: .bad :: .bad :: (vI v2) :: (vI v3) :: bz 6 ((vI v3) :: .ref 0 0 2 :: Ty.sl tNode n_0.kids :: .sc (.int .i64 (n_0.kids.length : Int)) :: (vB true) :: (vB true) :: bz 16 []))) (by rw [h4]) rfl ?_
        refine JS_end (.bad :: (vI levels_1) :: .ref 0 0 0 :: .bad :: .bad :: (vI v2) :: (vI v3) :: bz 6 ((vI v3) :: .ref 0 0 2 :: Ty.sl tNode n_0.kids :: .sc (.int .i64 (n_0.kids.length : Int)) :: (vB true) :: (vB true) :: (vI v2) :: .sc (.bool (decide (v2 < 1000))) :: .sc (.bool (decide (v2 < 1000))) :: bz 13 [])) [.box 25 (cNode n_0)] (by kernel_rfl) ?_
        refine JK_sq ?_
        rcases bool_cases (decide (v2 < 1000)) with h5 | h5
        · rw [if_pos h5] at h
          refine J_condT (v := (decide (v2 < 1000))) (by kernel_rfl) h5 ?_
          refine J_skip ?_
          refine JK_sq ?_
          refine J_seq ?_
          refine J_block ?_
          refine J_region ?_
          refine JS_seg 4 (.bad :: (vI levels_1) :: .ref 0 0 0 :: .bad :: .bad :: (vI v2) :: (vI v3) :: bz 6 ((vI v3) :: .ref 0 0 2 :: Ty.sl tNode n_0.kids :: .sc (.int .i64 (n_0.kids.length : Int)) :: (vB true) :: (vB true) :: (vI v2) :: .sc (.bool (decide (v2 < 1000))) :: .sc (.bool (decide (v2 < 1000))) :: .bad :: .bad :: (vI v2) :: .ref 0 0 2 :: Ty.sl tNode n_0.kids :: (vI v3) :: bz 7 [])) [.box 25 (cNode n_0)] (by kernel_rfl) ?_
          obtain ⟨x6, h7, h⟩ := Option.bind_eq_some_iff.1 h
          refine JS_val (fun s => aindexAddr E0.tb s 23 (Ty.sl tNode n_0.kids) ((vI v3))) (by kernel_rfl) (sl_addr tNode tb_23 rfl tb_25 rfl h7) ?_
          refine JS_seg 5 (.bad :: (vI levels_1) :: .ref 0 0 0 :: .bad :: .bad :: (vI v2) :: (vI v3) :: bz 6 ((vI v3) :: .ref 0 0 2 :: Ty.sl tNode n_0.kids :: .sc (.int .i64 (n_0.kids.length : Int)) :: (vB true) :: (vB true) :: (vI v2) :: .sc (.bool (decide (v2 < 1000))) :: .sc (.bool (decide (v2 < 1000))) :: .bad :: .bad :: (vI v2) :: .ref 0 0 2 :: Ty.sl tNode n_0.kids :: (vI v3) :: .fp (List.flatMap (Ty.cells tNode) n_0.kids) (v3.toNat * Ty.size tNode) :: bz 6 [])) [.box 25 (cNode n_0)] (by kernel_rfl) ?_
          refine JS_val (fun s => aload E0.tb s 25 (.fp (List.flatMap (Ty.cells tNode) n_0.kids) (v3.toNat * Ty.size tNode))) (by kernel_rfl) (fp_loadN tNode (o := 0) (vs := (cNode x6)) tb_25 rfl h7 (by decide) (by rw [tNode_cells]; rfl)) ?_
          refine JS_seg 8 (.bad :: (vI levels_1) :: .ref 0 0 0 :: .bad :: .bad :: (vI v2) :: (vI v3) :: bz 6 [(vI v3), .ref 0 0 2, Ty.sl tNode n_0.kids, .sc (.int .i64 (n_0.kids.length : Int)), (vB true), (vB true), (vI v2), .sc (.bool (decide (v2 < 1000))), .sc (.bool (decide (v2 < 1000))), .bad, .bad, (vI v2), .ref 0 0 2, Ty.sl tNode n_0.kids, (vI v3), .fp (List.flatMap (Ty.cells tNode) n_0.kids) (v3.toNat * Ty.size tNode), .agg (cNode x6), (vI levels_1), .sc (.int .i64 (IntKind.wrap .i64 (levels_1 - 1))), .bad, .bad, .bad]) [.box 25 (cNode n_0)] (by kernel_rfl) ?_
          obtain ⟨r8, h9, h⟩ := Option.bind_eq_some_iff.1 h
          refine JS_upd (fun s => fcall E0 47 [.agg (cNode x6), .sc (.int .i64 (IntKind.wrap .i64 (levels_1 - 1)))] s) (by kernel_rfl) (hrec_ x6 (IntKind.wrap .i64 (levels_1 - 1)) _ _ h9) ?_
          refine JS_end (.bad :: (vI levels_1) :: .ref 0 0 0 :: .bad :: .bad :: .sc (.int .i64 (IntKind.wrap .i64 (v2 + r8))) :: (vI v3) :: bz 6 [(vI v3), .ref 0 0 2, Ty.sl tNode n_0.kids, .sc (.int .i64 (n_0.kids.length : Int)), (vB true), (vB true), (vI v2), .sc (.bool (decide (v2 < 1000))), .sc (.bool (decide (v2 < 1000))), .bad, .bad, (vI v2), .ref 0 0 2, Ty.sl tNode n_0.kids, (vI v3), .fp (List.flatMap (Ty.cells tNode) n_0.kids) (v3.toNat * Ty.size tNode), .agg (cNode x6), (vI levels_1), .sc (.int .i64 (IntKind.wrap .i64 (levels_1 - 1))), (vI r8), .sc (.int .i64 (IntKind.wrap .i64 (v2 + r8))), .bad]) [.box 25 (cNode n_0)] (by kernel_rfl) ?_
          refine JK_bl ?_
          refine JK_sq ?_
          refine J_region ?_
          refine JS_end (.bad :: (vI levels_1) :: .ref 0 0 0 :: .bad :: .bad :: .sc (.int .i64 (IntKind.wrap .i64 (v2 + r8))) :: .sc (.int .i64 (IntKind.wrap .i64 (v3 + 1))) :: bz 6 [(vI v3), .ref 0 0 2, Ty.sl tNode n_0.kids, .sc (.int .i64 (n_0.kids.length : Int)), (vB true), (vB true), (vI v2), .sc (.bool (decide (v2 < 1000))), .sc (.bool (decide (v2 < 1000))), (vI v3), .sc (.int .i64 (IntKind.wrap .i64 (v3 + 1))), (vI v2), .ref 0 0 2, Ty.sl tNode n_0.kids, (vI v3), .fp (List.flatMap (Ty.cells tNode) n_0.kids) (v3.toNat * Ty.size tNode), .agg (cNode x6), (vI levels_1), .sc (.int .i64 (IntKind.wrap .i64 (levels_1 - 1))), (vI r8), .sc (.int .i64 (IntKind.wrap .i64 (v2 + r8))), .bad]) [.box 25 (cNode n_0)] (by kernel_rfl) ?_
          refine JK_nil ?_
          obtain rfl := Option.some.inj h
          exact turn_next () (kill_go (mid := (.bad :: (vI levels_1) :: .ref 0 0 0 :: .bad :: .bad :: .sc (.int .i64 (IntKind.wrap .i64 (v2 + r8))) :: .sc (.int .i64 (IntKind.wrap .i64 (v3 + 1))) :: bz 28 [])) (by kernel_rfl) (mB (mC (by kernel_rfl) (mC (by kernel_rfl) (mB (mB (mC (by kernel_rfl) (mC (by kernel_rfl) (mZ 28 mN))))))))) (cut_go (mid := [.box 25 (cNode n_0)]) (by kernel_rfl) (oC (oB (lC (by kernel_rfl) (lC (sl_scrub tProp _ _) (lC (sl_scrub tNode _ _) lN)))) oN))
        · rw [if_neg (ne_true h5)] at h
          refine J_condF (v := (decide (v2 < 1000))) (by kernel_rfl) h5 ?_
          refine J_exit ?_
          refine JK_sq_exit ?_
          refine JK_nil ?_
          obtain rfl := Option.some.inj h
          exact turn_exit (tm' := (bz 5 ((vI v2) :: bz 29 []))) (st' := [.box 25 (cNode n_0)]) () (kill_go (mid := (bz 5 ((vI v2) :: bz 29 []))) (by kernel_rfl) (mZ 5 (mC (by kernel_rfl) (mZ 29 mN)))) (cut_go (mid := [.box 25 (cNode n_0)]) (by kernel_rfl) (oC (oB (lC (by kernel_rfl) (lC (sl_scrub tProp _ _) (lC (sl_scrub tNode _ _) lN)))) oN)) (by kernel_rfl)
      · rw [if_neg (ne_true h4)] at h
        refine JS_cast (tm' := (.bad :: (vI levels_1) :: .ref 0 0 0 :: .bad :: .bad :: (vI v2) :: (vI v3) :: bz 6 ((vI v3) :: .ref 0 0 2 :: Ty.sl tNode n_0.kids :: .sc (.int .i64 (n_0.kids.length : Int)) :: (vB false) :: (vB false) :: bz 16 []))) (by rw [h4]) rfl ?_
        refine JS_end (.bad :: (vI levels_1) :: .ref 0 0 0 :: .bad :: .bad :: (vI v2) :: (vI v3) :: bz 6 ((vI v3) :: .ref 0 0 2 :: Ty.sl tNode n_0.kids :: .sc (.int .i64 (n_0.kids.length : Int)) :: (vB false) :: (vB false) :: .tup [] :: .tup [] :: (vB false) :: bz 13 [])) [.box 25 (cNode n_0)] (by kernel_rfl) ?_
        refine JK_sq ?_
        refine J_condF (v := false) (by kernel_rfl) rfl ?_
        refine J_exit ?_
        refine JK_sq_exit ?_
        refine JK_nil ?_
        obtain rfl := Option.some.inj h
        exact turn_exit (tm' := (bz 5 ((vI v2) :: bz 29 []))) (st' := [.box 25 (cNode n_0)]) () (kill_go (mid := (bz 5 ((vI v2) :: bz 29 []))) (by kernel_rfl) (mZ 5 (mC (by kernel_rfl) (mZ 29 mN)))) (cut_go (mid := [.box 25 (cNode n_0)]) (by kernel_rfl) (oC (oB (lC (by kernel_rfl) (lC (sl_scrub tProp _ _) (lC (sl_scrub tNode _ _) lN)))) oN)) (by kernel_rfl)
    · intro g_
      refine (show JK _ _ _ _ (.exit 0, (bz 5 ((vI r10) :: bz 29 [])), [.box 25 (cNode n_0)]) from ?_)
      refine JK_bl_hit ?_
      refine JK_sq ?_
      refine J_seq ?_
      refine J_region ?_
      refine JS_end (bz 4 ((vI r10) :: (vI r10) :: bz 28 [(vI r10)])) [.box 25 (cNode n_0)] (by kernel_rfl) ?_
      refine JK_sq ?_
      refine J_ret ?_
      refine JK_nil ?_
      obtain rfl := Option.some.inj h
      exact ret_A (r := (vI r10)) (r' := (vI r10)) (.inl rfl) (by kernel_rfl) (by kernel_rfl) rfl ⟨by kernel_rfl, rfl⟩

theorem ref12_size_k_C : ∀ (k : Nat) (n_0 : GNode) (levels_1 : Int) (r : Int) (st : Store), ref12_size_k k n_0 levels_1 = some r → fcall E0 47 [.agg (cNode n_0), (vI levels_1)] st = some ((vI r), st)
  | 0, n_0, levels_1, r, st, h => by simp [ref12_size_k] at h
  | k + 1, n_0, levels_1, r, st, h => ref12_size_b_C (ref12_size_k k) (ref12_size_k_C k) n_0 levels_1 r st (by simpa only [ref12_size_k] using h)

theorem ref12_size_C (n_0 : GNode) (levels_1 : Int) (r : Int) (st : Store) (h : ref12_size n_0 levels_1 = some r) : fcall E0 47 [.agg (cNode n_0), (vI levels_1)] st = some ((vI r), st) := by
  obtain ⟨k, hk⟩ := limF_some h
  exact ref12_size_k_C k n_0 levels_1 r st hk

theorem ref12_Low_C (n_0 : GNode) (r : Bool) (st : Store) (h : ref12_Low n_0 = some r) : fcall E0 9 [.agg (cNode n_0)] st = some ((vB r), st) := by
  unfold ref12_Low at h
  refine fn_alone (fn := Tryd.f9) (av' := (.agg (cNode n_0) :: bz 9 [])) rfl fn_9 rfl (pC (pAgg (pC rfl (pC (sl_pure tProp _) (pC (sl_pure tNode _) pN)))) pN) rfl rfl rfl (has_go (as1 := [.agg (cNode n_0)]) (lC (sAgg (lC (by kernel_rfl) (lC (sl_scrub tProp _ _) (lC (sl_scrub tNode _ _) lN)))) lN) (by kernel_rfl)) ?_
  refine J_seq ?_
  refine J_region ?_
  refine JS_end (.agg (cNode n_0) :: .ref 0 0 0 :: (vB false) :: bz 7 []) [.box 25 (cNode n_0)] (by kernel_rfl) ?_
  refine JK_sq ?_
  refine J_seq ?_
  refine J_region ?_
  refine JS_seg 1 (.agg (cNode n_0) :: .ref 0 0 0 :: (vB false) :: .agg (cNode n_0) :: bz 6 []) [.box 25 (cNode n_0)] (by kernel_rfl) ?_
  obtain ⟨r1, h2, h⟩ := Option.bind_eq_some_iff.1 h
  refine JS_upd (fun s => fcall E0 46 [.agg (cNode n_0), (vI 12)] s) (by kernel_rfl) (ref12_low_C n_0 12 _ _ h2) ?_
  refine JS_seg 3 (.agg (cNode n_0) :: .ref 0 0 0 :: (vB false) :: .agg (cNode n_0) :: (vB r1) :: (vB r1) :: bz 4 []) [.box 25 (cNode n_0)] (by kernel_rfl) ?_
  rcases bool_cases r1 with h3 | h3
  · rw [if_pos h3] at h
    refine JS_cast (tm' := (.agg (cNode n_0) :: .ref 0 0 0 :: (vB false) :: .agg (cNode n_0) :: (vB true) :: (vB true) :: bz 4 [])) (by rw [h3]) rfl ?_
    refine JS_seg 4 [.agg (cNode n_0), .ref 0 0 0, (vB false), .agg (cNode n_0), (vB true), (vB true), .agg (cNode n_0), .bad, .bad, .bad] [.box 25 (cNode n_0)] (by kernel_rfl) ?_
    obtain ⟨r4, h5, h⟩ := Option.bind_eq_some_iff.1 h
    refine JS_upd (fun s => fcall E0 47 [.agg (cNode n_0), (vI 12)] s) (by kernel_rfl) (ref12_size_C n_0 12 _ _ h5) ?_
    refine JS_end [.agg (cNode n_0), .ref 0 0 0, .sc (.bool (decide (r4 ≤ 400))), .agg (cNode n_0), (vB true), (vB true), .agg (cNode n_0), (vI r4), .sc (.bool (decide (r4 ≤ 400))), .sc (.bool (decide (r4 ≤ 400)))] [.box 25 (cNode n_0)] (by kernel_rfl) ?_
    refine JK_sq ?_
    refine J_ret ?_
    refine JK_nil ?_
    obtain rfl := Option.some.inj h
    exact ret_A (r := .sc (.bool (decide (r4 ≤ 400)))) (r' := .sc (.bool (decide (r4 ≤ 400)))) (.inl rfl) (by kernel_rfl) (by kernel_rfl) rfl ⟨by kernel_rfl, rfl⟩
  · rw [if_neg (ne_true h3)] at h
    refine JS_cast (tm' := (.agg (cNode n_0) :: .ref 0 0 0 :: (vB false) :: .agg (cNode n_0) :: (vB false) :: (vB false) :: bz 4 [])) (by rw [h3]) rfl ?_
    refine JS_end [.agg (cNode n_0), .ref 0 0 0, (vB false), .agg (cNode n_0), (vB false), (vB false), .tup [], .tup [], .tup [], (vB false)] [.box 25 (cNode n_0)] (by kernel_rfl) ?_
    refine JK_sq ?_
    refine J_ret ?_
    refine JK_nil ?_
    obtain rfl := Option.some.inj h
    exact ret_A (r := (vB false)) (r' := (vB false)) (.inl rfl) (by kernel_rfl) (by kernel_rfl) rfl ⟨by kernel_rfl, rfl⟩

theorem law16_awake_C (r : Bool) (st : Store) (h : law16_awake = some r) : fcall E0 10 [] st = some ((vB r), st) := by
  obtain rfl := Option.some.inj h
  exact fcall_some.2 ⟨1000, by kernel_rfl⟩

theorem stringslite_HasPrefix_C (s_0 : Str) (prefix_1 : Str) (r : Bool) (st : Store) (h : stringslite_HasPrefix s_0 prefix_1 = some r) : fcall E0 118 [strV s_0, strV prefix_1] st = some ((vB r), st) := by
  unfold stringslite_HasPrefix at h
  refine fn_alone (fn := Tryd.f118) (av' := (strV s_0 :: strV prefix_1 :: bz 16 [])) rfl fn_118 rfl (pC rfl (pC rfl pN)) rfl rfl rfl (has_go (as1 := [strV s_0, strV prefix_1]) (lC (by kernel_rfl) (lC (by kernel_rfl) lN)) (by kernel_rfl)) ?_
  refine J_seq ?_
  refine J_region ?_
  refine JS_end (strV s_0 :: strV prefix_1 :: .bad :: .bad :: (vB false) :: bz 13 []) [] (by kernel_rfl) ?_
  refine JK_sq ?_
  refine J_seq ?_
  refine J_region ?_
  refine JS_seg 6 (strV s_0 :: strV prefix_1 :: .bad :: .bad :: (vB false) :: strV s_0 :: .sc (.int .i64 (s_0.length : Int)) :: strV prefix_1 :: .sc (.int .i64 (prefix_1.length : Int)) :: .sc (.bool (decide ((s_0.length : Int) ≥ (prefix_1.length : Int)))) :: .sc (.bool (decide ((s_0.length : Int) ≥ (prefix_1.length : Int)))) :: bz 7 []) [] (by kernel_rfl) ?_
  rcases bool_cases (decide ((s_0.length : Int) ≥ (prefix_1.length : Int))) with h1 | h1
  · rw [if_pos h1] at h
    refine JS_cast (tm' := (strV s_0 :: strV prefix_1 :: .bad :: .bad :: (vB false) :: strV s_0 :: .sc (.int .i64 (s_0.length : Int)) :: strV prefix_1 :: .sc (.int .i64 (prefix_1.length : Int)) :: (vB true) :: (vB true) :: bz 7 [])) (by rw [h1]) rfl ?_
    refine JS_seg 9 (strV s_0 :: strV prefix_1 :: .bad :: .bad :: (vB false) :: strV s_0 :: .sc (.int .i64 (s_0.length : Int)) :: strV prefix_1 :: .sc (.int .i64 (prefix_1.length : Int)) :: (vB true) :: (vB true) :: strV s_0 :: strV prefix_1 :: .sc (.int .i64 (prefix_1.length : Int)) :: bz 4 []) [] (by kernel_rfl) ?_
    obtain ⟨s2, h3, h⟩ := Option.bind_eq_some_iff.1 h
    refine JS_val (fun s => aslice E0.tb s 9 (strV s_0) none (some (.sc (.int .i64 (prefix_1.length : Int))))) (by kernel_rfl) (str_sub tb_9 rfl loV_none hiV_some h3) ?_
    refine JS_seg 11 [strV s_0, strV prefix_1, .bad, .bad, (vB false), strV s_0, .sc (.int .i64 (s_0.length : Int)), strV prefix_1, .sc (.int .i64 (prefix_1.length : Int)), (vB true), (vB true), strV s_0, strV prefix_1, .sc (.int .i64 (prefix_1.length : Int)), strV s2, strV prefix_1, .bad, .bad] [] (by kernel_rfl) ?_
    refine JS_val (fun s => abin E0.tb s .eql 9 (strV s2) (strV prefix_1)) (by kernel_rfl) (str_eq s2 prefix_1) ?_
    refine JS_end [strV s_0, strV prefix_1, .bad, .bad, .sc (.bool (s2 == prefix_1)), strV s_0, .sc (.int .i64 (s_0.length : Int)), strV prefix_1, .sc (.int .i64 (prefix_1.length : Int)), (vB true), (vB true), strV s_0, strV prefix_1, .sc (.int .i64 (prefix_1.length : Int)), strV s2, strV prefix_1, .sc (.bool (s2 == prefix_1)), .sc (.bool (s2 == prefix_1))] [] (by kernel_rfl) ?_
    refine JK_sq ?_
    refine J_ret ?_
    refine JK_nil ?_
    obtain rfl := Option.some.inj h
    exact ret_A (r := .sc (.bool (s2 == prefix_1))) (r' := .sc (.bool (s2 == prefix_1))) (.inl rfl) (by kernel_rfl) (by kernel_rfl) rfl ⟨by kernel_rfl, rfl⟩
  · rw [if_neg (ne_true h1)] at h
    refine JS_cast (tm' := (strV s_0 :: strV prefix_1 :: .bad :: .bad :: (vB false) :: strV s_0 :: .sc (.int .i64 (s_0.length : Int)) :: strV prefix_1 :: .sc (.int .i64 (prefix_1.length : Int)) :: (vB false) :: (vB false) :: bz 7 [])) (by rw [h1]) rfl ?_
    refine JS_end [strV s_0, strV prefix_1, .bad, .bad, (vB false), strV s_0, .sc (.int .i64 (s_0.length : Int)), strV prefix_1, .sc (.int .i64 (prefix_1.length : Int)), (vB false), (vB false), .tup [], .tup [], .tup [], .tup [], .tup [], .tup [], (vB false)] [] (by kernel_rfl) ?_
    refine JK_sq ?_
    refine J_ret ?_
    refine JK_nil ?_
    obtain rfl := Option.some.inj h
    exact ret_A (r := (vB false)) (r' := (vB false)) (.inl rfl) (by kernel_rfl) (by kernel_rfl) rfl ⟨by kernel_rfl, rfl⟩

theorem stringslite_CutPrefix_C (s_0 : Str) (prefix_1 : Str) (r : Str × Bool) (st : Store) (h : stringslite_CutPrefix s_0 prefix_1 = some r) : fcall E0 98 [strV s_0, strV prefix_1] st = some (.tup [strV r.1, .sc (.bool r.2)], st) := by
  unfold stringslite_CutPrefix at h
  refine fn_alone (fn := Tryd.f98) (av' := (strV s_0 :: strV prefix_1 :: bz 13 [])) rfl fn_98 rfl (pC rfl (pC rfl pN)) rfl rfl rfl (has_go (as1 := [strV s_0, strV prefix_1]) (lC (by kernel_rfl) (lC (by kernel_rfl) lN)) (by kernel_rfl)) ?_
  refine J_seq ?_
  refine J_region ?_
  refine JS_end (strV s_0 :: strV prefix_1 :: .bad :: .bad :: strV [] :: (vB false) :: bz 9 []) [] (by kernel_rfl) ?_
  refine JK_sq ?_
  refine J_seq ?_
  refine J_seq ?_
  refine J_region ?_
  refine JS_seg 2 (strV s_0 :: strV prefix_1 :: .bad :: .bad :: strV [] :: (vB false) :: strV s_0 :: strV prefix_1 :: bz 7 []) [] (by kernel_rfl) ?_
  obtain ⟨r1, h2, h⟩ := Option.bind_eq_some_iff.1 h
  refine JS_upd (fun s => fcall E0 118 [strV s_0, strV prefix_1] s) (by kernel_rfl) (stringslite_HasPrefix_C s_0 prefix_1 _ _ h2) ?_
  refine JS_end (strV s_0 :: strV prefix_1 :: .bad :: .bad :: strV [] :: (vB false) :: strV s_0 :: strV prefix_1 :: (vB r1) :: .sc (.bool (!r1)) :: bz 5 []) [] (by kernel_rfl) ?_
  refine JK_sq ?_
  rcases bool_cases (!r1) with h3 | h3
  · rw [if_pos h3] at h
    refine J_condT (v := (!r1)) (by kernel_rfl) h3 ?_
    refine J_seq ?_
    refine J_region ?_
    refine JS_end (strV s_0 :: strV prefix_1 :: .bad :: .bad :: strV s_0 :: (vB false) :: strV s_0 :: strV prefix_1 :: (vB r1) :: .sc (.bool (!r1)) :: strV s_0 :: bz 4 []) [] (by kernel_rfl) ?_
    refine JK_sq ?_
    refine J_ret ?_
    refine JK_sq_ret ?_
    refine JK_nil ?_
    obtain rfl := Option.some.inj h
    exact ret_A (r := .tup [strV s_0, (vB false)]) (r' := .tup [strV s_0, (vB false)]) (.inl rfl) (by kernel_rfl) (fTup (fC (by kernel_rfl) (fC (by kernel_rfl) fN))) (pTup (pC rfl (pC rfl pN))) ⟨by kernel_rfl, rfl⟩
  · rw [if_neg (ne_true h3)] at h
    refine J_condF (v := (!r1)) (by kernel_rfl) h3 ?_
    refine J_skip ?_
    refine JK_sq ?_
    refine J_seq ?_
    refine J_region ?_
    refine JS_seg 3 [strV s_0, strV prefix_1, .bad, .bad, strV [], (vB false), strV s_0, strV prefix_1, (vB r1), .sc (.bool (!r1)), .bad, strV s_0, strV prefix_1, .sc (.int .i64 (prefix_1.length : Int)), .bad] [] (by kernel_rfl) ?_
    obtain ⟨s4, h5, h⟩ := Option.bind_eq_some_iff.1 h
    refine JS_val (fun s => aslice E0.tb s 9 (strV s_0) (some (.sc (.int .i64 (prefix_1.length : Int)))) none) (by kernel_rfl) (str_sub tb_9 rfl loV_some hiV_none h5) ?_
    refine JS_end [strV s_0, strV prefix_1, .bad, .bad, strV s4, (vB true), strV s_0, strV prefix_1, (vB r1), .sc (.bool (!r1)), .bad, strV s_0, strV prefix_1, .sc (.int .i64 (prefix_1.length : Int)), strV s4] [] (by kernel_rfl) ?_
    refine JK_sq ?_
    refine J_ret ?_
    refine JK_nil ?_
    obtain rfl := Option.some.inj h
    exact ret_A (r := .tup [strV s4, (vB true)]) (r' := .tup [strV s4, (vB true)]) (.inl rfl) (by kernel_rfl) (fTup (fC (by kernel_rfl) (fC (by kernel_rfl) fN))) (pTup (pC rfl (pC rfl pN))) ⟨by kernel_rfl, rfl⟩

theorem strings_CutPrefix_C (s_0 : Str) (prefix_1 : Str) (r : Str × Bool) (st : Store) (h : strings_CutPrefix s_0 prefix_1 = some r) : fcall E0 60 [strV s_0, strV prefix_1] st = some (.tup [strV r.1, .sc (.bool r.2)], st) := by
  unfold strings_CutPrefix at h
  refine fn_alone (fn := Tryd.f60) (av' := (strV s_0 :: strV prefix_1 :: bz 9 [])) rfl fn_60 rfl (pC rfl (pC rfl pN)) rfl rfl rfl (has_go (as1 := [strV s_0, strV prefix_1]) (lC (by kernel_rfl) (lC (by kernel_rfl) lN)) (by kernel_rfl)) ?_
  refine J_seq ?_
  refine J_region ?_
  refine JS_end (strV s_0 :: strV prefix_1 :: .bad :: .bad :: strV [] :: (vB false) :: bz 5 []) [] (by kernel_rfl) ?_
  refine JK_sq ?_
  refine J_seq ?_
  refine J_region ?_
  refine JS_seg 2 [strV s_0, strV prefix_1, .bad, .bad, strV [], (vB false), strV s_0, strV prefix_1, .bad, .bad, .bad] [] (by kernel_rfl) ?_
  obtain ⟨r1, h2, h⟩ := Option.bind_eq_some_iff.1 h
  refine JS_upd (fun s => fcall E0 98 [strV s_0, strV prefix_1] s) (by kernel_rfl) (stringslite_CutPrefix_C s_0 prefix_1 _ _ h2) ?_
  refine JS_end [strV s_0, strV prefix_1, .bad, .bad, strV r1.1, .sc (.bool r1.2), strV s_0, strV prefix_1, .tup [strV r1.1, .sc (.bool r1.2)], strV r1.1, .sc (.bool r1.2)] [] (by kernel_rfl) ?_
  refine JK_sq ?_
  refine J_ret ?_
  refine JK_nil ?_
  obtain rfl := Option.some.inj h
  exact ret_A (r := .tup [strV r1.1, .sc (.bool r1.2)]) (r' := .tup [strV r1.1, .sc (.bool r1.2)]) (.inl rfl) (by kernel_rfl) (fTup (fC (by kernel_rfl) (fC (by kernel_rfl) fN))) (pTup (pC rfl (pC rfl pN))) ⟨by kernel_rfl, rfl⟩

theorem slices_Index_string_C (s_0 : List Str) (v_1 : Str) (r : Int) (st : Store) (h : slices_Index_string s_0 v_1 = some r) : fcall E0 100 [Ty.sl tS s_0, strV v_1] st = some ((vI r), st) := by
  unfold slices_Index_string at h
  refine fn_alone (fn := Tryd.f100) (av' := (Ty.sl tS s_0 :: strV v_1 :: bz 17 [])) rfl fn_100 rfl (pC (sl_pure tS _) (pC rfl pN)) rfl rfl rfl (has_go (as1 := [Ty.sl tS s_0, strV v_1]) (lC (sl_scrub tS _ _) (lC (by kernel_rfl) lN)) (by kernel_rfl)) ?_
  refine J_seq ?_
  refine J_region ?_
  refine JS_end (Ty.sl tS s_0 :: strV v_1 :: .bad :: .bad :: (vI 0) :: bz 14 []) [] (by kernel_rfl) ?_
  refine JK_sq ?_
  refine J_seq ?_
  refine J_seq ?_
  refine J_region ?_
  refine JS_end (Ty.sl tS s_0 :: strV v_1 :: .bad :: .bad :: (vI 0) :: .bad :: Ty.sl tS s_0 :: .sc (.int .i64 (s_0.length : Int)) :: (vI 0) :: bz 10 []) [] (by kernel_rfl) ?_
  refine JK_sq ?_
  refine J_block ?_
  obtain ⟨r6, h7, h⟩ := Option.bind_eq_some_iff.1 h
  refine J_loop (γ := Unit) h7 0 (Ty.sl tS s_0 :: strV v_1 :: .bad :: .bad :: (vI 0) :: .bad :: Ty.sl tS s_0 :: .sc (.int .i64 (s_0.length : Int)) :: (vI 0) :: bz 10 []) [] (fun s g => (Ty.sl tS s_0 :: strV v_1 :: bz 5 (.sc (.int .i64 (s_0.length : Int)) :: (vI s) :: bz 10 []))) (fun s g => []) (fun r g => match r with | (.inl r) => (.exit 0, (bz 19 []), []) | (.inr r) => (.ret, (bz 4 ((vI r) :: bz 14 [])), [])) () (by kernel_rfl) (by kernel_rfl) (kill_go (mid := (Ty.sl tS s_0 :: strV v_1 :: bz 5 (.sc (.int .i64 (s_0.length : Int)) :: (vI 0) :: bz 10 []))) (by kernel_rfl) (mC (sl_scrub tS _ _) (mC (by kernel_rfl) (mZ 5 (mC (by kernel_rfl) (mC (by kernel_rfl) (mZ 10 mN))))))) (cut_go (mid := []) (by kernel_rfl) oN) ?_ ?_
  · rintro v1 _ y h
    unfold slices_Index_string_l1 at h
    refine J_seq ?_
    refine J_region ?_
    refine JS_end (Ty.sl tS s_0 :: strV v_1 :: bz 5 (.sc (.int .i64 (s_0.length : Int)) :: (vI v1) :: .sc (.bool (decide (v1 < (s_0.length : Int)))) :: bz 9 [])) [] (by kernel_rfl) ?_
    refine JK_sq ?_
    refine J_seq ?_
    rcases bool_cases (decide (v1 < (s_0.length : Int))) with h2 | h2
    · rw [if_pos h2] at h
      refine J_condT (v := (decide (v1 < (s_0.length : Int)))) (by kernel_rfl) h2 ?_
      refine J_skip ?_
      refine JK_sq ?_
      refine J_seq ?_
      refine J_block ?_
      refine J_seq ?_
      refine J_region ?_
      refine JS_end (Ty.sl tS s_0 :: strV v_1 :: .bad :: .bad :: .bad :: (vI v1) :: .bad :: .sc (.int .i64 (s_0.length : Int)) :: (vI v1) :: .sc (.bool (decide (v1 < (s_0.length : Int)))) :: (vI v1) :: bz 8 []) [] (by kernel_rfl) ?_
      refine JK_sq ?_
      refine J_seq ?_
      refine J_region ?_
      refine JS_seg 3 (Ty.sl tS s_0 :: strV v_1 :: .bad :: .bad :: .bad :: (vI v1) :: .bad :: .sc (.int .i64 (s_0.length : Int)) :: (vI v1) :: .sc (.bool (decide (v1 < (s_0.length : Int)))) :: (vI v1) :: strV v_1 :: Ty.sl tS s_0 :: (vI v1) :: bz 5 []) [] (by kernel_rfl) ?_
      obtain ⟨x3, h4, h⟩ := Option.bind_eq_some_iff.1 h
      refine JS_val (fun s => aindexAddr E0.tb s 37 (Ty.sl tS s_0) ((vI v1))) (by kernel_rfl) (sl_addr tS tb_37 rfl tb_9 rfl h4) ?_
      refine JS_seg 4 (Ty.sl tS s_0 :: strV v_1 :: .bad :: .bad :: .bad :: (vI v1) :: .bad :: .sc (.int .i64 (s_0.length : Int)) :: (vI v1) :: .sc (.bool (decide (v1 < (s_0.length : Int)))) :: (vI v1) :: strV v_1 :: Ty.sl tS s_0 :: (vI v1) :: .fp (List.flatMap (Ty.cells tS) s_0) (v1.toNat * Ty.size tS) :: bz 4 []) [] (by kernel_rfl) ?_
      refine JS_val (fun s => aload E0.tb s 9 (.fp (List.flatMap (Ty.cells tS) s_0) (v1.toNat * Ty.size tS))) (by kernel_rfl) (fp_load1 tS (o := 0) tb_9 rfl h4 (rfl)) ?_
      refine JS_seg 5 [Ty.sl tS s_0, strV v_1, .bad, .bad, .bad, (vI v1), .bad, .sc (.int .i64 (s_0.length : Int)), (vI v1), .sc (.bool (decide (v1 < (s_0.length : Int)))), (vI v1), strV v_1, Ty.sl tS s_0, (vI v1), .fp (List.flatMap (Ty.cells tS) s_0) (v1.toNat * Ty.size tS), strV x3, .bad, .bad, .bad] [] (by kernel_rfl) ?_
      refine JS_val (fun s => abin E0.tb s .eql 9 (strV v_1) (strV x3)) (by kernel_rfl) (str_eq v_1 x3) ?_
      refine JS_end [Ty.sl tS s_0, strV v_1, .bad, .bad, .bad, (vI v1), .bad, .sc (.int .i64 (s_0.length : Int)), (vI v1), .sc (.bool (decide (v1 < (s_0.length : Int)))), (vI v1), strV v_1, Ty.sl tS s_0, (vI v1), .fp (List.flatMap (Ty.cells tS) s_0) (v1.toNat * Ty.size tS), strV x3, .sc (.bool (v_1 == x3)), .bad, .bad] [] (by kernel_rfl) ?_
      refine JK_sq ?_
      rcases bool_cases (v_1 == x3) with h5 | h5
      · rw [if_pos h5] at h
        refine J_condT (v := (v_1 == x3)) (by kernel_rfl) h5 ?_
        refine J_seq ?_
        refine J_region ?_
        refine JS_end [Ty.sl tS s_0, strV v_1, .bad, .bad, (vI v1), (vI v1), .bad, .sc (.int .i64 (s_0.length : Int)), (vI v1), .sc (.bool (decide (v1 < (s_0.length : Int)))), (vI v1), strV v_1, Ty.sl tS s_0, (vI v1), .fp (List.flatMap (Ty.cells tS) s_0) (v1.toNat * Ty.size tS), strV x3, .sc (.bool (v_1 == x3)), (vI v1), .bad] [] (by kernel_rfl) ?_
        refine JK_sq ?_
        refine J_ret ?_
        refine JK_bl_ret ?_
        refine JK_sq_ret ?_
        refine JK_nil ?_
        obtain rfl := Option.some.inj h
        exact turn_ret (tm' := (bz 4 ((vI v1) :: bz 14 []))) (st' := []) () (kill_go (mid := (bz 4 ((vI v1) :: bz 14 []))) (by kernel_rfl) (mZ 4 (mC (by kernel_rfl) (mZ 14 mN)))) (cut_go (mid := []) (by kernel_rfl) oN) (by kernel_rfl)
      · rw [if_neg (ne_true h5)] at h
        refine J_condF (v := (v_1 == x3)) (by kernel_rfl) h5 ?_
        refine J_skip ?_
        refine JK_bl ?_
        refine JK_sq ?_
        refine J_region ?_
        refine JS_end [Ty.sl tS s_0, strV v_1, .bad, .bad, .bad, (vI v1), .bad, .sc (.int .i64 (s_0.length : Int)), .sc (.int .i64 (IntKind.wrap .i64 (v1 + 1))), .sc (.bool (decide (v1 < (s_0.length : Int)))), (vI v1), strV v_1, Ty.sl tS s_0, (vI v1), .fp (List.flatMap (Ty.cells tS) s_0) (v1.toNat * Ty.size tS), strV x3, .sc (.bool (v_1 == x3)), .bad, .sc (.int .i64 (IntKind.wrap .i64 (v1 + 1)))] [] (by kernel_rfl) ?_
        refine JK_nil ?_
        obtain rfl := Option.some.inj h
        exact turn_next () (kill_go (mid := (Ty.sl tS s_0 :: strV v_1 :: bz 5 (.sc (.int .i64 (s_0.length : Int)) :: .sc (.int .i64 (IntKind.wrap .i64 (v1 + 1))) :: bz 10 []))) (by kernel_rfl) (mC (sl_scrub tS _ _) (mC (by kernel_rfl) (mZ 5 (mC (by kernel_rfl) (mC (by kernel_rfl) (mZ 10 mN))))))) (cut_go (mid := []) (by kernel_rfl) oN)
    · rw [if_neg (ne_true h2)] at h
      refine J_condF (v := (decide (v1 < (s_0.length : Int)))) (by kernel_rfl) h2 ?_
      refine J_exit ?_
      refine JK_sq_exit ?_
      refine JK_nil ?_
      obtain rfl := Option.some.inj h
      exact turn_exit (tm' := (bz 19 [])) (st' := []) () (kill_go (mid := (bz 19 [])) (by kernel_rfl) (mZ 19 mN)) (cut_go (mid := []) (by kernel_rfl) oN) (by kernel_rfl)
  · intro g_
    rcases r6 with r8 | r9
    · dsimp only at h
      refine (show JK _ _ _ _ (.exit 0, (bz 19 []), []) from ?_)
      refine JK_bl_hit ?_
      refine JK_sq ?_
      refine J_seq ?_
      refine J_region ?_
      refine JS_end (bz 4 (.sc (.int .i64 (-1)) :: bz 14 [])) [] (by kernel_rfl) ?_
      refine JK_sq ?_
      refine J_ret ?_
      refine JK_nil ?_
      obtain rfl := Option.some.inj h
      exact ret_A (r := .sc (.int .i64 (-1))) (r' := .sc (.int .i64 (-1))) (.inl rfl) (by kernel_rfl) (by kernel_rfl) rfl ⟨by kernel_rfl, rfl⟩
    · dsimp only at h
      refine (show JK _ _ _ _ (.ret, (bz 4 ((vI r9) :: bz 14 [])), []) from ?_)
      refine JK_bl_ret ?_
      refine JK_sq_ret ?_
      refine JK_nil ?_
      obtain rfl := Option.some.inj h
      exact ret_A (r := (vI r9)) (r' := (vI r9)) (.inl rfl) (by kernel_rfl) (by kernel_rfl) rfl ⟨by kernel_rfl, rfl⟩

theorem slices_Contains_string_C (s_0 : List Str) (v_1 : Str) (r : Bool) (st : Store) (h : slices_Contains_string s_0 v_1 = some r) : fcall E0 62 [Ty.sl tS s_0, strV v_1] st = some ((vB r), st) := by
  unfold slices_Contains_string at h
  refine fn_alone (fn := Tryd.f62) (av' := (Ty.sl tS s_0 :: strV v_1 :: bz 7 [])) rfl fn_62 rfl (pC (sl_pure tS _) (pC rfl pN)) rfl rfl rfl (has_go (as1 := [Ty.sl tS s_0, strV v_1]) (lC (sl_scrub tS _ _) (lC (by kernel_rfl) lN)) (by kernel_rfl)) ?_
  refine J_seq ?_
  refine J_region ?_
  refine JS_end (Ty.sl tS s_0 :: strV v_1 :: .bad :: .bad :: (vB false) :: bz 4 []) [] (by kernel_rfl) ?_
  refine JK_sq ?_
  refine J_seq ?_
  refine J_region ?_
  refine JS_seg 2 [Ty.sl tS s_0, strV v_1, .bad, .bad, (vB false), Ty.sl tS s_0, strV v_1, .bad, .bad] [] (by kernel_rfl) ?_
  obtain ⟨r1, h2, h⟩ := Option.bind_eq_some_iff.1 h
  refine JS_upd (fun s => fcall E0 100 [Ty.sl tS s_0, strV v_1] s) (by kernel_rfl) (slices_Index_string_C s_0 v_1 _ _ h2) ?_
  refine JS_end [Ty.sl tS s_0, strV v_1, .bad, .bad, .sc (.bool (decide (r1 ≥ 0))), Ty.sl tS s_0, strV v_1, (vI r1), .sc (.bool (decide (r1 ≥ 0)))] [] (by kernel_rfl) ?_
  refine JK_sq ?_
  refine J_ret ?_
  refine JK_nil ?_
  obtain rfl := Option.some.inj h
  exact ret_A (r := .sc (.bool (decide (r1 ≥ 0)))) (r' := .sc (.bool (decide (r1 ≥ 0)))) (.inl rfl) (by kernel_rfl) (by kernel_rfl) rfl ⟨by kernel_rfl, rfl⟩

theorem path_Parts_C (path_0 : Str) (r : (List Str) × Bool) (st : Store) (h : path_Parts path_0 = some r) : fcall E0 22 [strV path_0] st = some (.tup [Ty.sl tS r.1, .sc (.bool r.2)], st) := by
  unfold path_Parts at h
  refine fn_alone (fn := Tryd.f22) (av' := (strV path_0 :: bz 27 [])) rfl fn_22 rfl (pC rfl pN) rfl rfl rfl (has_go (as1 := [strV path_0]) (lC (by kernel_rfl) lN) (by kernel_rfl)) ?_
  refine J_seq ?_
  refine J_region ?_
  refine JS_end (strV path_0 :: .bad :: .sc (.slice none 0 0) :: (vB false) :: bz 24 []) [] (by kernel_rfl) ?_
  refine JK_sq ?_
  refine J_seq ?_
  refine J_seq ?_
  refine J_region ?_
  refine JS_seg 1 (strV path_0 :: .bad :: .sc (.slice none 0 0) :: (vB false) :: .bad :: .bad :: .bad :: strV path_0 :: bz 20 []) [] (by kernel_rfl) ?_
  refine JS_val (fun s => abin E0.tb s .eql 9 (strV path_0) (strV [47])) (by kernel_rfl) (str_eq path_0 ([47] : Str)) ?_
  refine JS_end (strV path_0 :: .bad :: .sc (.slice none 0 0) :: (vB false) :: .bad :: .bad :: .bad :: strV path_0 :: .sc (.bool (path_0 == ([47] : Str))) :: bz 19 []) [] (by kernel_rfl) ?_
  refine JK_sq ?_
  rcases bool_cases (path_0 == ([47] : Str)) with h1 | h1
  · rw [if_pos h1] at h
    refine J_condT (v := (path_0 == ([47] : Str))) (by kernel_rfl) h1 ?_
    refine J_seq ?_
    refine J_region ?_
    refine JS_end (strV path_0 :: .bad :: .sc (.slice none 0 0) :: (vB true) :: .bad :: .bad :: .bad :: strV path_0 :: .sc (.bool (path_0 == ([47] : Str))) :: bz 19 []) [] (by kernel_rfl) ?_
    refine JK_sq ?_
    refine J_ret ?_
    refine JK_sq_ret ?_
    refine JK_nil ?_
    obtain rfl := Option.some.inj h
    exact ret_A (r := .tup [.sc (.slice none 0 0), (vB true)]) (r' := .tup [Ty.sl tS [], (vB true)]) (.inl rfl) (by kernel_rfl) (fTup (fC (by kernel_rfl) (fC (by kernel_rfl) fN))) (pTup (pC (sl_pure tS _) (pC rfl pN))) ⟨by kernel_rfl, rfl⟩
  · rw [if_neg (ne_true h1)] at h
    refine J_condF (v := (path_0 == ([47] : Str))) (by kernel_rfl) h1 ?_
    refine J_skip ?_
    refine JK_sq ?_
    refine J_seq ?_
    refine J_region ?_
    refine JS_seg 1 (strV path_0 :: .bad :: .sc (.slice none 0 0) :: (vB false) :: .bad :: .bad :: .bad :: strV path_0 :: .sc (.bool (path_0 == ([47] : Str))) :: .bad :: strV path_0 :: bz 17 []) [] (by kernel_rfl) ?_
    obtain ⟨r2, h3, h⟩ := Option.bind_eq_some_iff.1 h
    refine JS_upd (fun s => fcall E0 60 [strV path_0, strV [47]] s) (by kernel_rfl) (strings_CutPrefix_C path_0 [47] _ _ h3) ?_
    refine JS_end (strV path_0 :: .bad :: .sc (.slice none 0 0) :: (vB false) :: strV r2.1 :: .sc (.bool r2.2) :: .bad :: strV path_0 :: .sc (.bool (path_0 == ([47] : Str))) :: .tup [strV r2.1, .sc (.bool r2.2)] :: strV path_0 :: .tup [strV r2.1, .sc (.bool r2.2)] :: strV r2.1 :: .sc (.bool r2.2) :: bz 14 []) [] (by kernel_rfl) ?_
    refine JK_sq ?_
    refine J_seq ?_
    refine J_region ?_
    refine JS_seg 1 (strV path_0 :: .bad :: .sc (.slice none 0 0) :: (vB false) :: strV r2.1 :: .sc (.bool r2.2) :: .bad :: strV path_0 :: .sc (.bool (path_0 == ([47] : Str))) :: .tup [strV r2.1, .sc (.bool r2.2)] :: strV path_0 :: .tup [strV r2.1, .sc (.bool r2.2)] :: strV r2.1 :: .sc (.bool r2.2) :: strV r2.1 :: bz 13 []) [] (by kernel_rfl) ?_
    obtain ⟨r4, h5, h⟩ := Option.bind_eq_some_iff.1 h
    refine JS_upd (fun s => fcall E0 61 [strV r2.1, strV [47]] s) (by kernel_rfl) (strings_Split_C r2.1 [47] _ _ h5) ?_
    refine JS_end (strV path_0 :: .bad :: .sc (.slice none 0 0) :: (vB false) :: strV r2.1 :: .sc (.bool r2.2) :: Ty.sl tS r4 :: strV path_0 :: .sc (.bool (path_0 == ([47] : Str))) :: .tup [strV r2.1, .sc (.bool r2.2)] :: strV path_0 :: .tup [strV r2.1, .sc (.bool r2.2)] :: strV r2.1 :: .sc (.bool r2.2) :: strV r2.1 :: Ty.sl tS r4 :: bz 12 []) [] (by kernel_rfl) ?_
    refine JK_sq ?_
    refine J_seq ?_
    refine J_seq ?_
    refine J_region ?_
    refine JS_seg 3 (strV path_0 :: .bad :: .sc (.slice none 0 0) :: (vB false) :: strV r2.1 :: .sc (.bool r2.2) :: Ty.sl tS r4 :: strV path_0 :: .sc (.bool (path_0 == ([47] : Str))) :: .tup [strV r2.1, .sc (.bool r2.2)] :: strV path_0 :: .tup [strV r2.1, .sc (.bool r2.2)] :: strV r2.1 :: .sc (.bool r2.2) :: strV r2.1 :: Ty.sl tS r4 :: .sc (.bool r2.2) :: .sc (.bool (!r2.2)) :: .sc (.bool (!r2.2)) :: bz 9 []) [] (by kernel_rfl) ?_
    rcases bool_cases (!r2.2) with h6 | h6
    · rw [if_pos h6] at h
      refine JS_cast (tm' := (strV path_0 :: .bad :: .sc (.slice none 0 0) :: (vB false) :: strV r2.1 :: .sc (.bool r2.2) :: Ty.sl tS r4 :: strV path_0 :: .sc (.bool (path_0 == ([47] : Str))) :: .tup [strV r2.1, .sc (.bool r2.2)] :: strV path_0 :: .tup [strV r2.1, .sc (.bool r2.2)] :: strV r2.1 :: .sc (.bool r2.2) :: strV r2.1 :: Ty.sl tS r4 :: .sc (.bool r2.2) :: (vB true) :: (vB true) :: bz 9 [])) (by rw [h6]) rfl ?_
      refine JS_end [strV path_0, .bad, .sc (.slice none 0 0), (vB false), strV r2.1, .sc (.bool r2.2), Ty.sl tS r4, strV path_0, .sc (.bool (path_0 == ([47] : Str))), .tup [strV r2.1, .sc (.bool r2.2)], strV path_0, .tup [strV r2.1, .sc (.bool r2.2)], strV r2.1, .sc (.bool r2.2), strV r2.1, Ty.sl tS r4, .sc (.bool r2.2), (vB true), (vB true), .tup [], .tup [], .tup [], (vB true), (vB true), .tup [], .tup [], (vB true), .bad] [] (by kernel_rfl) ?_
      refine JK_sq ?_
      refine J_condT (v := true) (by kernel_rfl) rfl ?_
      refine J_seq ?_
      refine J_region ?_
      refine JS_end [strV path_0, .bad, .sc (.slice none 0 0), (vB false), strV r2.1, .sc (.bool r2.2), Ty.sl tS r4, strV path_0, .sc (.bool (path_0 == ([47] : Str))), .tup [strV r2.1, .sc (.bool r2.2)], strV path_0, .tup [strV r2.1, .sc (.bool r2.2)], strV r2.1, .sc (.bool r2.2), strV r2.1, Ty.sl tS r4, .sc (.bool r2.2), (vB true), (vB true), .tup [], .tup [], .tup [], (vB true), (vB true), .tup [], .tup [], (vB true), .bad] [] (by kernel_rfl) ?_
      refine JK_sq ?_
      refine J_ret ?_
      refine JK_sq_ret ?_
      refine JK_nil ?_
      obtain rfl := Option.some.inj h
      exact ret_A (r := .tup [.sc (.slice none 0 0), (vB false)]) (r' := .tup [Ty.sl tS [], (vB false)]) (.inl rfl) (by kernel_rfl) (fTup (fC (by kernel_rfl) (fC (by kernel_rfl) fN))) (pTup (pC (sl_pure tS _) (pC rfl pN))) ⟨by kernel_rfl, rfl⟩
    · rw [if_neg (ne_true h6)] at h
      refine JS_cast (tm' := (strV path_0 :: .bad :: .sc (.slice none 0 0) :: (vB false) :: strV r2.1 :: .sc (.bool r2.2) :: Ty.sl tS r4 :: strV path_0 :: .sc (.bool (path_0 == ([47] : Str))) :: .tup [strV r2.1, .sc (.bool r2.2)] :: strV path_0 :: .tup [strV r2.1, .sc (.bool r2.2)] :: strV r2.1 :: .sc (.bool r2.2) :: strV r2.1 :: Ty.sl tS r4 :: .sc (.bool r2.2) :: (vB false) :: (vB false) :: bz 9 [])) (by rw [h6]) rfl ?_
      refine JS_seg 8 (strV path_0 :: .bad :: .sc (.slice none 0 0) :: (vB false) :: strV r2.1 :: .sc (.bool r2.2) :: Ty.sl tS r4 :: strV path_0 :: .sc (.bool (path_0 == ([47] : Str))) :: .tup [strV r2.1, .sc (.bool r2.2)] :: strV path_0 :: .tup [strV r2.1, .sc (.bool r2.2)] :: strV r2.1 :: .sc (.bool r2.2) :: strV r2.1 :: Ty.sl tS r4 :: .sc (.bool r2.2) :: (vB false) :: (vB false) :: Ty.sl tS r4 :: .sc (.int .i64 (r4.length : Int)) :: .sc (.bool (decide ((r4.length : Int) ≥ 8))) :: .sc (.bool (decide ((r4.length : Int) ≥ 8))) :: .sc (.bool (decide ((r4.length : Int) ≥ 8))) :: bz 4 []) [] (by kernel_rfl) ?_
      rcases bool_cases (decide ((r4.length : Int) ≥ 8)) with h7 | h7
      · rw [if_pos h7] at h
        refine JS_cast (tm' := (strV path_0 :: .bad :: .sc (.slice none 0 0) :: (vB false) :: strV r2.1 :: .sc (.bool r2.2) :: Ty.sl tS r4 :: strV path_0 :: .sc (.bool (path_0 == ([47] : Str))) :: .tup [strV r2.1, .sc (.bool r2.2)] :: strV path_0 :: .tup [strV r2.1, .sc (.bool r2.2)] :: strV r2.1 :: .sc (.bool r2.2) :: strV r2.1 :: Ty.sl tS r4 :: .sc (.bool r2.2) :: (vB false) :: (vB false) :: Ty.sl tS r4 :: .sc (.int .i64 (r4.length : Int)) :: (vB true) :: (vB true) :: (vB true) :: bz 4 [])) (by rw [h7]) rfl ?_
        refine JS_end [strV path_0, .bad, .sc (.slice none 0 0), (vB false), strV r2.1, .sc (.bool r2.2), Ty.sl tS r4, strV path_0, .sc (.bool (path_0 == ([47] : Str))), .tup [strV r2.1, .sc (.bool r2.2)], strV path_0, .tup [strV r2.1, .sc (.bool r2.2)], strV r2.1, .sc (.bool r2.2), strV r2.1, Ty.sl tS r4, .sc (.bool r2.2), (vB false), (vB false), Ty.sl tS r4, .sc (.int .i64 (r4.length : Int)), (vB true), (vB true), (vB true), .tup [], .tup [], (vB true), .bad] [] (by kernel_rfl) ?_
        refine JK_sq ?_
        refine J_condT (v := true) (by kernel_rfl) rfl ?_
        refine J_seq ?_
        refine J_region ?_
        refine JS_end [strV path_0, .bad, .sc (.slice none 0 0), (vB false), strV r2.1, .sc (.bool r2.2), Ty.sl tS r4, strV path_0, .sc (.bool (path_0 == ([47] : Str))), .tup [strV r2.1, .sc (.bool r2.2)], strV path_0, .tup [strV r2.1, .sc (.bool r2.2)], strV r2.1, .sc (.bool r2.2), strV r2.1, Ty.sl tS r4, .sc (.bool r2.2), (vB false), (vB false), Ty.sl tS r4, .sc (.int .i64 (r4.length : Int)), (vB true), (vB true), (vB true), .tup [], .tup [], (vB true), .bad] [] (by kernel_rfl) ?_
        refine JK_sq ?_
        refine J_ret ?_
        refine JK_sq_ret ?_
        refine JK_nil ?_
        obtain rfl := Option.some.inj h
        exact ret_A (r := .tup [.sc (.slice none 0 0), (vB false)]) (r' := .tup [Ty.sl tS [], (vB false)]) (.inl rfl) (by kernel_rfl) (fTup (fC (by kernel_rfl) (fC (by kernel_rfl) fN))) (pTup (pC (sl_pure tS _) (pC rfl pN))) ⟨by kernel_rfl, rfl⟩
      · rw [if_neg (ne_true h7)] at h
        refine JS_cast (tm' := (strV path_0 :: .bad :: .sc (.slice none 0 0) :: (vB false) :: strV r2.1 :: .sc (.bool r2.2) :: Ty.sl tS r4 :: strV path_0 :: .sc (.bool (path_0 == ([47] : Str))) :: .tup [strV r2.1, .sc (.bool r2.2)] :: strV path_0 :: .tup [strV r2.1, .sc (.bool r2.2)] :: strV r2.1 :: .sc (.bool r2.2) :: strV r2.1 :: Ty.sl tS r4 :: .sc (.bool r2.2) :: (vB false) :: (vB false) :: Ty.sl tS r4 :: .sc (.int .i64 (r4.length : Int)) :: (vB false) :: (vB false) :: (vB false) :: bz 4 [])) (by rw [h7]) rfl ?_
        refine JS_seg 9 [strV path_0, .bad, .sc (.slice none 0 0), (vB false), strV r2.1, .sc (.bool r2.2), Ty.sl tS r4, strV path_0, .sc (.bool (path_0 == ([47] : Str))), .tup [strV r2.1, .sc (.bool r2.2)], strV path_0, .tup [strV r2.1, .sc (.bool r2.2)], strV r2.1, .sc (.bool r2.2), strV r2.1, Ty.sl tS r4, .sc (.bool r2.2), (vB false), (vB false), Ty.sl tS r4, .sc (.int .i64 (r4.length : Int)), (vB false), (vB false), (vB false), Ty.sl tS r4, .bad, .bad, .bad] [] (by kernel_rfl) ?_
        obtain ⟨r8, h9, h⟩ := Option.bind_eq_some_iff.1 h
        refine JS_upd (fun s => fcall E0 62 [Ty.sl tS r4, strV []] s) (by kernel_rfl) (slices_Contains_string_C r4 [] _ _ h9) ?_
        refine JS_end [strV path_0, .bad, .sc (.slice none 0 0), (vB false), strV r2.1, .sc (.bool r2.2), Ty.sl tS r4, strV path_0, .sc (.bool (path_0 == ([47] : Str))), .tup [strV r2.1, .sc (.bool r2.2)], strV path_0, .tup [strV r2.1, .sc (.bool r2.2)], strV r2.1, .sc (.bool r2.2), strV r2.1, Ty.sl tS r4, .sc (.bool r2.2), (vB false), (vB false), Ty.sl tS r4, .sc (.int .i64 (r4.length : Int)), (vB false), (vB false), (vB false), Ty.sl tS r4, (vB r8), (vB r8), .bad] [] (by kernel_rfl) ?_
        refine JK_sq ?_
        rcases bool_cases r8 with h10 | h10
        · rw [if_pos h10] at h
          refine J_condT (v := r8) (by kernel_rfl) h10 ?_
          refine J_seq ?_
          refine J_region ?_
          refine JS_end [strV path_0, .bad, .sc (.slice none 0 0), (vB false), strV r2.1, .sc (.bool r2.2), Ty.sl tS r4, strV path_0, .sc (.bool (path_0 == ([47] : Str))), .tup [strV r2.1, .sc (.bool r2.2)], strV path_0, .tup [strV r2.1, .sc (.bool r2.2)], strV r2.1, .sc (.bool r2.2), strV r2.1, Ty.sl tS r4, .sc (.bool r2.2), (vB false), (vB false), Ty.sl tS r4, .sc (.int .i64 (r4.length : Int)), (vB false), (vB false), (vB false), Ty.sl tS r4, (vB r8), (vB r8), .bad] [] (by kernel_rfl) ?_
          refine JK_sq ?_
          refine J_ret ?_
          refine JK_sq_ret ?_
          refine JK_nil ?_
          obtain rfl := Option.some.inj h
          exact ret_A (r := .tup [.sc (.slice none 0 0), (vB false)]) (r' := .tup [Ty.sl tS [], (vB false)]) (.inl rfl) (by kernel_rfl) (fTup (fC (by kernel_rfl) (fC (by kernel_rfl) fN))) (pTup (pC (sl_pure tS _) (pC rfl pN))) ⟨by kernel_rfl, rfl⟩
        · rw [if_neg (ne_true h10)] at h
          refine J_condF (v := r8) (by kernel_rfl) h10 ?_
          refine J_skip ?_
          refine JK_sq ?_
          refine J_seq ?_
          refine J_region ?_
          refine JS_end [strV path_0, .bad, Ty.sl tS r4, (vB true), strV r2.1, .sc (.bool r2.2), Ty.sl tS r4, strV path_0, .sc (.bool (path_0 == ([47] : Str))), .tup [strV r2.1, .sc (.bool r2.2)], strV path_0, .tup [strV r2.1, .sc (.bool r2.2)], strV r2.1, .sc (.bool r2.2), strV r2.1, Ty.sl tS r4, .sc (.bool r2.2), (vB false), (vB false), Ty.sl tS r4, .sc (.int .i64 (r4.length : Int)), (vB false), (vB false), (vB false), Ty.sl tS r4, (vB r8), (vB r8), Ty.sl tS r4] [] (by kernel_rfl) ?_
          refine JK_sq ?_
          refine J_ret ?_
          refine JK_nil ?_
          obtain rfl := Option.some.inj h
          exact ret_A (r := .tup [Ty.sl tS r4, (vB true)]) (r' := .tup [Ty.sl tS r4, (vB true)]) (.inl rfl) (by kernel_rfl) (fTup (fC (sl_frz tS _ _ _ _) (fC (by kernel_rfl) fN))) (pTup (pC (sl_pure tS _) (pC rfl pN))) ⟨by kernel_rfl, rfl⟩

theorem path_Join_C (names_0 : List Str) (r : Str) (st : Store) (h : path_Join names_0 = some r) : fcall E0 23 [Ty.sl tS names_0] st = some (strV r, st) := by
  unfold path_Join at h
  refine fn_alone (fn := Tryd.f23) (av' := (Ty.sl tS names_0 :: bz 5 [])) rfl fn_23 rfl (pC (sl_pure tS _) pN) rfl rfl rfl (has_go (as1 := [Ty.sl tS names_0]) (lC (sl_scrub tS _ _) lN) (by kernel_rfl)) ?_
  refine J_seq ?_
  refine J_region ?_
  refine JS_end [Ty.sl tS names_0, .bad, strV [], .bad, .bad, .bad] [] (by kernel_rfl) ?_
  refine JK_sq ?_
  refine J_seq ?_
  refine J_region ?_
  refine JS_seg 1 [Ty.sl tS names_0, .bad, strV [], Ty.sl tS names_0, .bad, .bad] [] (by kernel_rfl) ?_
  obtain ⟨r1, h2, h⟩ := Option.bind_eq_some_iff.1 h
  refine JS_upd (fun s => fcall E0 63 [Ty.sl tS names_0, strV [47]] s) (by kernel_rfl) (strings_Join_C names_0 [47] _ _ h2) ?_
  refine JS_seg 2 [Ty.sl tS names_0, .bad, strV [], Ty.sl tS names_0, strV r1, .bad] [] (by kernel_rfl) ?_
  obtain ⟨s3, h4, h⟩ := Option.bind_eq_some_iff.1 h
  refine JS_val (fun s => abin E0.tb s .add 9 (strV [47]) (strV r1)) (by kernel_rfl) (str_cat h4) ?_
  refine JS_end [Ty.sl tS names_0, .bad, strV s3, Ty.sl tS names_0, strV r1, strV s3] [] (by kernel_rfl) ?_
  refine JK_sq ?_
  refine J_ret ?_
  refine JK_nil ?_
  obtain rfl := Option.some.inj h
  exact ret_A (r := strV s3) (r' := strV s3) (.inl rfl) (by kernel_rfl) (by kernel_rfl) rfl ⟨by kernel_rfl, rfl⟩

theorem ref12_walk_b_C (rec_ : Str → GNode → Int → Option (List GSpot)) (hrec_ : ∀ (path_0 : Str) (n_1 : GNode) (levels_2 : Int) (r : List GSpot) (st : Store), rec_ path_0 n_1 levels_2 = some r → fcall E0 64 [strV path_0, .agg (cNode n_1), (vI levels_2)] st = some (Ty.sl tSpot r, st)) (path_0 : Str) (n_1 : GNode) (levels_2 : Int) (r : List GSpot) (st : Store) (h : ref12_walk_b rec_ path_0 n_1 levels_2 = some r) : fcall E0 64 [strV path_0, .agg (cNode n_1), (vI levels_2)] st = some (Ty.sl tSpot r, st) := by
  unfold ref12_walk_b at h
  refine fn_alone (fn := Tryd.f64) (av' := (strV path_0 :: .agg (cNode n_1) :: (vI levels_2) :: bz 48 [])) rfl fn_64 rfl (pC rfl (pC (pAgg (pC rfl (pC (sl_pure tProp _) (pC (sl_pure tNode _) pN)))) (pC rfl pN))) rfl rfl rfl (has_go (as1 := [strV path_0, .agg (cNode n_1), (vI levels_2)]) (lC (by kernel_rfl) (lC (sAgg (lC (by kernel_rfl) (lC (sl_scrub tProp _ _) (lC (sl_scrub tNode _ _) lN)))) (lC (by kernel_rfl) lN))) (by kernel_rfl)) ?_
  refine J_seq ?_
  refine J_region ?_
  refine JS_end (strV path_0 :: .agg (cNode n_1) :: (vI levels_2) :: .bad :: .ref 0 0 0 :: .bad :: .sc (.slice none 0 0) :: bz 44 []) [.box 25 (cNode n_1)] (by kernel_rfl) ?_
  refine JK_sq ?_
  refine J_seq ?_
  refine J_seq ?_
  refine J_region ?_
  refine JS_end (strV path_0 :: .agg (cNode n_1) :: (vI levels_2) :: .bad :: .ref 0 0 0 :: .bad :: .sc (.slice none 0 0) :: .bad :: .bad :: .bad :: (vI levels_2) :: .sc (.bool (levels_2 == 0)) :: bz 39 []) [.box 25 (cNode n_1)] (by kernel_rfl) ?_
  refine JK_sq ?_
  rcases bool_cases (levels_2 == 0) with h1 | h1
  · rw [if_pos h1] at h
    refine J_condT (v := (levels_2 == 0)) (by kernel_rfl) h1 ?_
    refine J_seq ?_
    refine J_region ?_
    refine JS_end (strV path_0 :: .agg (cNode n_1) :: (vI levels_2) :: .bad :: .ref 0 0 0 :: .bad :: .sc (.slice none 0 0) :: .bad :: .bad :: .bad :: (vI levels_2) :: .sc (.bool (levels_2 == 0)) :: bz 39 []) [.box 25 (cNode n_1)] (by kernel_rfl) ?_
    refine JK_sq ?_
    refine J_ret ?_
    refine JK_sq_ret ?_
    refine JK_nil ?_
    obtain rfl := Option.some.inj h
    exact ret_A (r := .sc (.slice none 0 0)) (r' := Ty.sl tSpot []) (.inl rfl) (by kernel_rfl) (by kernel_rfl) (sl_pure tSpot _) ⟨by kernel_rfl, rfl⟩
  · rw [if_neg (ne_true h1)] at h
    refine J_condF (v := (levels_2 == 0)) (by kernel_rfl) h1 ?_
    refine J_skip ?_
    refine JK_sq ?_
    refine J_seq ?_
    refine J_region ?_
    refine JS_seg 3 (strV path_0 :: .agg (cNode n_1) :: (vI levels_2) :: .bad :: .ref 0 0 0 :: .bad :: .sc (.slice none 0 0) :: .bad :: .bad :: .bad :: (vI levels_2) :: .sc (.bool (levels_2 == 0)) :: strV path_0 :: .agg (cNode n_1) :: .agg [strV path_0, strV n_1.name, Ty.sl tProp n_1.props, Ty.sl tNode n_1.kids] :: bz 36 []) [.box 25 (cNode n_1)] (by kernel_rfl) ?_
    refine JS_upd (fun s => some (.own 1 0 0 1, s ++ [.arr 44 4 0 1 [strV path_0, strV n_1.name, Ty.sl tProp n_1.props, Ty.sl tNode n_1.kids]])) (by kernel_rfl) (by first | rfl | (simp only [Ty.own, Ty.arr, List.flatMap_cons, List.flatMap_nil, tSpot_cells, List.length_cons, List.length_nil, List.cons_append, List.nil_append, List.append_nil]; rfl)) ?_
    refine JS_end (strV path_0 :: .agg (cNode n_1) :: (vI levels_2) :: .bad :: .ref 0 0 0 :: .bad :: .sc (.slice none 0 0) :: Ty.own tSpot 1 0 [(GSpot.mk path_0 n_1)] :: .bad :: .bad :: (vI levels_2) :: .sc (.bool (levels_2 == 0)) :: strV path_0 :: .agg (cNode n_1) :: .agg [strV path_0, strV n_1.name, Ty.sl tProp n_1.props, Ty.sl tNode n_1.kids] :: Ty.own tSpot 1 0 [(GSpot.mk path_0 n_1)] :: bz 35 []) [.box 25 (cNode n_1), Ty.arr tSpot 44 0 [(GSpot.mk path_0 n_1)]] (by kernel_rfl) ?_
    refine JK_sq ?_
    refine J_seq ?_
    refine J_seq ?_
    refine J_region ?_
    refine JS_end (strV path_0 :: .agg (cNode n_1) :: (vI levels_2) :: .bad :: .ref 0 0 0 :: .bad :: .sc (.slice none 0 0) :: Ty.own tSpot 1 0 [(GSpot.mk path_0 n_1)] :: (vI 0) :: .bad :: (vI levels_2) :: .sc (.bool (levels_2 == 0)) :: strV path_0 :: .agg (cNode n_1) :: .agg [strV path_0, strV n_1.name, Ty.sl tProp n_1.props, Ty.sl tNode n_1.kids] :: Ty.own tSpot 1 0 [(GSpot.mk path_0 n_1)] :: bz 35 []) [.box 25 (cNode n_1), Ty.arr tSpot 44 0 [(GSpot.mk path_0 n_1)]] (by kernel_rfl) ?_
    refine JK_sq ?_
    refine J_block ?_
    obtain ⟨r31, h32, h⟩ := Option.bind_eq_some_iff.1 h
    refine J_loop (γ := Nat) h32 2 (strV path_0 :: .agg (cNode n_1) :: (vI levels_2) :: .bad :: .ref 0 0 0 :: .bad :: .sc (.slice none 0 0) :: Ty.own tSpot 1 0 [(GSpot.mk path_0 n_1)] :: (vI 0) :: .bad :: (vI levels_2) :: .sc (.bool (levels_2 == 0)) :: strV path_0 :: .agg (cNode n_1) :: .agg [strV path_0, strV n_1.name, Ty.sl tProp n_1.props, Ty.sl tNode n_1.kids] :: Ty.own tSpot 1 0 [(GSpot.mk path_0 n_1)] :: bz 35 []) [.box 25 (cNode n_1), Ty.arr tSpot 44 0 [(GSpot.mk path_0 n_1)]] (fun s g => (strV path_0 :: .bad :: (vI levels_2) :: .bad :: .ref 0 0 0 :: .bad :: .bad :: Ty.own tSpot 1 g s.2 :: .sc (.int .i64 s.1) :: bz 42 [])) (fun s g => [.box 25 (cNode n_1), Ty.arr tSpot 44 g s.2]) (fun r g => (.exit 0, (bz 7 (Ty.own tSpot 1 g r :: bz 43 [])), [.box 25 (cNode n_1), Ty.arr tSpot 44 g r])) 0 (by kernel_rfl) (by kernel_rfl) (kill_go (mid := (strV path_0 :: .bad :: (vI levels_2) :: .bad :: .ref 0 0 0 :: .bad :: .bad :: Ty.own tSpot 1 0 [(GSpot.mk path_0 n_1)] :: (vI 0) :: bz 42 [])) (by kernel_rfl) (mC (by kernel_rfl) (mB (mC (by kernel_rfl) (mB (mC (by kernel_rfl) (mB (mB (mC (own_scrub tSpot rfl) (mC (by kernel_rfl) (mZ 42 mN))))))))))) (cut_go (mid := [.box 25 (cNode n_1), Ty.arr tSpot 44 0 [(GSpot.mk path_0 n_1)]]) (by kernel_rfl) (oC (oB (lC (by kernel_rfl) (lC (sl_scrub tProp _ _) (lC (sl_scrub tNode _ _) lN)))) (oC (arr_scrub tSpot) oN))) ?_ ?_
    · rintro ⟨v4, v3⟩ v2 y h
      unfold ref12_walk_l1 at h
      dsimp only at h
      refine J_seq ?_
      refine J_seq ?_
      refine J_region ?_
      refine JS_end (strV path_0 :: .bad :: (vI levels_2) :: .bad :: .ref 0 0 0 :: .bad :: .bad :: Ty.own tSpot 1 v2 v3 :: (vI v4) :: bz 7 ((vI v4) :: .ref 0 0 2 :: Ty.sl tNode n_1.kids :: .sc (.int .i64 (n_1.kids.length : Int)) :: .sc (.bool (decide (v4 < (n_1.kids.length : Int)))) :: bz 30 [])) [.box 25 (cNode n_1), Ty.arr tSpot 44 v2 v3] (by kernel_rfl) ?_
      refine JK_sq ?_
      rcases bool_cases (decide (v4 < (n_1.kids.length : Int))) with h5 | h5
      · rw [if_pos h5] at h
        refine J_condT (v := (decide (v4 < (n_1.kids.length : Int)))) (by kernel_rfl) h5 ?_
        refine J_skip ?_
        refine JK_sq ?_
        refine J_seq ?_
        refine J_block ?_
        refine J_seq ?_
        refine J_region ?_
        refine JS_seg 1 (strV path_0 :: .bad :: (vI levels_2) :: .bad :: .ref 0 0 0 :: .bad :: .bad :: Ty.own tSpot 1 v2 v3 :: (vI v4) :: bz 7 ((vI v4) :: .ref 0 0 2 :: Ty.sl tNode n_1.kids :: .sc (.int .i64 (n_1.kids.length : Int)) :: .sc (.bool (decide (v4 < (n_1.kids.length : Int)))) :: .bad :: .bad :: strV path_0 :: bz 27 [])) [.box 25 (cNode n_1), Ty.arr tSpot 44 v2 v3] (by kernel_rfl) ?_
        obtain ⟨s6, h7, h⟩ := Option.bind_eq_some_iff.1 h
        refine JS_val (fun s => abin E0.tb s .add 9 (strV path_0) (strV [47])) (by kernel_rfl) (str_cat h7) ?_
        refine JS_end (strV path_0 :: .bad :: (vI levels_2) :: .bad :: .ref 0 0 0 :: .bad :: .bad :: Ty.own tSpot 1 v2 v3 :: (vI v4) :: strV s6 :: bz 6 ((vI v4) :: .ref 0 0 2 :: Ty.sl tNode n_1.kids :: .sc (.int .i64 (n_1.kids.length : Int)) :: .sc (.bool (decide (v4 < (n_1.kids.length : Int)))) :: .bad :: .bad :: strV path_0 :: strV s6 :: bz 26 [])) [.box 25 (cNode n_1), Ty.arr tSpot 44 v2 v3] (by kernel_rfl) ?_
        refine JK_sq ?_
        refine J_seq ?_
        refine J_seq ?_
        refine J_region ?_
        refine JS_seg 4 (strV path_0 :: .bad :: (vI levels_2) :: .bad :: .ref 0 0 0 :: .bad :: .bad :: Ty.own tSpot 1 v2 v3 :: (vI v4) :: strV s6 :: bz 6 ((vI v4) :: .ref 0 0 2 :: Ty.sl tNode n_1.kids :: .sc (.int .i64 (n_1.kids.length : Int)) :: .sc (.bool (decide (v4 < (n_1.kids.length : Int)))) :: .bad :: .bad :: strV path_0 :: strV s6 :: strV path_0 :: strV path_0 :: .sc (.int .i64 (path_0.length : Int)) :: .sc (.int .i64 (IntKind.wrap .i64 ((path_0.length : Int) - 1))) :: bz 22 [])) [.box 25 (cNode n_1), Ty.arr tSpot 44 v2 v3] (by kernel_rfl) ?_
        obtain ⟨c8, h9, h⟩ := Option.bind_eq_some_iff.1 h
        refine JS_val (fun s => aindex E0.tb 9 (strV path_0) (.sc (.int .i64 (IntKind.wrap .i64 ((path_0.length : Int) - 1))))) (by kernel_rfl) (str_at tb_9 rfl h9) ?_
        refine JS_end (strV path_0 :: .bad :: (vI levels_2) :: .bad :: .ref 0 0 0 :: .bad :: .bad :: Ty.own tSpot 1 v2 v3 :: (vI v4) :: strV s6 :: bz 6 ((vI v4) :: .ref 0 0 2 :: Ty.sl tNode n_1.kids :: .sc (.int .i64 (n_1.kids.length : Int)) :: .sc (.bool (decide (v4 < (n_1.kids.length : Int)))) :: .bad :: .bad :: strV path_0 :: strV s6 :: strV path_0 :: strV path_0 :: .sc (.int .i64 (path_0.length : Int)) :: .sc (.int .i64 (IntKind.wrap .i64 ((path_0.length : Int) - 1))) :: .sc (.int .u8 (c8.toNat : Int)) :: .sc (.bool ((c8.toNat : Int) == 47)) :: bz 20 [])) [.box 25 (cNode n_1), Ty.arr tSpot 44 v2 v3] (by kernel_rfl) ?_
        refine JK_sq ?_
        rcases bool_cases ((c8.toNat : Int) == 47) with h10 | h10
        · rw [if_pos h10] at h
          refine J_condT (v := ((c8.toNat : Int) == 47)) (by kernel_rfl) h10 ?_
          refine J_region ?_
          refine JS_end (strV path_0 :: .bad :: (vI levels_2) :: .bad :: .ref 0 0 0 :: .bad :: .bad :: Ty.own tSpot 1 v2 v3 :: (vI v4) :: strV path_0 :: bz 6 ((vI v4) :: .ref 0 0 2 :: Ty.sl tNode n_1.kids :: .sc (.int .i64 (n_1.kids.length : Int)) :: .sc (.bool (decide (v4 < (n_1.kids.length : Int)))) :: .bad :: .bad :: strV path_0 :: strV s6 :: strV path_0 :: strV path_0 :: .sc (.int .i64 (path_0.length : Int)) :: .sc (.int .i64 (IntKind.wrap .i64 ((path_0.length : Int) - 1))) :: .sc (.int .u8 (c8.toNat : Int)) :: .sc (.bool ((c8.toNat : Int) == 47)) :: strV path_0 :: bz 19 [])) [.box 25 (cNode n_1), Ty.arr tSpot 44 v2 v3] (by kernel_rfl) ?_
          refine JK_sq ?_
          refine J_draw ?_
          refine JD_seg [] (strV path_0 :: .bad :: (vI levels_2) :: .bad :: .ref 0 0 0 :: .bad :: .bad :: Ty.own tSpot 1 v2 v3 :: (vI v4) :: strV path_0 :: bz 6 ((vI v4) :: .ref 0 0 2 :: Ty.sl tNode n_1.kids :: .sc (.int .i64 (n_1.kids.length : Int)) :: .sc (.bool (decide (v4 < (n_1.kids.length : Int)))) :: .bad :: .bad :: strV path_0 :: strV s6 :: strV path_0 :: strV path_0 :: .sc (.int .i64 (path_0.length : Int)) :: .sc (.int .i64 (IntKind.wrap .i64 ((path_0.length : Int) - 1))) :: .sc (.int .u8 (c8.toNat : Int)) :: .sc (.bool ((c8.toNat : Int) == 47)) :: strV path_0 :: bz 19 [])) [.box 25 (cNode n_1), Ty.arr tSpot 44 v2 v3] (by kernel_rfl) (by kernel_rfl) (by kernel_rfl) ?_
          refine JD_upd (c := .free) (fun s => some (Ty.own tSpot 1 v2 v3, [.box 25 (cNode n_1), Ty.arr tSpot 44 v2 v3])) (by kernel_rfl) rfl (by kernel_rfl) ?_
          refine JD_upd (c := .free) (fun s => some (strV path_0, [.box 25 (cNode n_1), Ty.arr tSpot 44 v2 v3])) (by kernel_rfl) rfl (by kernel_rfl) ?_
          refine JD_upd (c := .reads) (fun s => some (.ref 0 0 2, [.box 25 (cNode n_1), Ty.arr tSpot 44 v2 v3])) (by kernel_rfl) rfl (by kernel_rfl) ?_
          refine JD_upd (c := .reads) (fun s => some (Ty.sl tNode n_1.kids, [.box 25 (cNode n_1), Ty.arr tSpot 44 v2 v3])) (by kernel_rfl) rfl (by kernel_rfl) ?_
          refine JD_upd (c := .free) (fun s => some ((vI v4), [.box 25 (cNode n_1), Ty.arr tSpot 44 v2 v3])) (by kernel_rfl) rfl (by kernel_rfl) ?_
          refine JD_seg [.free, .free, .reads, .reads, .free] (strV path_0 :: .bad :: (vI levels_2) :: .bad :: .ref 0 0 0 :: .bad :: .bad :: Ty.own tSpot 1 v2 v3 :: (vI v4) :: strV path_0 :: bz 6 ((vI v4) :: .ref 0 0 2 :: Ty.sl tNode n_1.kids :: .sc (.int .i64 (n_1.kids.length : Int)) :: .sc (.bool (decide (v4 < (n_1.kids.length : Int)))) :: .bad :: .bad :: strV path_0 :: strV s6 :: strV path_0 :: strV path_0 :: .sc (.int .i64 (path_0.length : Int)) :: .sc (.int .i64 (IntKind.wrap .i64 ((path_0.length : Int) - 1))) :: .sc (.int .u8 (c8.toNat : Int)) :: .sc (.bool ((c8.toNat : Int) == 47)) :: strV path_0 :: Ty.own tSpot 1 v2 v3 :: strV path_0 :: .ref 0 0 2 :: Ty.sl tNode n_1.kids :: (vI v4) :: bz 14 [])) [.box 25 (cNode n_1), Ty.arr tSpot 44 v2 v3] (by kernel_rfl) (by kernel_rfl) (by kernel_rfl) ?_
          obtain ⟨x11, h12, h⟩ := Option.bind_eq_some_iff.1 h
          refine JD_val (c := .reads) (fun s => aindexAddr E0.tb s 23 (Ty.sl tNode n_1.kids) ((vI v4))) (by kernel_rfl) (sl_addr tNode tb_23 rfl tb_25 rfl h12) (by kernel_rfl) ?_
          refine JD_upd (c := .reads) (fun s => some (.fp (List.flatMap (Ty.cells tNode) n_1.kids) (v4.toNat * Ty.size tNode + 0), [.box 25 (cNode n_1), Ty.arr tSpot 44 v2 v3])) (by kernel_rfl) rfl (by kernel_rfl) ?_
          refine JD_seg [.free, .free, .reads, .reads, .free, .reads, .reads] (strV path_0 :: .bad :: (vI levels_2) :: .bad :: .ref 0 0 0 :: .bad :: .bad :: Ty.own tSpot 1 v2 v3 :: (vI v4) :: strV path_0 :: bz 6 ((vI v4) :: .ref 0 0 2 :: Ty.sl tNode n_1.kids :: .sc (.int .i64 (n_1.kids.length : Int)) :: .sc (.bool (decide (v4 < (n_1.kids.length : Int)))) :: .bad :: .bad :: strV path_0 :: strV s6 :: strV path_0 :: strV path_0 :: .sc (.int .i64 (path_0.length : Int)) :: .sc (.int .i64 (IntKind.wrap .i64 ((path_0.length : Int) - 1))) :: .sc (.int .u8 (c8.toNat : Int)) :: .sc (.bool ((c8.toNat : Int) == 47)) :: strV path_0 :: Ty.own tSpot 1 v2 v3 :: strV path_0 :: .ref 0 0 2 :: Ty.sl tNode n_1.kids :: (vI v4) :: .fp (List.flatMap (Ty.cells tNode) n_1.kids) (v4.toNat * Ty.size tNode) :: .fp (List.flatMap (Ty.cells tNode) n_1.kids) (v4.toNat * Ty.size tNode + 0) :: bz 12 [])) [.box 25 (cNode n_1), Ty.arr tSpot 44 v2 v3] (by kernel_rfl) (by kernel_rfl) (by kernel_rfl) ?_
          refine JD_val (c := .reads) (fun s => aload E0.tb s 9 (.fp (List.flatMap (Ty.cells tNode) n_1.kids) (v4.toNat * Ty.size tNode + 0))) (by kernel_rfl) (fp_load1 tNode (o := 0) tb_9 rfl h12 (by rw [tNode_cells]; rfl)) (by kernel_rfl) ?_
          refine JD_seg [.free, .free, .reads, .reads, .free, .reads, .reads, .reads] (strV path_0 :: .bad :: (vI levels_2) :: .bad :: .ref 0 0 0 :: .bad :: .bad :: Ty.own tSpot 1 v2 v3 :: (vI v4) :: strV path_0 :: bz 6 ((vI v4) :: .ref 0 0 2 :: Ty.sl tNode n_1.kids :: .sc (.int .i64 (n_1.kids.length : Int)) :: .sc (.bool (decide (v4 < (n_1.kids.length : Int)))) :: .bad :: .bad :: strV path_0 :: strV s6 :: strV path_0 :: strV path_0 :: .sc (.int .i64 (path_0.length : Int)) :: .sc (.int .i64 (IntKind.wrap .i64 ((path_0.length : Int) - 1))) :: .sc (.int .u8 (c8.toNat : Int)) :: .sc (.bool ((c8.toNat : Int) == 47)) :: strV path_0 :: Ty.own tSpot 1 v2 v3 :: strV path_0 :: .ref 0 0 2 :: Ty.sl tNode n_1.kids :: (vI v4) :: .fp (List.flatMap (Ty.cells tNode) n_1.kids) (v4.toNat * Ty.size tNode) :: .fp (List.flatMap (Ty.cells tNode) n_1.kids) (v4.toNat * Ty.size tNode + 0) :: strV x11.name :: bz 11 [])) [.box 25 (cNode n_1), Ty.arr tSpot 44 v2 v3] (by kernel_rfl) (by kernel_rfl) (by kernel_rfl) ?_
          obtain ⟨s13, h14, h⟩ := Option.bind_eq_some_iff.1 h
          refine JD_val (c := .reads) (fun s => abin E0.tb s .add 9 (strV path_0) (strV x11.name)) (by kernel_rfl) (str_cat h14) (by kernel_rfl) ?_
          refine JD_upd (c := .reads) (fun s => some (.ref 0 0 2, [.box 25 (cNode n_1), Ty.arr tSpot 44 v2 v3])) (by kernel_rfl) rfl (by kernel_rfl) ?_
          refine JD_upd (c := .reads) (fun s => some (Ty.sl tNode n_1.kids, [.box 25 (cNode n_1), Ty.arr tSpot 44 v2 v3])) (by kernel_rfl) rfl (by kernel_rfl) ?_
          refine JD_upd (c := .free) (fun s => some ((vI v4), [.box 25 (cNode n_1), Ty.arr tSpot 44 v2 v3])) (by kernel_rfl) rfl (by kernel_rfl) ?_
          refine JD_seg [.free, .free, .reads, .reads, .free, .reads, .reads, .reads, .reads, .reads, .reads, .free] (strV path_0 :: .bad :: (vI levels_2) :: .bad :: .ref 0 0 0 :: .bad :: .bad :: Ty.own tSpot 1 v2 v3 :: (vI v4) :: strV path_0 :: bz 6 ((vI v4) :: .ref 0 0 2 :: Ty.sl tNode n_1.kids :: .sc (.int .i64 (n_1.kids.length : Int)) :: .sc (.bool (decide (v4 < (n_1.kids.length : Int)))) :: .bad :: .bad :: strV path_0 :: strV s6 :: strV path_0 :: strV path_0 :: .sc (.int .i64 (path_0.length : Int)) :: .sc (.int .i64 (IntKind.wrap .i64 ((path_0.length : Int) - 1))) :: .sc (.int .u8 (c8.toNat : Int)) :: .sc (.bool ((c8.toNat : Int) == 47)) :: strV path_0 :: Ty.own tSpot 1 v2 v3 :: strV path_0 :: .ref 0 0 2 :: Ty.sl tNode n_1.kids :: (vI v4) :: .fp (List.flatMap (Ty.cells tNode) n_1.kids) (v4.toNat * Ty.size tNode) :: .fp (List.flatMap (Ty.cells tNode) n_1.kids) (v4.toNat * Ty.size tNode + 0) :: strV x11.name :: strV s13 :: .ref 0 0 2 :: Ty.sl tNode n_1.kids :: (vI v4) :: bz 7 [])) [.box 25 (cNode n_1), Ty.arr tSpot 44 v2 v3] (by kernel_rfl) (by kernel_rfl) (by kernel_rfl) ?_
          obtain ⟨x15, h16, h⟩ := Option.bind_eq_some_iff.1 h
          refine JD_val (c := .reads) (fun s => aindexAddr E0.tb s 23 (Ty.sl tNode n_1.kids) ((vI v4))) (by kernel_rfl) (sl_addr tNode tb_23 rfl tb_25 rfl h16) (by kernel_rfl) ?_
          refine JD_seg [.free, .free, .reads, .reads, .free, .reads, .reads, .reads, .reads, .reads, .reads, .free, .reads] (strV path_0 :: .bad :: (vI levels_2) :: .bad :: .ref 0 0 0 :: .bad :: .bad :: Ty.own tSpot 1 v2 v3 :: (vI v4) :: strV path_0 :: bz 6 ((vI v4) :: .ref 0 0 2 :: Ty.sl tNode n_1.kids :: .sc (.int .i64 (n_1.kids.length : Int)) :: .sc (.bool (decide (v4 < (n_1.kids.length : Int)))) :: .bad :: .bad :: strV path_0 :: strV s6 :: strV path_0 :: strV path_0 :: .sc (.int .i64 (path_0.length : Int)) :: .sc (.int .i64 (IntKind.wrap .i64 ((path_0.length : Int) - 1))) :: .sc (.int .u8 (c8.toNat : Int)) :: .sc (.bool ((c8.toNat : Int) == 47)) :: strV path_0 :: Ty.own tSpot 1 v2 v3 :: strV path_0 :: .ref 0 0 2 :: Ty.sl tNode n_1.kids :: (vI v4) :: .fp (List.flatMap (Ty.cells tNode) n_1.kids) (v4.toNat * Ty.size tNode) :: .fp (List.flatMap (Ty.cells tNode) n_1.kids) (v4.toNat * Ty.size tNode + 0) :: strV x11.name :: strV s13 :: .ref 0 0 2 :: Ty.sl tNode n_1.kids :: (vI v4) :: .fp (List.flatMap (Ty.cells tNode) n_1.kids) (v4.toNat * Ty.size tNode) :: bz 6 [])) [.box 25 (cNode n_1), Ty.arr tSpot 44 v2 v3] (by kernel_rfl) (by kernel_rfl) (by kernel_rfl) ?_
          refine JD_val (c := .reads) (fun s => aload E0.tb s 25 (.fp (List.flatMap (Ty.cells tNode) n_1.kids) (v4.toNat * Ty.size tNode))) (by kernel_rfl) (fp_loadN tNode (o := 0) (vs := (cNode x15)) tb_25 rfl h16 (by decide) (by rw [tNode_cells]; rfl)) (by kernel_rfl) ?_
          refine JD_upd (c := .free) (fun s => some ((vI levels_2), [.box 25 (cNode n_1), Ty.arr tSpot 44 v2 v3])) (by kernel_rfl) rfl (by kernel_rfl) ?_
          refine JD_upd (c := .reads) (fun s => some (.sc (.int .i64 (IntKind.wrap .i64 (levels_2 - 1))), [.box 25 (cNode n_1), Ty.arr tSpot 44 v2 v3])) (by kernel_rfl) rfl (by kernel_rfl) ?_
          refine JD_seg [.free, .free, .reads, .reads, .free, .reads, .reads, .reads, .reads, .reads, .reads, .free, .reads, .reads, .free, .reads] (strV path_0 :: .bad :: (vI levels_2) :: .bad :: .ref 0 0 0 :: .bad :: .bad :: Ty.own tSpot 1 v2 v3 :: (vI v4) :: strV path_0 :: bz 6 [(vI v4), .ref 0 0 2, Ty.sl tNode n_1.kids, .sc (.int .i64 (n_1.kids.length : Int)), .sc (.bool (decide (v4 < (n_1.kids.length : Int)))), .bad, .bad, strV path_0, strV s6, strV path_0, strV path_0, .sc (.int .i64 (path_0.length : Int)), .sc (.int .i64 (IntKind.wrap .i64 ((path_0.length : Int) - 1))), .sc (.int .u8 (c8.toNat : Int)), .sc (.bool ((c8.toNat : Int) == 47)), strV path_0, Ty.own tSpot 1 v2 v3, strV path_0, .ref 0 0 2, Ty.sl tNode n_1.kids, (vI v4), .fp (List.flatMap (Ty.cells tNode) n_1.kids) (v4.toNat * Ty.size tNode), .fp (List.flatMap (Ty.cells tNode) n_1.kids) (v4.toNat * Ty.size tNode + 0), strV x11.name, strV s13, .ref 0 0 2, Ty.sl tNode n_1.kids, (vI v4), .fp (List.flatMap (Ty.cells tNode) n_1.kids) (v4.toNat * Ty.size tNode), .agg (cNode x15), (vI levels_2), .sc (.int .i64 (IntKind.wrap .i64 (levels_2 - 1))), .bad, .bad, .bad]) [.box 25 (cNode n_1), Ty.arr tSpot 44 v2 v3] (by kernel_rfl) (by kernel_rfl) (by kernel_rfl) ?_
          obtain ⟨r17, h18, h⟩ := Option.bind_eq_some_iff.1 h
          refine JD_upd (c := .free) (fun s => fcall E0 64 [strV s13, .agg (cNode x15), .sc (.int .i64 (IntKind.wrap .i64 (levels_2 - 1)))] s) (by kernel_rfl) (hrec_ s13 x15 (IntKind.wrap .i64 (levels_2 - 1)) _ _ h18) (Eq.trans (b := if pureL [strV s13, .agg (cNode x15), .sc (.int .i64 (IntKind.wrap .i64 (levels_2 - 1)))] = true then Cls.free else Cls.writes) (by kernel_rfl) (cls_if (pC rfl (pC (pAgg (pC rfl (pC (sl_pure tProp _) (pC (sl_pure tNode _) pN)))) (pC rfl pN))))) ?_
          refine JD_seg [.free, .free, .reads, .reads, .free, .reads, .reads, .reads, .reads, .reads, .reads, .free, .reads, .reads, .free, .reads, .free] (strV path_0 :: .bad :: (vI levels_2) :: .bad :: .ref 0 0 0 :: .bad :: .bad :: Ty.own tSpot 1 v2 v3 :: (vI v4) :: strV path_0 :: bz 6 [(vI v4), .ref 0 0 2, Ty.sl tNode n_1.kids, .sc (.int .i64 (n_1.kids.length : Int)), .sc (.bool (decide (v4 < (n_1.kids.length : Int)))), .bad, .bad, strV path_0, strV s6, strV path_0, strV path_0, .sc (.int .i64 (path_0.length : Int)), .sc (.int .i64 (IntKind.wrap .i64 ((path_0.length : Int) - 1))), .sc (.int .u8 (c8.toNat : Int)), .sc (.bool ((c8.toNat : Int) == 47)), strV path_0, Ty.own tSpot 1 v2 v3, strV path_0, .ref 0 0 2, Ty.sl tNode n_1.kids, (vI v4), .fp (List.flatMap (Ty.cells tNode) n_1.kids) (v4.toNat * Ty.size tNode), .fp (List.flatMap (Ty.cells tNode) n_1.kids) (v4.toNat * Ty.size tNode + 0), strV x11.name, strV s13, .ref 0 0 2, Ty.sl tNode n_1.kids, (vI v4), .fp (List.flatMap (Ty.cells tNode) n_1.kids) (v4.toNat * Ty.size tNode), .agg (cNode x15), (vI levels_2), .sc (.int .i64 (IntKind.wrap .i64 (levels_2 - 1))), Ty.sl tSpot r17, .bad, .bad]) [.box 25 (cNode n_1), Ty.arr tSpot 44 v2 v3] (by kernel_rfl) (by kernel_rfl) (by kernel_rfl) ?_
          obtain ⟨l19, h20, h⟩ := Option.bind_eq_some_iff.1 h
          refine JD_upd (c := .writes) (fun s => abuiltin E0.tb s .append [41, 41] [Ty.own tSpot 1 v2 v3, Ty.sl tSpot r17]) (by kernel_rfl) (app_own tSpot (y := r17) tb_41 rfl tb_41 rfl tb_44 rfl rfl (by decide) (by decide) rfl (sl_slice tSpot r17) h20) (by kernel_rfl) ?_
          refine JD_upd (c := .free) (fun s => some (Ty.own tSpot 1 (v2 + 1) l19, [.box 25 (cNode n_1), Ty.arr tSpot 44 (v2 + 1) l19])) (by kernel_rfl) rfl (by kernel_rfl) ?_
          refine JD_seg [.free, .free, .reads, .reads, .free, .reads, .reads, .reads, .reads, .reads, .reads, .free, .reads, .reads, .free, .reads, .free, .writes, .free] (strV path_0 :: .bad :: (vI levels_2) :: .bad :: .ref 0 0 0 :: .bad :: .bad :: Ty.own tSpot 1 (v2 + 1) l19 :: (vI v4) :: strV path_0 :: bz 6 [(vI v4), .ref 0 0 2, Ty.sl tNode n_1.kids, .sc (.int .i64 (n_1.kids.length : Int)), .sc (.bool (decide (v4 < (n_1.kids.length : Int)))), .bad, .bad, strV path_0, strV s6, strV path_0, strV path_0, .sc (.int .i64 (path_0.length : Int)), .sc (.int .i64 (IntKind.wrap .i64 ((path_0.length : Int) - 1))), .sc (.int .u8 (c8.toNat : Int)), .sc (.bool ((c8.toNat : Int) == 47)), strV path_0, Ty.own tSpot 1 v2 v3, strV path_0, .ref 0 0 2, Ty.sl tNode n_1.kids, (vI v4), .fp (List.flatMap (Ty.cells tNode) n_1.kids) (v4.toNat * Ty.size tNode), .fp (List.flatMap (Ty.cells tNode) n_1.kids) (v4.toNat * Ty.size tNode + 0), strV x11.name, strV s13, .ref 0 0 2, Ty.sl tNode n_1.kids, (vI v4), .fp (List.flatMap (Ty.cells tNode) n_1.kids) (v4.toNat * Ty.size tNode), .agg (cNode x15), (vI levels_2), .sc (.int .i64 (IntKind.wrap .i64 (levels_2 - 1))), Ty.sl tSpot r17, Ty.own tSpot 1 (v2 + 1) l19, .bad]) [.box 25 (cNode n_1), Ty.arr tSpot 44 (v2 + 1) l19] (by kernel_rfl) (by kernel_rfl) (by kernel_rfl) ?_
          refine JD_end (by kernel_rfl) (by kernel_rfl) ?_
          refine JK_bl ?_
          refine JK_sq ?_
          refine J_region ?_
          refine JS_end (strV path_0 :: .bad :: (vI levels_2) :: .bad :: .ref 0 0 0 :: .bad :: .bad :: Ty.own tSpot 1 (v2 + 1) l19 :: .sc (.int .i64 (IntKind.wrap .i64 (v4 + 1))) :: strV path_0 :: bz 6 [(vI v4), .ref 0 0 2, Ty.sl tNode n_1.kids, .sc (.int .i64 (n_1.kids.length : Int)), .sc (.bool (decide (v4 < (n_1.kids.length : Int)))), (vI v4), .sc (.int .i64 (IntKind.wrap .i64 (v4 + 1))), strV path_0, strV s6, strV path_0, strV path_0, .sc (.int .i64 (path_0.length : Int)), .sc (.int .i64 (IntKind.wrap .i64 ((path_0.length : Int) - 1))), .sc (.int .u8 (c8.toNat : Int)), .sc (.bool ((c8.toNat : Int) == 47)), strV path_0, Ty.own tSpot 1 v2 v3, strV path_0, .ref 0 0 2, Ty.sl tNode n_1.kids, (vI v4), .fp (List.flatMap (Ty.cells tNode) n_1.kids) (v4.toNat * Ty.size tNode), .fp (List.flatMap (Ty.cells tNode) n_1.kids) (v4.toNat * Ty.size tNode + 0), strV x11.name, strV s13, .ref 0 0 2, Ty.sl tNode n_1.kids, (vI v4), .fp (List.flatMap (Ty.cells tNode) n_1.kids) (v4.toNat * Ty.size tNode), .agg (cNode x15), (vI levels_2), .sc (.int .i64 (IntKind.wrap .i64 (levels_2 - 1))), Ty.sl tSpot r17, Ty.own tSpot 1 (v2 + 1) l19, .bad]) [.box 25 (cNode n_1), Ty.arr tSpot 44 (v2 + 1) l19] (by kernel_rfl) ?_
          refine JK_nil ?_
          obtain rfl := Option.some.inj h
          exact turn_next (v2 + 1) (kill_go (mid := (strV path_0 :: .bad :: (vI levels_2) :: .bad :: .ref 0 0 0 :: .bad :: .bad :: Ty.own tSpot 1 (v2 + 1) l19 :: .sc (.int .i64 (IntKind.wrap .i64 (v4 + 1))) :: bz 42 [])) (by kernel_rfl) (mC (by kernel_rfl) (mB (mC (by kernel_rfl) (mB (mC (by kernel_rfl) (mB (mB (mC (own_scrub tSpot rfl) (mC (by kernel_rfl) (mZ 42 mN))))))))))) (cut_go (mid := [.box 25 (cNode n_1), Ty.arr tSpot 44 (v2 + 1) l19]) (by kernel_rfl) (oC (oB (lC (by kernel_rfl) (lC (sl_scrub tProp _ _) (lC (sl_scrub tNode _ _) lN)))) (oC (arr_scrub tSpot) oN)))
        · rw [if_neg (ne_true h10)] at h
          refine J_condF (v := ((c8.toNat : Int) == 47)) (by kernel_rfl) h10 ?_
          refine J_skip ?_
          refine JK_sq ?_
          refine J_draw ?_
          refine JD_seg [] (strV path_0 :: .bad :: (vI levels_2) :: .bad :: .ref 0 0 0 :: .bad :: .bad :: Ty.own tSpot 1 v2 v3 :: (vI v4) :: strV s6 :: bz 6 ((vI v4) :: .ref 0 0 2 :: Ty.sl tNode n_1.kids :: .sc (.int .i64 (n_1.kids.length : Int)) :: .sc (.bool (decide (v4 < (n_1.kids.length : Int)))) :: .bad :: .bad :: strV path_0 :: strV s6 :: strV path_0 :: strV path_0 :: .sc (.int .i64 (path_0.length : Int)) :: .sc (.int .i64 (IntKind.wrap .i64 ((path_0.length : Int) - 1))) :: .sc (.int .u8 (c8.toNat : Int)) :: .sc (.bool ((c8.toNat : Int) == 47)) :: bz 20 [])) [.box 25 (cNode n_1), Ty.arr tSpot 44 v2 v3] (by kernel_rfl) (by kernel_rfl) (by kernel_rfl) ?_
          refine JD_upd (c := .free) (fun s => some (Ty.own tSpot 1 v2 v3, [.box 25 (cNode n_1), Ty.arr tSpot 44 v2 v3])) (by kernel_rfl) rfl (by kernel_rfl) ?_
          refine JD_upd (c := .free) (fun s => some (strV s6, [.box 25 (cNode n_1), Ty.arr tSpot 44 v2 v3])) (by kernel_rfl) rfl (by kernel_rfl) ?_
          refine JD_upd (c := .reads) (fun s => some (.ref 0 0 2, [.box 25 (cNode n_1), Ty.arr tSpot 44 v2 v3])) (by kernel_rfl) rfl (by kernel_rfl) ?_
          refine JD_upd (c := .reads) (fun s => some (Ty.sl tNode n_1.kids, [.box 25 (cNode n_1), Ty.arr tSpot 44 v2 v3])) (by kernel_rfl) rfl (by kernel_rfl) ?_
          refine JD_upd (c := .free) (fun s => some ((vI v4), [.box 25 (cNode n_1), Ty.arr tSpot 44 v2 v3])) (by kernel_rfl) rfl (by kernel_rfl) ?_
          refine JD_seg [.free, .free, .reads, .reads, .free] (strV path_0 :: .bad :: (vI levels_2) :: .bad :: .ref 0 0 0 :: .bad :: .bad :: Ty.own tSpot 1 v2 v3 :: (vI v4) :: strV s6 :: bz 6 ((vI v4) :: .ref 0 0 2 :: Ty.sl tNode n_1.kids :: .sc (.int .i64 (n_1.kids.length : Int)) :: .sc (.bool (decide (v4 < (n_1.kids.length : Int)))) :: .bad :: .bad :: strV path_0 :: strV s6 :: strV path_0 :: strV path_0 :: .sc (.int .i64 (path_0.length : Int)) :: .sc (.int .i64 (IntKind.wrap .i64 ((path_0.length : Int) - 1))) :: .sc (.int .u8 (c8.toNat : Int)) :: .sc (.bool ((c8.toNat : Int) == 47)) :: .bad :: Ty.own tSpot 1 v2 v3 :: strV s6 :: .ref 0 0 2 :: Ty.sl tNode n_1.kids :: (vI v4) :: bz 14 [])) [.box 25 (cNode n_1), Ty.arr tSpot 44 v2 v3] (by kernel_rfl) (by kernel_rfl) (by kernel_rfl) ?_
          obtain ⟨x21, h22, h⟩ := Option.bind_eq_some_iff.1 h
          refine JD_val (c := .reads) (fun s => aindexAddr E0.tb s 23 (Ty.sl tNode n_1.kids) ((vI v4))) (by kernel_rfl) (sl_addr tNode tb_23 rfl tb_25 rfl h22) (by kernel_rfl) ?_
          refine JD_upd (c := .reads) (fun s => some (.fp (List.flatMap (Ty.cells tNode) n_1.kids) (v4.toNat * Ty.size tNode + 0), [.box 25 (cNode n_1), Ty.arr tSpot 44 v2 v3])) (by kernel_rfl) rfl (by kernel_rfl) ?_
          refine JD_seg [.free, .free, .reads, .reads, .free, .reads, .reads] (strV path_0 :: .bad :: (vI levels_2) :: .bad :: .ref 0 0 0 :: .bad :: .bad :: Ty.own tSpot 1 v2 v3 :: (vI v4) :: strV s6 :: bz 6 ((vI v4) :: .ref 0 0 2 :: Ty.sl tNode n_1.kids :: .sc (.int .i64 (n_1.kids.length : Int)) :: .sc (.bool (decide (v4 < (n_1.kids.length : Int)))) :: .bad :: .bad :: strV path_0 :: strV s6 :: strV path_0 :: strV path_0 :: .sc (.int .i64 (path_0.length : Int)) :: .sc (.int .i64 (IntKind.wrap .i64 ((path_0.length : Int) - 1))) :: .sc (.int .u8 (c8.toNat : Int)) :: .sc (.bool ((c8.toNat : Int) == 47)) :: .bad :: Ty.own tSpot 1 v2 v3 :: strV s6 :: .ref 0 0 2 :: Ty.sl tNode n_1.kids :: (vI v4) :: .fp (List.flatMap (Ty.cells tNode) n_1.kids) (v4.toNat * Ty.size tNode) :: .fp (List.flatMap (Ty.cells tNode) n_1.kids) (v4.toNat * Ty.size tNode + 0) :: bz 12 [])) [.box 25 (cNode n_1), Ty.arr tSpot 44 v2 v3] (by kernel_rfl) (by kernel_rfl) (by kernel_rfl) ?_
          refine JD_val (c := .reads) (fun s => aload E0.tb s 9 (.fp (List.flatMap (Ty.cells tNode) n_1.kids) (v4.toNat * Ty.size tNode + 0))) (by kernel_rfl) (fp_load1 tNode (o := 0) tb_9 rfl h22 (by rw [tNode_cells]; rfl)) (by kernel_rfl) ?_
          refine JD_seg [.free, .free, .reads, .reads, .free, .reads, .reads, .reads] (strV path_0 :: .bad :: (vI levels_2) :: .bad :: .ref 0 0 0 :: .bad :: .bad :: Ty.own tSpot 1 v2 v3 :: (vI v4) :: strV s6 :: bz 6 ((vI v4) :: .ref 0 0 2 :: Ty.sl tNode n_1.kids :: .sc (.int .i64 (n_1.kids.length : Int)) :: .sc (.bool (decide (v4 < (n_1.kids.length : Int)))) :: .bad :: .bad :: strV path_0 :: strV s6 :: strV path_0 :: strV path_0 :: .sc (.int .i64 (path_0.length : Int)) :: .sc (.int .i64 (IntKind.wrap .i64 ((path_0.length : Int) - 1))) :: .sc (.int .u8 (c8.toNat : Int)) :: .sc (.bool ((c8.toNat : Int) == 47)) :: .bad :: Ty.own tSpot 1 v2 v3 :: strV s6 :: .ref 0 0 2 :: Ty.sl tNode n_1.kids :: (vI v4) :: .fp (List.flatMap (Ty.cells tNode) n_1.kids) (v4.toNat * Ty.size tNode) :: .fp (List.flatMap (Ty.cells tNode) n_1.kids) (v4.toNat * Ty.size tNode + 0) :: strV x21.name :: bz 11 [])) [.box 25 (cNode n_1), Ty.arr tSpot 44 v2 v3] (by kernel_rfl) (by kernel_rfl) (by kernel_rfl) ?_
          obtain ⟨s23, h24, h⟩ := Option.bind_eq_some_iff.1 h
          refine JD_val (c := .reads) (fun s => abin E0.tb s .add 9 (strV s6) (strV x21.name)) (by kernel_rfl) (str_cat h24) (by kernel_rfl) ?_
          refine JD_upd (c := .reads) (fun s => some (.ref 0 0 2, [.box 25 (cNode n_1), Ty.arr tSpot 44 v2 v3])) (by kernel_rfl) rfl (by kernel_rfl) ?_
          refine JD_upd (c := .reads) (fun s => some (Ty.sl tNode n_1.kids, [.box 25 (cNode n_1), Ty.arr tSpot 44 v2 v3])) (by kernel_rfl) rfl (by kernel_rfl) ?_
          refine JD_upd (c := .free) (fun s => some ((vI v4), [.box 25 (cNode n_1), Ty.arr tSpot 44 v2 v3])) (by kernel_rfl) rfl (by kernel_rfl) ?_
          refine JD_seg [.free, .free, .reads, .reads, .free, .reads, .reads, .reads, .reads, .reads, .reads, .free] (strV path_0 :: .bad :: (vI levels_2) :: .bad :: .ref 0 0 0 :: .bad :: .bad :: Ty.own tSpot 1 v2 v3 :: (vI v4) :: strV s6 :: bz 6 ((vI v4) :: .ref 0 0 2 :: Ty.sl tNode n_1.kids :: .sc (.int .i64 (n_1.kids.length : Int)) :: .sc (.bool (decide (v4 < (n_1.kids.length : Int)))) :: .bad :: .bad :: strV path_0 :: strV s6 :: strV path_0 :: strV path_0 :: .sc (.int .i64 (path_0.length : Int)) :: .sc (.int .i64 (IntKind.wrap .i64 ((path_0.length : Int) - 1))) :: .sc (.int .u8 (c8.toNat : Int)) :: .sc (.bool ((c8.toNat : Int) == 47)) :: .bad :: Ty.own tSpot 1 v2 v3 :: strV s6 :: .ref 0 0 2 :: Ty.sl tNode n_1.kids :: (vI v4) :: .fp (List.flatMap (Ty.cells tNode) n_1.kids) (v4.toNat * Ty.size tNode) :: .fp (List.flatMap (Ty.cells tNode) n_1.kids) (v4.toNat * Ty.size tNode + 0) :: strV x21.name :: strV s23 :: .ref 0 0 2 :: Ty.sl tNode n_1.kids :: (vI v4) :: bz 7 [])) [.box 25 (cNode n_1), Ty.arr tSpot 44 v2 v3] (by kernel_rfl) (by kernel_rfl) (by kernel_rfl) ?_
          obtain ⟨x25, h26, h⟩ := Option.bind_eq_some_iff.1 h
          refine JD_val (c := .reads) (fun s => aindexAddr E0.tb s 23 (Ty.sl tNode n_1.kids) ((vI v4))) (by kernel_rfl) (sl_addr tNode tb_23 rfl tb_25 rfl h26) (by kernel_rfl) ?_
          refine JD_seg [.free, .free, .reads, .reads, .free, .reads, .reads, .reads, .reads, .reads, .reads, .free, .reads] (strV path_0 :: .bad :: (vI levels_2) :: .bad :: .ref 0 0 0 :: .bad :: .bad :: Ty.own tSpot 1 v2 v3 :: (vI v4) :: strV s6 :: bz 6 ((vI v4) :: .ref 0 0 2 :: Ty.sl tNode n_1.kids :: .sc (.int .i64 (n_1.kids.length : Int)) :: .sc (.bool (decide (v4 < (n_1.kids.length : Int)))) :: .bad :: .bad :: strV path_0 :: strV s6 :: strV path_0 :: strV path_0 :: .sc (.int .i64 (path_0.length : Int)) :: .sc (.int .i64 (IntKind.wrap .i64 ((path_0.length : Int) - 1))) :: .sc (.int .u8 (c8.toNat : Int)) :: .sc (.bool ((c8.toNat : Int) == 47)) :: .bad :: Ty.own tSpot 1 v2 v3 :: strV s6 :: .ref 0 0 2 :: Ty.sl tNode n_1.kids :: (vI v4) :: .fp (List.flatMap (Ty.cells tNode) n_1.kids) (v4.toNat * Ty.size tNode) :: .fp (List.flatMap (Ty.cells tNode) n_1.kids) (v4.toNat * Ty.size tNode + 0) :: strV x21.name :: strV s23 :: .ref 0 0 2 :: Ty.sl tNode n_1.kids :: (vI v4) :: .fp (List.flatMap (Ty.cells tNode) n_1.kids) (v4.toNat * Ty.size tNode) :: bz 6 [])) [.box 25 (cNode n_1), Ty.arr tSpot 44 v2 v3] (by kernel_rfl) (by kernel_rfl) (by kernel_rfl) ?_
          refine JD_val (c := .reads) (fun s => aload E0.tb s 25 (.fp (List.flatMap (Ty.cells tNode) n_1.kids) (v4.toNat * Ty.size tNode))) (by kernel_rfl) (fp_loadN tNode (o := 0) (vs := (cNode x25)) tb_25 rfl h26 (by decide) (by rw [tNode_cells]; rfl)) (by kernel_rfl) ?_
          refine JD_upd (c := .free) (fun s => some ((vI levels_2), [.box 25 (cNode n_1), Ty.arr tSpot 44 v2 v3])) (by kernel_rfl) rfl (by kernel_rfl) ?_
          refine JD_upd (c := .reads) (fun s => some (.sc (.int .i64 (IntKind.wrap .i64 (levels_2 - 1))), [.box 25 (cNode n_1), Ty.arr tSpot 44 v2 v3])) (by kernel_rfl) rfl (by kernel_rfl) ?_
          refine JD_seg [.free, .free, .reads, .reads, .free, .reads, .reads, .reads, .reads, .reads, .reads, .free, .reads, .reads, .free, .reads] (strV path_0 :: .bad :: (vI levels_2) :: .bad :: .ref 0 0 0 :: .bad :: .bad :: Ty.own tSpot 1 v2 v3 :: (vI v4) :: strV s6 :: bz 6 [(vI v4), .ref 0 0 2, Ty.sl tNode n_1.kids, .sc (.int .i64 (n_1.kids.length : Int)), .sc (.bool (decide (v4 < (n_1.kids.length : Int)))), .bad, .bad, strV path_0, strV s6, strV path_0, strV path_0, .sc (.int .i64 (path_0.length : Int)), .sc (.int .i64 (IntKind.wrap .i64 ((path_0.length : Int) - 1))), .sc (.int .u8 (c8.toNat : Int)), .sc (.bool ((c8.toNat : Int) == 47)), .bad, Ty.own tSpot 1 v2 v3, strV s6, .ref 0 0 2, Ty.sl tNode n_1.kids, (vI v4), .fp (List.flatMap (Ty.cells tNode) n_1.kids) (v4.toNat * Ty.size tNode), .fp (List.flatMap (Ty.cells tNode) n_1.kids) (v4.toNat * Ty.size tNode + 0), strV x21.name, strV s23, .ref 0 0 2, Ty.sl tNode n_1.kids, (vI v4), .fp (List.flatMap (Ty.cells tNode) n_1.kids) (v4.toNat * Ty.size tNode), .agg (cNode x25), (vI levels_2), .sc (.int .i64 (IntKind.wrap .i64 (levels_2 - 1))), .bad, .bad, .bad]) [.box 25 (cNode n_1), Ty.arr tSpot 44 v2 v3] (by kernel_rfl) (by kernel_rfl) (by kernel_rfl) ?_
          obtain ⟨r27, h28, h⟩ := Option.bind_eq_some_iff.1 h
          refine JD_upd (c := .free) (fun s => fcall E0 64 [strV s23, .agg (cNode x25), .sc (.int .i64 (IntKind.wrap .i64 (levels_2 - 1)))] s) (by kernel_rfl) (hrec_ s23 x25 (IntKind.wrap .i64 (levels_2 - 1)) _ _ h28) (Eq.trans (b := if pureL [strV s23, .agg (cNode x25), .sc (.int .i64 (IntKind.wrap .i64 (levels_2 - 1)))] = true then Cls.free else Cls.writes) (by kernel_rfl) (cls_if (pC rfl (pC (pAgg (pC rfl (pC (sl_pure tProp _) (pC (sl_pure tNode _) pN)))) (pC rfl pN))))) ?_
          refine JD_seg [.free, .free, .reads, .reads, .free, .reads, .reads, .reads, .reads, .reads, .reads, .free, .reads, .reads, .free, .reads, .free] (strV path_0 :: .bad :: (vI levels_2) :: .bad :: .ref 0 0 0 :: .bad :: .bad :: Ty.own tSpot 1 v2 v3 :: (vI v4) :: strV s6 :: bz 6 [(vI v4), .ref 0 0 2, Ty.sl tNode n_1.kids, .sc (.int .i64 (n_1.kids.length : Int)), .sc (.bool (decide (v4 < (n_1.kids.length : Int)))), .bad, .bad, strV path_0, strV s6, strV path_0, strV path_0, .sc (.int .i64 (path_0.length : Int)), .sc (.int .i64 (IntKind.wrap .i64 ((path_0.length : Int) - 1))), .sc (.int .u8 (c8.toNat : Int)), .sc (.bool ((c8.toNat : Int) == 47)), .bad, Ty.own tSpot 1 v2 v3, strV s6, .ref 0 0 2, Ty.sl tNode n_1.kids, (vI v4), .fp (List.flatMap (Ty.cells tNode) n_1.kids) (v4.toNat * Ty.size tNode), .fp (List.flatMap (Ty.cells tNode) n_1.kids) (v4.toNat * Ty.size tNode + 0), strV x21.name, strV s23, .ref 0 0 2, Ty.sl tNode n_1.kids, (vI v4), .fp (List.flatMap (Ty.cells tNode) n_1.kids) (v4.toNat * Ty.size tNode), .agg (cNode x25), (vI levels_2), .sc (.int .i64 (IntKind.wrap .i64 (levels_2 - 1))), Ty.sl tSpot r27, .bad, .bad]) [.box 25 (cNode n_1), Ty.arr tSpot 44 v2 v3] (by kernel_rfl) (by kernel_rfl) (by kernel_rfl) ?_
          obtain ⟨l29, h30, h⟩ := Option.bind_eq_some_iff.1 h
          refine JD_upd (c := .writes) (fun s => abuiltin E0.tb s .append [41, 41] [Ty.own tSpot 1 v2 v3, Ty.sl tSpot r27]) (by kernel_rfl) (app_own tSpot (y := r27) tb_41 rfl tb_41 rfl tb_44 rfl rfl (by decide) (by decide) rfl (sl_slice tSpot r27) h30) (by kernel_rfl) ?_
          refine JD_upd (c := .free) (fun s => some (Ty.own tSpot 1 (v2 + 1) l29, [.box 25 (cNode n_1), Ty.arr tSpot 44 (v2 + 1) l29])) (by kernel_rfl) rfl (by kernel_rfl) ?_
          refine JD_seg [.free, .free, .reads, .reads, .free, .reads, .reads, .reads, .reads, .reads, .reads, .free, .reads, .reads, .free, .reads, .free, .writes, .free] (strV path_0 :: .bad :: (vI levels_2) :: .bad :: .ref 0 0 0 :: .bad :: .bad :: Ty.own tSpot 1 (v2 + 1) l29 :: (vI v4) :: strV s6 :: bz 6 [(vI v4), .ref 0 0 2, Ty.sl tNode n_1.kids, .sc (.int .i64 (n_1.kids.length : Int)), .sc (.bool (decide (v4 < (n_1.kids.length : Int)))), .bad, .bad, strV path_0, strV s6, strV path_0, strV path_0, .sc (.int .i64 (path_0.length : Int)), .sc (.int .i64 (IntKind.wrap .i64 ((path_0.length : Int) - 1))), .sc (.int .u8 (c8.toNat : Int)), .sc (.bool ((c8.toNat : Int) == 47)), .bad, Ty.own tSpot 1 v2 v3, strV s6, .ref 0 0 2, Ty.sl tNode n_1.kids, (vI v4), .fp (List.flatMap (Ty.cells tNode) n_1.kids) (v4.toNat * Ty.size tNode), .fp (List.flatMap (Ty.cells tNode) n_1.kids) (v4.toNat * Ty.size tNode + 0), strV x21.name, strV s23, .ref 0 0 2, Ty.sl tNode n_1.kids, (vI v4), .fp (List.flatMap (Ty.cells tNode) n_1.kids) (v4.toNat * Ty.size tNode), .agg (cNode x25), (vI levels_2), .sc (.int .i64 (IntKind.wrap .i64 (levels_2 - 1))), Ty.sl tSpot r27, Ty.own tSpot 1 (v2 + 1) l29, .bad]) [.box 25 (cNode n_1), Ty.arr tSpot 44 (v2 + 1) l29] (by kernel_rfl) (by kernel_rfl) (by kernel_rfl) ?_
          refine JD_end (by kernel_rfl) (by kernel_rfl) ?_
          refine JK_bl ?_
          refine JK_sq ?_
          refine J_region ?_
          refine JS_end (strV path_0 :: .bad :: (vI levels_2) :: .bad :: .ref 0 0 0 :: .bad :: .bad :: Ty.own tSpot 1 (v2 + 1) l29 :: .sc (.int .i64 (IntKind.wrap .i64 (v4 + 1))) :: strV s6 :: bz 6 [(vI v4), .ref 0 0 2, Ty.sl tNode n_1.kids, .sc (.int .i64 (n_1.kids.length : Int)), .sc (.bool (decide (v4 < (n_1.kids.length : Int)))), (vI v4), .sc (.int .i64 (IntKind.wrap .i64 (v4 + 1))), strV path_0, strV s6, strV path_0, strV path_0, .sc (.int .i64 (path_0.length : Int)), .sc (.int .i64 (IntKind.wrap .i64 ((path_0.length : Int) - 1))), .sc (.int .u8 (c8.toNat : Int)), .sc (.bool ((c8.toNat : Int) == 47)), .bad, Ty.own tSpot 1 v2 v3, strV s6, .ref 0 0 2, Ty.sl tNode n_1.kids, (vI v4), .fp (List.flatMap (Ty.cells tNode) n_1.kids) (v4.toNat * Ty.size tNode), .fp (List.flatMap (Ty.cells tNode) n_1.kids) (v4.toNat * Ty.size tNode + 0), strV x21.name, strV s23, .ref 0 0 2, Ty.sl tNode n_1.kids, (vI v4), .fp (List.flatMap (Ty.cells tNode) n_1.kids) (v4.toNat * Ty.size tNode), .agg (cNode x25), (vI levels_2), .sc (.int .i64 (IntKind.wrap .i64 (levels_2 - 1))), Ty.sl tSpot r27, Ty.own tSpot 1 (v2 + 1) l29, .bad]) [.box 25 (cNode n_1), Ty.arr tSpot 44 (v2 + 1) l29] (by kernel_rfl) ?_
          refine JK_nil ?_
          obtain rfl := Option.some.inj h
          exact turn_next (v2 + 1) (kill_go (mid := (strV path_0 :: .bad :: (vI levels_2) :: .bad :: .ref 0 0 0 :: .bad :: .bad :: Ty.own tSpot 1 (v2 + 1) l29 :: .sc (.int .i64 (IntKind.wrap .i64 (v4 + 1))) :: bz 42 [])) (by kernel_rfl) (mC (by kernel_rfl) (mB (mC (by kernel_rfl) (mB (mC (by kernel_rfl) (mB (mB (mC (own_scrub tSpot rfl) (mC (by kernel_rfl) (mZ 42 mN))))))))))) (cut_go (mid := [.box 25 (cNode n_1), Ty.arr tSpot 44 (v2 + 1) l29]) (by kernel_rfl) (oC (oB (lC (by kernel_rfl) (lC (sl_scrub tProp _ _) (lC (sl_scrub tNode _ _) lN)))) (oC (arr_scrub tSpot) oN)))
      · rw [if_neg (ne_true h5)] at h
        refine J_condF (v := (decide (v4 < (n_1.kids.length : Int)))) (by kernel_rfl) h5 ?_
        refine J_exit ?_
        refine JK_sq_exit ?_
        refine JK_nil ?_
        obtain rfl := Option.some.inj h
        exact turn_exit (tm' := (bz 7 (Ty.own tSpot 1 v2 v3 :: bz 43 []))) (st' := [.box 25 (cNode n_1), Ty.arr tSpot 44 v2 v3]) v2 (kill_go (mid := (bz 7 (Ty.own tSpot 1 v2 v3 :: bz 43 []))) (by kernel_rfl) (mZ 7 (mC (own_scrub tSpot rfl) (mZ 43 mN)))) (cut_go (mid := [.box 25 (cNode n_1), Ty.arr tSpot 44 v2 v3]) (by kernel_rfl) (oC (oB (lC (by kernel_rfl) (lC (sl_scrub tProp _ _) (lC (sl_scrub tNode _ _) lN)))) (oC (arr_scrub tSpot) oN))) (by kernel_rfl)
    · intro g33
      refine (show JK _ _ _ _ (.exit 0, (bz 7 (Ty.own tSpot 1 g33 r31 :: bz 43 [])), [.box 25 (cNode n_1), Ty.arr tSpot 44 g33 r31]) from ?_)
      refine JK_bl_hit ?_
      refine JK_sq ?_
      refine J_seq ?_
      refine J_region ?_
      refine JS_end (bz 6 (Ty.own tSpot 1 g33 r31 :: Ty.own tSpot 1 g33 r31 :: bz 42 [Ty.own tSpot 1 g33 r31])) [.box 25 (cNode n_1), Ty.arr tSpot 44 g33 r31] (by kernel_rfl) ?_
      refine JK_sq ?_
      refine J_ret ?_
      refine JK_nil ?_
      obtain rfl := Option.some.inj h
      exact ret_A (r := Ty.own tSpot 1 g33 r31) (r' := Ty.sl tSpot r31) (.inl rfl) (by kernel_rfl) (own_frz tSpot rfl rfl) (sl_pure tSpot _) ⟨by kernel_rfl, rfl⟩

theorem ref12_walk_k_C : ∀ (k : Nat) (path_0 : Str) (n_1 : GNode) (levels_2 : Int) (r : List GSpot) (st : Store), ref12_walk_k k path_0 n_1 levels_2 = some r → fcall E0 64 [strV path_0, .agg (cNode n_1), (vI levels_2)] st = some (Ty.sl tSpot r, st)
  | 0, path_0, n_1, levels_2, r, st, h => by simp [ref12_walk_k] at h
  | k + 1, path_0, n_1, levels_2, r, st, h => ref12_walk_b_C (ref12_walk_k k) (ref12_walk_k_C k) path_0 n_1 levels_2 r st (by simpa only [ref12_walk_k] using h)

theorem ref12_walk_C (path_0 : Str) (n_1 : GNode) (levels_2 : Int) (r : List GSpot) (st : Store) (h : ref12_walk path_0 n_1 levels_2 = some r) : fcall E0 64 [strV path_0, .agg (cNode n_1), (vI levels_2)] st = some (Ty.sl tSpot r, st) := by
  obtain ⟨k, hk⟩ := limF_some h
  exact ref12_walk_k_C k path_0 n_1 levels_2 r st hk

theorem ref12_Walk_C (n_0 : GNode) (r : List GSpot) (st : Store) (h : ref12_Walk n_0 = some r) : fcall E0 24 [.agg (cNode n_0)] st = some (Ty.sl tSpot r, st) := by
  unfold ref12_Walk at h
  refine fn_alone (fn := Tryd.f24) (av' := (.agg (cNode n_0) :: bz 4 [])) rfl fn_24 rfl (pC (pAgg (pC rfl (pC (sl_pure tProp _) (pC (sl_pure tNode _) pN)))) pN) rfl rfl rfl (has_go (as1 := [.agg (cNode n_0)]) (lC (sAgg (lC (by kernel_rfl) (lC (sl_scrub tProp _ _) (lC (sl_scrub tNode _ _) lN)))) lN) (by kernel_rfl)) ?_
  refine J_seq ?_
  refine J_region ?_
  refine JS_end [.agg (cNode n_0), .ref 0 0 0, .sc (.slice none 0 0), .bad, .bad] [.box 25 (cNode n_0)] (by kernel_rfl) ?_
  refine JK_sq ?_
  refine J_seq ?_
  refine J_region ?_
  refine JS_seg 1 [.agg (cNode n_0), .ref 0 0 0, .sc (.slice none 0 0), .agg (cNode n_0), .bad] [.box 25 (cNode n_0)] (by kernel_rfl) ?_
  obtain ⟨r1, h2, h⟩ := Option.bind_eq_some_iff.1 h
  refine JS_upd (fun s => fcall E0 64 [strV [47], .agg (cNode n_0), (vI 8)] s) (by kernel_rfl) (ref12_walk_C [47] n_0 8 _ _ h2) ?_
  refine JS_end [.agg (cNode n_0), .ref 0 0 0, Ty.sl tSpot r1, .agg (cNode n_0), Ty.sl tSpot r1] [.box 25 (cNode n_0)] (by kernel_rfl) ?_
  refine JK_sq ?_
  refine J_ret ?_
  refine JK_nil ?_
  obtain rfl := Option.some.inj h
  exact ret_A (r := Ty.sl tSpot r1) (r' := Ty.sl tSpot r1) (.inl rfl) (by kernel_rfl) (sl_frz tSpot _ _ _ _) (sl_pure tSpot _) ⟨by kernel_rfl, rfl⟩

end Go.Proofs.YticlelmlnadclaaDoor
