/-
  What the evaluator's calls come to. Printed by program. No condition.
-/
import Derived.Test.YticlelmlnadclaaDoorKQ
import Derived.Test.YticlelmlnadclaaDoorKS0
set_option linter.unusedVariables false
set_option linter.unusedSimpArgs false
set_option linter.unusedSectionVars false
set_option linter.unnecessarySimpa false
set_option linter.deprecated false
namespace Go.Proofs.YticlelmlnadclaaDoor
open Go.P
open Go Go.Abs

set_option maxRecDepth 100000
set_option maxHeartbeats 4000000

theorem path_Kid_C (n_0 : GNode) (name_1 : Str) (r : GNode × Bool) (st : Store) (h : path_Kid n_0 name_1 = some r) : fcall E0 13 [.agg (cNode n_0), strV name_1] st = some (.tup [.agg (cNode r.1), .sc (.bool r.2)], st) := by
  unfold path_Kid at h
  refine fn_alone (fn := Tryd.f13) (av' := (.agg (cNode n_0) :: strV name_1 :: bz 17 [])) rfl fn_13 rfl (pC (pAgg (pC rfl (pC (sl_pure tProp _) (pC (sl_pure tNode _) pN)))) (pC rfl pN)) rfl rfl rfl (has_go (as1 := [.agg (cNode n_0), strV name_1]) (lC (sAgg (lC (by kernel_rfl) (lC (sl_scrub tProp _ _) (lC (sl_scrub tNode _ _) lN)))) (lC (by kernel_rfl) lN)) (by kernel_rfl)) ?_
  refine J_seq ?_
  refine J_region ?_
  refine JS_end (.agg (cNode n_0) :: strV name_1 :: .ref 0 0 0 :: .ref 1 0 0 :: .ref 2 0 0 :: (vB false) :: bz 13 []) [.box 25 (cNode n_0), .box 9 [strV name_1], .box 25 [strV [], .sc (.slice none 0 0), .sc (.slice none 0 0)]] (by kernel_rfl) ?_
  refine JK_sq ?_
  refine J_seq ?_
  refine J_region ?_
  refine JS_seg 3 (.agg (cNode n_0) :: strV name_1 :: .ref 0 0 0 :: .ref 1 0 0 :: .ref 2 0 0 :: (vB false) :: .bad :: .ref 0 0 2 :: Ty.sl tNode n_0.kids :: .fn 51 [.ref 1 0 0] :: bz 9 []) [.box 25 (cNode n_0), .box 9 [strV name_1], .box 25 [strV [], .sc (.slice none 0 0), .sc (.slice none 0 0)]] (by kernel_rfl) ?_
  refine JS_call (av := [Ty.sl tNode n_0.kids, .fn 51 [.ref 1 0 0]]) (av' := (Ty.sl tNode n_0.kids :: .fn 51 [.ref 1 0 0] :: bz 17 [])) (n0 := 3) (by kernel_rfl) rfl fn_50 rfl (nP2 (nP1 (nP1 rfl))) rfl rfl rfl rfl (has_go (as1 := [Ty.sl tNode n_0.kids, .fn 51 [.ref 1 0 0]]) (lC (sl_scrub tNode _ _) (lC (sFn (lC (by kernel_rfl) lN)) lN)) (by kernel_rfl)) ?_
  refine J_seq ?_
  refine J_region ?_
  refine JS_end (Ty.sl tNode n_0.kids :: .fn 51 [.ref 1 0 0] :: .bad :: .bad :: (vI 0) :: bz 14 []) [.box 25 (cNode n_0), .box 9 [strV name_1], .box 25 [strV [], .sc (.slice none 0 0), .sc (.slice none 0 0)]] (by kernel_rfl) ?_
  refine JK_sq ?_
  refine J_seq ?_
  refine J_seq ?_
  refine J_region ?_
  refine JS_end (Ty.sl tNode n_0.kids :: .fn 51 [.ref 1 0 0] :: .bad :: .bad :: (vI 0) :: .bad :: Ty.sl tNode n_0.kids :: .sc (.int .i64 (n_0.kids.length : Int)) :: (vI 0) :: bz 10 []) [.box 25 (cNode n_0), .box 9 [strV name_1], .box 25 [strV [], .sc (.slice none 0 0), .sc (.slice none 0 0)]] (by kernel_rfl) ?_
  refine JK_sq ?_
  refine J_block ?_
  obtain ⟨r6, h7, h⟩ := Option.bind_eq_some_iff.1 h
  refine J_loop (γ := Unit) h7 3 (Ty.sl tNode n_0.kids :: .fn 51 [.ref 1 0 0] :: .bad :: .bad :: (vI 0) :: .bad :: Ty.sl tNode n_0.kids :: .sc (.int .i64 (n_0.kids.length : Int)) :: (vI 0) :: bz 10 []) [.box 25 (cNode n_0), .box 9 [strV name_1], .box 25 [strV [], .sc (.slice none 0 0), .sc (.slice none 0 0)]] (fun s g => (Ty.sl tNode n_0.kids :: .fn 51 [.ref 1 0 0] :: bz 5 (.sc (.int .i64 (n_0.kids.length : Int)) :: (vI s) :: bz 10 []))) (fun s g => [.box 25 (cNode n_0), .box 9 [strV name_1], .box 25 [strV [], Ty.sl tProp [], Ty.sl tNode []]]) (fun r g => match r with | (.inl r) => (.exit 0, (bz 19 []), [.box 25 (cNode n_0), .box 9 [strV name_1], .box 25 [strV [], Ty.sl tProp [], Ty.sl tNode []]]) | (.inr r) => (.ret, (bz 4 ((vI r) :: bz 14 [])), [.box 25 (cNode n_0), .box 9 [strV name_1], .box 25 [strV [], Ty.sl tProp [], Ty.sl tNode []]])) () (by kernel_rfl) (by kernel_rfl) (kill_go (mid := (Ty.sl tNode n_0.kids :: .fn 51 [.ref 1 0 0] :: bz 5 (.sc (.int .i64 (n_0.kids.length : Int)) :: (vI 0) :: bz 10 []))) (by kernel_rfl) (mC (sl_scrub tNode _ _) (mC (sFn (lC (by kernel_rfl) lN)) (mZ 5 (mC (by kernel_rfl) (mC (by kernel_rfl) (mZ 10 mN))))))) (cut_go (mid := [.box 25 (cNode n_0), .box 9 [strV name_1], .box 25 [strV [], .sc (.slice none 0 0), .sc (.slice none 0 0)]]) (by kernel_rfl) (oC (oB (lC (by kernel_rfl) (lC (sl_scrub tProp _ _) (lC (sl_scrub tNode _ _) lN)))) (oC (oB (lC (by kernel_rfl) lN)) (oC (oB (lC (by kernel_rfl) (lC (by kernel_rfl) (lC (by kernel_rfl) lN)))) oN)))) ?_ ?_
  · rintro v1 _ y h
    unfold path_Kid_l1 at h
    refine J_seq ?_
    refine J_region ?_
    refine JS_end (Ty.sl tNode n_0.kids :: .fn 51 [.ref 1 0 0] :: bz 5 (.sc (.int .i64 (n_0.kids.length : Int)) :: (vI v1) :: .sc (.bool (decide (v1 < (n_0.kids.length : Int)))) :: bz 9 [])) [.box 25 (cNode n_0), .box 9 [strV name_1], .box 25 [strV [], Ty.sl tProp [], Ty.sl tNode []]] (by kernel_rfl) ?_
    refine JK_sq ?_
    refine J_seq ?_
    rcases bool_cases (decide (v1 < (n_0.kids.length : Int))) with h2 | h2
    · rw [if_pos h2] at h
      refine J_condT (v := (decide (v1 < (n_0.kids.length : Int)))) (by kernel_rfl) h2 ?_
      refine J_skip ?_
      refine JK_sq ?_
      refine J_seq ?_
      refine J_block ?_
      refine J_seq ?_
      refine J_region ?_
      refine JS_end (Ty.sl tNode n_0.kids :: .fn 51 [.ref 1 0 0] :: .bad :: .bad :: .bad :: (vI v1) :: .bad :: .sc (.int .i64 (n_0.kids.length : Int)) :: (vI v1) :: .sc (.bool (decide (v1 < (n_0.kids.length : Int)))) :: (vI v1) :: bz 8 []) [.box 25 (cNode n_0), .box 9 [strV name_1], .box 25 [strV [], Ty.sl tProp [], Ty.sl tNode []]] (by kernel_rfl) ?_
      refine JK_sq ?_
      refine J_seq ?_
      refine J_region ?_
      refine JS_seg 3 (Ty.sl tNode n_0.kids :: .fn 51 [.ref 1 0 0] :: .bad :: .bad :: .bad :: (vI v1) :: .bad :: .sc (.int .i64 (n_0.kids.length : Int)) :: (vI v1) :: .sc (.bool (decide (v1 < (n_0.kids.length : Int)))) :: (vI v1) :: .fn 51 [.ref 1 0 0] :: Ty.sl tNode n_0.kids :: (vI v1) :: bz 5 []) [.box 25 (cNode n_0), .box 9 [strV name_1], .box 25 [strV [], Ty.sl tProp [], Ty.sl tNode []]] (by kernel_rfl) ?_
      obtain ⟨x3, h4, h⟩ := Option.bind_eq_some_iff.1 h
      refine JS_val (fun s => aindexAddr E0.tb s 23 (Ty.sl tNode n_0.kids) ((vI v1))) (by kernel_rfl) (sl_addr tNode tb_23 rfl tb_25 rfl h4) ?_
      refine JS_seg 4 (Ty.sl tNode n_0.kids :: .fn 51 [.ref 1 0 0] :: .bad :: .bad :: .bad :: (vI v1) :: .bad :: .sc (.int .i64 (n_0.kids.length : Int)) :: (vI v1) :: .sc (.bool (decide (v1 < (n_0.kids.length : Int)))) :: (vI v1) :: .fn 51 [.ref 1 0 0] :: Ty.sl tNode n_0.kids :: (vI v1) :: .fp (List.flatMap (Ty.cells tNode) n_0.kids) (v1.toNat * Ty.size tNode) :: bz 4 []) [.box 25 (cNode n_0), .box 9 [strV name_1], .box 25 [strV [], Ty.sl tProp [], Ty.sl tNode []]] (by kernel_rfl) ?_
      refine JS_val (fun s => aload E0.tb s 25 (.fp (List.flatMap (Ty.cells tNode) n_0.kids) (v1.toNat * Ty.size tNode))) (by kernel_rfl) (fp_loadN tNode (o := 0) (vs := (cNode x3)) tb_25 rfl h4 (by decide) (by rw [tNode_cells]; rfl)) ?_
      refine JS_seg 5 [Ty.sl tNode n_0.kids, .fn 51 [.ref 1 0 0], .bad, .bad, .bad, (vI v1), .bad, .sc (.int .i64 (n_0.kids.length : Int)), (vI v1), .sc (.bool (decide (v1 < (n_0.kids.length : Int)))), (vI v1), .fn 51 [.ref 1 0 0], Ty.sl tNode n_0.kids, (vI v1), .fp (List.flatMap (Ty.cells tNode) n_0.kids) (v1.toNat * Ty.size tNode), .agg (cNode x3), .bad, .bad, .bad] [.box 25 (cNode n_0), .box 9 [strV name_1], .box 25 [strV [], Ty.sl tProp [], Ty.sl tNode []]] (by kernel_rfl) ?_
      refine JS_call (av := [.agg (cNode x3), .ref 1 0 0]) (av' := (.agg (cNode x3) :: .ref 1 0 0 :: bz 6 [])) (n0 := 3) (by kernel_rfl) rfl fn_51 rfl (nP2 (nP1 rfl)) rfl rfl rfl rfl (has_go (as1 := [.agg (cNode x3), .ref 1 0 0]) (lC (sAgg (lC (by kernel_rfl) (lC (sl_scrub tProp _ _) (lC (sl_scrub tNode _ _) lN)))) (lC (by kernel_rfl) lN)) (by kernel_rfl)) ?_
      refine J_seq ?_
      refine J_region ?_
      refine JS_end (.agg (cNode x3) :: .ref 1 0 0 :: .ref 3 0 0 :: (vB false) :: bz 4 []) [.box 25 (cNode n_0), .box 9 [strV name_1], .box 25 [strV [], Ty.sl tProp [], Ty.sl tNode []], .box 25 (cNode x3)] (by kernel_rfl) ?_
      refine JK_sq ?_
      refine J_seq ?_
      refine J_region ?_
      refine JS_seg 3 [.agg (cNode x3), .ref 1 0 0, .ref 3 0 0, (vB false), .ref 3 0 0, strV x3.name, strV name_1, .bad] [.box 25 (cNode n_0), .box 9 [strV name_1], .box 25 [strV [], Ty.sl tProp [], Ty.sl tNode []], .box 25 (cNode x3)] (by kernel_rfl) ?_
      refine JS_val (fun s => abin E0.tb s .eql 9 (strV x3.name) (strV name_1)) (by kernel_rfl) (str_eq x3.name name_1) ?_
      refine JS_end [.agg (cNode x3), .ref 1 0 0, .ref 3 0 0, .sc (.bool (x3.name == name_1)), .ref 3 0 0, strV x3.name, strV name_1, .sc (.bool (x3.name == name_1))] [.box 25 (cNode n_0), .box 9 [strV name_1], .box 25 [strV [], Ty.sl tProp [], Ty.sl tNode []], .box 25 (cNode x3)] (by kernel_rfl) ?_
      refine JK_sq ?_
      refine J_ret ?_
      refine JK_nil ?_
      refine ret_M (r := .sc (.bool (x3.name == name_1))) (r' := .sc (.bool (x3.name == name_1))) (st2 := [.box 25 (cNode n_0), .box 9 [strV name_1], .box 25 [strV [], Ty.sl tProp [], Ty.sl tNode []]]) (.inl rfl) (by kernel_rfl) (by kernel_rfl) (cut_go (mid := [.box 25 (cNode n_0), .box 9 [strV name_1], .box 25 [strV [], Ty.sl tProp [], Ty.sl tNode []]]) (by kernel_rfl) (oC (oB (lC (by kernel_rfl) (lC (sl_scrub tProp _ _) (lC (sl_scrub tNode _ _) lN)))) (oC (oB (lC (by kernel_rfl) lN)) (oC (oB (lC (by kernel_rfl) (lC (sl_scrub tProp _ _) (lC (sl_scrub tNode _ _) lN)))) oN)))) ?_
      refine JS_end [Ty.sl tNode n_0.kids, .fn 51 [.ref 1 0 0], .bad, .bad, .bad, (vI v1), .bad, .sc (.int .i64 (n_0.kids.length : Int)), (vI v1), .sc (.bool (decide (v1 < (n_0.kids.length : Int)))), (vI v1), .fn 51 [.ref 1 0 0], Ty.sl tNode n_0.kids, (vI v1), .fp (List.flatMap (Ty.cells tNode) n_0.kids) (v1.toNat * Ty.size tNode), .agg (cNode x3), .sc (.bool (x3.name == name_1)), .bad, .bad] [.box 25 (cNode n_0), .box 9 [strV name_1], .box 25 [strV [], Ty.sl tProp [], Ty.sl tNode []]] (by kernel_rfl) ?_
      refine JK_sq ?_
      rcases bool_cases (x3.name == name_1) with h5 | h5
      · rw [if_pos h5] at h
        refine J_condT (v := (x3.name == name_1)) (by kernel_rfl) h5 ?_
        refine J_seq ?_
        refine J_region ?_
        refine JS_end [Ty.sl tNode n_0.kids, .fn 51 [.ref 1 0 0], .bad, .bad, (vI v1), (vI v1), .bad, .sc (.int .i64 (n_0.kids.length : Int)), (vI v1), .sc (.bool (decide (v1 < (n_0.kids.length : Int)))), (vI v1), .fn 51 [.ref 1 0 0], Ty.sl tNode n_0.kids, (vI v1), .fp (List.flatMap (Ty.cells tNode) n_0.kids) (v1.toNat * Ty.size tNode), .agg (cNode x3), .sc (.bool (x3.name == name_1)), (vI v1), .bad] [.box 25 (cNode n_0), .box 9 [strV name_1], .box 25 [strV [], Ty.sl tProp [], Ty.sl tNode []]] (by kernel_rfl) ?_
        refine JK_sq ?_
        refine J_ret ?_
        refine JK_bl_ret ?_
        refine JK_sq_ret ?_
        refine JK_nil ?_
        obtain rfl := Option.some.inj h
        exact turn_ret (tm' := (bz 4 ((vI v1) :: bz 14 []))) (st' := [.box 25 (cNode n_0), .box 9 [strV name_1], .box 25 [strV [], Ty.sl tProp [], Ty.sl tNode []]]) () (kill_go (mid := (bz 4 ((vI v1) :: bz 14 []))) (by kernel_rfl) (mZ 4 (mC (by kernel_rfl) (mZ 14 mN)))) (cut_go (mid := [.box 25 (cNode n_0), .box 9 [strV name_1], .box 25 [strV [], Ty.sl tProp [], Ty.sl tNode []]]) (by kernel_rfl) (oC (oB (lC (by kernel_rfl) (lC (sl_scrub tProp _ _) (lC (sl_scrub tNode _ _) lN)))) (oC (oB (lC (by kernel_rfl) lN)) (oC (oB (lC (by kernel_rfl) (lC (sl_scrub tProp _ _) (lC (sl_scrub tNode _ _) lN)))) oN)))) (by kernel_rfl)
      · rw [if_neg (ne_true h5)] at h
        refine J_condF (v := (x3.name == name_1)) (by kernel_rfl) h5 ?_
        refine J_skip ?_
        refine JK_bl ?_
        refine JK_sq ?_
        refine J_region ?_
        refine JS_end [Ty.sl tNode n_0.kids, .fn 51 [.ref 1 0 0], .bad, .bad, .bad, (vI v1), .bad, .sc (.int .i64 (n_0.kids.length : Int)), .sc (.int .i64 (IntKind.wrap .i64 (v1 + 1))), .sc (.bool (decide (v1 < (n_0.kids.length : Int)))), (vI v1), .fn 51 [.ref 1 0 0], Ty.sl tNode n_0.kids, (vI v1), .fp (List.flatMap (Ty.cells tNode) n_0.kids) (v1.toNat * Ty.size tNode), .agg (cNode x3), .sc (.bool (x3.name == name_1)), .bad, .sc (.int .i64 (IntKind.wrap .i64 (v1 + 1)))] [.box 25 (cNode n_0), .box 9 [strV name_1], .box 25 [strV [], Ty.sl tProp [], Ty.sl tNode []]] (by kernel_rfl) ?_
        refine JK_nil ?_
        obtain rfl := Option.some.inj h
        exact turn_next () (kill_go (mid := (Ty.sl tNode n_0.kids :: .fn 51 [.ref 1 0 0] :: bz 5 (.sc (.int .i64 (n_0.kids.length : Int)) :: .sc (.int .i64 (IntKind.wrap .i64 (v1 + 1))) :: bz 10 []))) (by kernel_rfl) (mC (sl_scrub tNode _ _) (mC (sFn (lC (by kernel_rfl) lN)) (mZ 5 (mC (by kernel_rfl) (mC (by kernel_rfl) (mZ 10 mN))))))) (cut_go (mid := [.box 25 (cNode n_0), .box 9 [strV name_1], .box 25 [strV [], Ty.sl tProp [], Ty.sl tNode []]]) (by kernel_rfl) (oC (oB (lC (by kernel_rfl) (lC (sl_scrub tProp _ _) (lC (sl_scrub tNode _ _) lN)))) (oC (oB (lC (by kernel_rfl) lN)) (oC (oB (lC (by kernel_rfl) (lC (sl_scrub tProp _ _) (lC (sl_scrub tNode _ _) lN)))) oN))))
    · rw [if_neg (ne_true h2)] at h
      refine J_condF (v := (decide (v1 < (n_0.kids.length : Int)))) (by kernel_rfl) h2 ?_
      refine J_exit ?_
      refine JK_sq_exit ?_
      refine JK_nil ?_
      obtain rfl := Option.some.inj h
      exact turn_exit (tm' := (bz 19 [])) (st' := [.box 25 (cNode n_0), .box 9 [strV name_1], .box 25 [strV [], Ty.sl tProp [], Ty.sl tNode []]]) () (kill_go (mid := (bz 19 [])) (by kernel_rfl) (mZ 19 mN)) (cut_go (mid := [.box 25 (cNode n_0), .box 9 [strV name_1], .box 25 [strV [], Ty.sl tProp [], Ty.sl tNode []]]) (by kernel_rfl) (oC (oB (lC (by kernel_rfl) (lC (sl_scrub tProp _ _) (lC (sl_scrub tNode _ _) lN)))) (oC (oB (lC (by kernel_rfl) lN)) (oC (oB (lC (by kernel_rfl) (lC (sl_scrub tProp _ _) (lC (sl_scrub tNode _ _) lN)))) oN)))) (by kernel_rfl)
  · intro g_
    rcases r6 with r8 | r9
    · dsimp only at h
      refine (show JK _ _ _ _ (.exit 0, (bz 19 []), [.box 25 (cNode n_0), .box 9 [strV name_1], .box 25 [strV [], Ty.sl tProp [], Ty.sl tNode []]]) from ?_)
      refine JK_bl_hit ?_
      refine JK_sq ?_
      refine J_seq ?_
      refine J_region ?_
      refine JS_end (bz 4 (.sc (.int .i64 (-1)) :: bz 14 [])) [.box 25 (cNode n_0), .box 9 [strV name_1], .box 25 [strV [], Ty.sl tProp [], Ty.sl tNode []]] (by kernel_rfl) ?_
      refine JK_sq ?_
      refine J_ret ?_
      refine JK_nil ?_
      refine ret_M (r := .sc (.int .i64 (-1))) (r' := .sc (.int .i64 (-1))) (st2 := [.box 25 (cNode n_0), .box 9 [strV name_1], .box 25 [strV [], Ty.sl tProp [], Ty.sl tNode []]]) (.inl rfl) (by kernel_rfl) (by kernel_rfl) (cut_go (mid := [.box 25 (cNode n_0), .box 9 [strV name_1], .box 25 [strV [], Ty.sl tProp [], Ty.sl tNode []]]) (by kernel_rfl) (oC (oB (lC (by kernel_rfl) (lC (sl_scrub tProp _ _) (lC (sl_scrub tNode _ _) lN)))) (oC (oB (lC (by kernel_rfl) lN)) (oC (oB (lC (by kernel_rfl) (lC (sl_scrub tProp _ _) (lC (sl_scrub tNode _ _) lN)))) oN)))) ?_
      refine JS_end (.agg (cNode n_0) :: strV name_1 :: .ref 0 0 0 :: .ref 1 0 0 :: .ref 2 0 0 :: (vB false) :: .sc (.int .i64 (-1)) :: .ref 0 0 2 :: Ty.sl tNode n_0.kids :: .fn 51 [.ref 1 0 0] :: .sc (.int .i64 (-1)) :: bz 8 []) [.box 25 (cNode n_0), .box 9 [strV name_1], .box 25 [strV [], Ty.sl tProp [], Ty.sl tNode []]] (by kernel_rfl) ?_
      refine JK_sq ?_
      refine J_seq ?_
      refine J_seq ?_
      refine J_region ?_
      refine JS_end (.agg (cNode n_0) :: strV name_1 :: .ref 0 0 0 :: .ref 1 0 0 :: .ref 2 0 0 :: (vB false) :: .sc (.int .i64 (-1)) :: .ref 0 0 2 :: Ty.sl tNode n_0.kids :: .fn 51 [.ref 1 0 0] :: .sc (.int .i64 (-1)) :: .sc (.int .i64 (-1)) :: (vB true) :: bz 6 []) [.box 25 (cNode n_0), .box 9 [strV name_1], .box 25 [strV [], Ty.sl tProp [], Ty.sl tNode []]] (by kernel_rfl) ?_
      refine JK_sq ?_
      refine J_condT (v := true) (by kernel_rfl) rfl ?_
      refine J_seq ?_
      refine J_region ?_
      refine JS_end (.agg (cNode n_0) :: strV name_1 :: .ref 0 0 0 :: .ref 1 0 0 :: .ref 2 0 0 :: (vB false) :: .sc (.int .i64 (-1)) :: .ref 0 0 2 :: Ty.sl tNode n_0.kids :: .fn 51 [.ref 1 0 0] :: .sc (.int .i64 (-1)) :: .sc (.int .i64 (-1)) :: (vB true) :: .agg [strV [], .sc (.slice none 0 0), .sc (.slice none 0 0)] :: bz 5 []) [.box 25 (cNode n_0), .box 9 [strV name_1], .box 25 [strV [], .sc (.slice none 0 0), .sc (.slice none 0 0)]] (by kernel_rfl) ?_
      refine JK_sq ?_
      refine J_ret ?_
      refine JK_sq_ret ?_
      refine JK_nil ?_
      obtain rfl := Option.some.inj h
      exact ret_A (r := .tup [.agg [strV [], .sc (.slice none 0 0), .sc (.slice none 0 0)], (vB false)]) (r' := .tup [.agg [strV [], Ty.sl tProp [], Ty.sl tNode []], (vB false)]) (.inl rfl) (by kernel_rfl) (fTup (fC (fAgg (fC (by kernel_rfl) (fC (by kernel_rfl) (fC (by kernel_rfl) fN)))) (fC (by kernel_rfl) fN))) (pTup (pC (pAgg (pC rfl (pC (sl_pure tProp _) (pC (sl_pure tNode _) pN)))) (pC rfl pN))) ⟨by kernel_rfl, rfl⟩
    · dsimp only at h
      refine (show JK _ _ _ _ (.ret, (bz 4 ((vI r9) :: bz 14 [])), [.box 25 (cNode n_0), .box 9 [strV name_1], .box 25 [strV [], Ty.sl tProp [], Ty.sl tNode []]]) from ?_)
      refine JK_bl_ret ?_
      refine JK_sq_ret ?_
      refine JK_nil ?_
      refine ret_M (r := (vI r9)) (r' := (vI r9)) (st2 := [.box 25 (cNode n_0), .box 9 [strV name_1], .box 25 [strV [], Ty.sl tProp [], Ty.sl tNode []]]) (.inl rfl) (by kernel_rfl) (by kernel_rfl) (cut_go (mid := [.box 25 (cNode n_0), .box 9 [strV name_1], .box 25 [strV [], Ty.sl tProp [], Ty.sl tNode []]]) (by kernel_rfl) (oC (oB (lC (by kernel_rfl) (lC (sl_scrub tProp _ _) (lC (sl_scrub tNode _ _) lN)))) (oC (oB (lC (by kernel_rfl) lN)) (oC (oB (lC (by kernel_rfl) (lC (sl_scrub tProp _ _) (lC (sl_scrub tNode _ _) lN)))) oN)))) ?_
      refine JS_end (.agg (cNode n_0) :: strV name_1 :: .ref 0 0 0 :: .ref 1 0 0 :: .ref 2 0 0 :: (vB false) :: (vI r9) :: .ref 0 0 2 :: Ty.sl tNode n_0.kids :: .fn 51 [.ref 1 0 0] :: (vI r9) :: bz 8 []) [.box 25 (cNode n_0), .box 9 [strV name_1], .box 25 [strV [], Ty.sl tProp [], Ty.sl tNode []]] (by kernel_rfl) ?_
      refine JK_sq ?_
      refine J_seq ?_
      refine J_seq ?_
      refine J_region ?_
      refine JS_end (.agg (cNode n_0) :: strV name_1 :: .ref 0 0 0 :: .ref 1 0 0 :: .ref 2 0 0 :: (vB false) :: (vI r9) :: .ref 0 0 2 :: Ty.sl tNode n_0.kids :: .fn 51 [.ref 1 0 0] :: (vI r9) :: (vI r9) :: .sc (.bool (decide (r9 < 0))) :: bz 6 []) [.box 25 (cNode n_0), .box 9 [strV name_1], .box 25 [strV [], Ty.sl tProp [], Ty.sl tNode []]] (by kernel_rfl) ?_
      refine JK_sq ?_
      rcases bool_cases (decide (r9 < 0)) with h10 | h10
      · rw [if_pos h10] at h
        refine J_condT (v := (decide (r9 < 0))) (by kernel_rfl) h10 ?_
        refine J_seq ?_
        refine J_region ?_
        refine JS_end (.agg (cNode n_0) :: strV name_1 :: .ref 0 0 0 :: .ref 1 0 0 :: .ref 2 0 0 :: (vB false) :: (vI r9) :: .ref 0 0 2 :: Ty.sl tNode n_0.kids :: .fn 51 [.ref 1 0 0] :: (vI r9) :: (vI r9) :: .sc (.bool (decide (r9 < 0))) :: .agg [strV [], .sc (.slice none 0 0), .sc (.slice none 0 0)] :: bz 5 []) [.box 25 (cNode n_0), .box 9 [strV name_1], .box 25 [strV [], .sc (.slice none 0 0), .sc (.slice none 0 0)]] (by kernel_rfl) ?_
        refine JK_sq ?_
        refine J_ret ?_
        refine JK_sq_ret ?_
        refine JK_nil ?_
        obtain rfl := Option.some.inj h
        exact ret_A (r := .tup [.agg [strV [], .sc (.slice none 0 0), .sc (.slice none 0 0)], (vB false)]) (r' := .tup [.agg [strV [], Ty.sl tProp [], Ty.sl tNode []], (vB false)]) (.inl rfl) (by kernel_rfl) (fTup (fC (fAgg (fC (by kernel_rfl) (fC (by kernel_rfl) (fC (by kernel_rfl) fN)))) (fC (by kernel_rfl) fN))) (pTup (pC (pAgg (pC rfl (pC (sl_pure tProp _) (pC (sl_pure tNode _) pN)))) (pC rfl pN))) ⟨by kernel_rfl, rfl⟩
      · rw [if_neg (ne_true h10)] at h
        refine J_condF (v := (decide (r9 < 0))) (by kernel_rfl) h10 ?_
        refine J_skip ?_
        refine JK_sq ?_
        refine J_seq ?_
        refine J_region ?_
        refine JS_seg 3 [.agg (cNode n_0), strV name_1, .ref 0 0 0, .ref 1 0 0, .ref 2 0 0, (vB false), (vI r9), .ref 0 0 2, Ty.sl tNode n_0.kids, .fn 51 [.ref 1 0 0], (vI r9), (vI r9), .sc (.bool (decide (r9 < 0))), .bad, .ref 0 0 2, Ty.sl tNode n_0.kids, (vI r9), .bad, .bad] [.box 25 (cNode n_0), .box 9 [strV name_1], .box 25 [strV [], Ty.sl tProp [], Ty.sl tNode []]] (by kernel_rfl) ?_
        obtain ⟨x11, h12, h⟩ := Option.bind_eq_some_iff.1 h
        refine JS_val (fun s => aindexAddr E0.tb s 23 (Ty.sl tNode n_0.kids) ((vI r9))) (by kernel_rfl) (sl_addr tNode tb_23 rfl tb_25 rfl h12) ?_
        refine JS_seg 4 [.agg (cNode n_0), strV name_1, .ref 0 0 0, .ref 1 0 0, .ref 2 0 0, (vB false), (vI r9), .ref 0 0 2, Ty.sl tNode n_0.kids, .fn 51 [.ref 1 0 0], (vI r9), (vI r9), .sc (.bool (decide (r9 < 0))), .bad, .ref 0 0 2, Ty.sl tNode n_0.kids, (vI r9), .fp (List.flatMap (Ty.cells tNode) n_0.kids) (r9.toNat * Ty.size tNode), .bad] [.box 25 (cNode n_0), .box 9 [strV name_1], .box 25 [strV [], Ty.sl tProp [], Ty.sl tNode []]] (by kernel_rfl) ?_
        refine JS_val (fun s => aload E0.tb s 25 (.fp (List.flatMap (Ty.cells tNode) n_0.kids) (r9.toNat * Ty.size tNode))) (by kernel_rfl) (fp_loadN tNode (o := 0) (vs := (cNode x11)) tb_25 rfl h12 (by decide) (by rw [tNode_cells]; rfl)) ?_
        refine JS_end [.agg (cNode n_0), strV name_1, .ref 0 0 0, .ref 1 0 0, .ref 2 0 0, (vB true), (vI r9), .ref 0 0 2, Ty.sl tNode n_0.kids, .fn 51 [.ref 1 0 0], (vI r9), (vI r9), .sc (.bool (decide (r9 < 0))), .bad, .ref 0 0 2, Ty.sl tNode n_0.kids, (vI r9), .fp (List.flatMap (Ty.cells tNode) n_0.kids) (r9.toNat * Ty.size tNode), .agg (cNode x11)] [.box 25 (cNode n_0), .box 9 [strV name_1], .box 25 (cNode x11)] (by kernel_rfl) ?_
        refine JK_sq ?_
        refine J_ret ?_
        refine JK_nil ?_
        obtain rfl := Option.some.inj h
        exact ret_A (r := .tup [.agg (cNode x11), (vB true)]) (r' := .tup [.agg (cNode x11), (vB true)]) (.inl rfl) (by kernel_rfl) (fTup (fC (fAgg (fC (by kernel_rfl) (fC (sl_frz tProp _ _ _ _) (fC (sl_frz tNode _ _ _ _) fN)))) (fC (by kernel_rfl) fN))) (pTup (pC (pAgg (pC rfl (pC (sl_pure tProp _) (pC (sl_pure tNode _) pN)))) (pC rfl pN))) ⟨by kernel_rfl, rfl⟩

theorem path_Find_C (n_0 : GNode) (path_1 : Str) (r : GNode × Bool) (st : Store) (h : path_Find n_0 path_1 = some r) : fcall E0 11 [.agg (cNode n_0), strV path_1] st = some (.tup [.agg (cNode r.1), .sc (.bool r.2)], st) := by
  unfold path_Find at h
  refine fn_alone (fn := Tryd.f11) (av' := (.agg (cNode n_0) :: strV path_1 :: bz 31 [])) rfl fn_11 rfl (pC (pAgg (pC rfl (pC (sl_pure tProp _) (pC (sl_pure tNode _) pN)))) (pC rfl pN)) rfl rfl rfl (has_go (as1 := [.agg (cNode n_0), strV path_1]) (lC (sAgg (lC (by kernel_rfl) (lC (sl_scrub tProp _ _) (lC (sl_scrub tNode _ _) lN)))) (lC (by kernel_rfl) lN)) (by kernel_rfl)) ?_
  refine J_seq ?_
  refine J_region ?_
  refine JS_end (.agg (cNode n_0) :: strV path_1 :: .ref 0 0 0 :: .bad :: .ref 1 0 0 :: (vB false) :: bz 27 []) [.box 25 (cNode n_0), .box 25 [strV [], .sc (.slice none 0 0), .sc (.slice none 0 0)]] (by kernel_rfl) ?_
  refine JK_sq ?_
  refine J_seq ?_
  refine J_region ?_
  refine JS_seg 1 (.agg (cNode n_0) :: strV path_1 :: .ref 0 0 0 :: .bad :: .ref 1 0 0 :: (vB false) :: bz 5 (strV path_1 :: bz 21 [])) [.box 25 (cNode n_0), .box 25 [strV [], .sc (.slice none 0 0), .sc (.slice none 0 0)]] (by kernel_rfl) ?_
  obtain ⟨r1, h2, h⟩ := Option.bind_eq_some_iff.1 h
  refine JS_upd (fun s => fcall E0 22 [strV path_1] s) (by kernel_rfl) (path_Parts_C path_1 _ _ h2) ?_
  refine JS_end (.agg (cNode n_0) :: strV path_1 :: .ref 0 0 0 :: .bad :: .ref 1 0 0 :: (vB false) :: Ty.sl tS r1.1 :: .sc (.bool r1.2) :: .bad :: .bad :: .tup [Ty.sl tS r1.1, .sc (.bool r1.2)] :: strV path_1 :: .tup [Ty.sl tS r1.1, .sc (.bool r1.2)] :: Ty.sl tS r1.1 :: .sc (.bool r1.2) :: bz 18 []) [.box 25 (cNode n_0), .box 25 [strV [], .sc (.slice none 0 0), .sc (.slice none 0 0)]] (by kernel_rfl) ?_
  refine JK_sq ?_
  refine J_seq ?_
  refine J_seq ?_
  refine J_region ?_
  refine JS_end (.agg (cNode n_0) :: strV path_1 :: .ref 0 0 0 :: .bad :: .ref 1 0 0 :: (vB false) :: Ty.sl tS r1.1 :: .sc (.bool r1.2) :: .bad :: .bad :: .tup [Ty.sl tS r1.1, .sc (.bool r1.2)] :: strV path_1 :: .tup [Ty.sl tS r1.1, .sc (.bool r1.2)] :: Ty.sl tS r1.1 :: .sc (.bool r1.2) :: Ty.sl tS r1.1 :: .sc (.int .i64 (r1.1.length : Int)) :: (vI 0) :: bz 15 []) [.box 25 (cNode n_0), .box 25 [strV [], .sc (.slice none 0 0), .sc (.slice none 0 0)]] (by kernel_rfl) ?_
  refine JK_sq ?_
  refine J_block ?_
  obtain ⟨r14, h15, h⟩ := Option.bind_eq_some_iff.1 h
  refine J_loop (γ := Unit) h15 2 (.agg (cNode n_0) :: strV path_1 :: .ref 0 0 0 :: .bad :: .ref 1 0 0 :: (vB false) :: Ty.sl tS r1.1 :: .sc (.bool r1.2) :: .bad :: .bad :: .tup [Ty.sl tS r1.1, .sc (.bool r1.2)] :: strV path_1 :: .tup [Ty.sl tS r1.1, .sc (.bool r1.2)] :: Ty.sl tS r1.1 :: .sc (.bool r1.2) :: Ty.sl tS r1.1 :: .sc (.int .i64 (r1.1.length : Int)) :: (vI 0) :: bz 15 []) [.box 25 (cNode n_0), .box 25 [strV [], .sc (.slice none 0 0), .sc (.slice none 0 0)]] (fun s g => (.bad :: .bad :: .ref 0 0 0 :: .bad :: .ref 1 0 0 :: .bad :: .bad :: .sc (.bool s.1) :: bz 7 (Ty.sl tS r1.1 :: .sc (.int .i64 (r1.1.length : Int)) :: .sc (.int .i64 s.2.1) :: bz 15 []))) (fun s g => [.box 25 [strV s.2.2.1, Ty.sl tProp s.2.2.2.1, Ty.sl tNode s.2.2.2.2], .box 25 [strV [], Ty.sl tProp [], Ty.sl tNode []]]) (fun r g => (.exit 0, (.bad :: .bad :: .ref 0 0 0 :: .bad :: .ref 1 0 0 :: .bad :: .bad :: .sc (.bool r.1) :: bz 25 []), [.box 25 [strV r.2.1, Ty.sl tProp r.2.2.1, Ty.sl tNode r.2.2.2], .box 25 [strV [], Ty.sl tProp [], Ty.sl tNode []]])) () (by kernel_rfl) (by kernel_rfl) (kill_go (mid := (.bad :: .bad :: .ref 0 0 0 :: .bad :: .ref 1 0 0 :: .bad :: .bad :: .sc (.bool r1.2) :: bz 7 (Ty.sl tS r1.1 :: .sc (.int .i64 (r1.1.length : Int)) :: (vI 0) :: bz 15 []))) (by kernel_rfl) (mB (mB (mC (by kernel_rfl) (mB (mC (by kernel_rfl) (mB (mB (mC (by kernel_rfl) (mZ 7 (mC (sl_scrub tS _ _) (mC (by kernel_rfl) (mC (by kernel_rfl) (mZ 15 mN)))))))))))))) (cut_go (mid := [.box 25 (cNode n_0), .box 25 [strV [], .sc (.slice none 0 0), .sc (.slice none 0 0)]]) (by kernel_rfl) (oC (oB (lC (by kernel_rfl) (lC (sl_scrub tProp _ _) (lC (sl_scrub tNode _ _) lN)))) (oC (oB (lC (by kernel_rfl) (lC (by kernel_rfl) (lC (by kernel_rfl) lN)))) oN))) ?_ ?_
  · rintro ⟨v3, v4, v5, v6, v7⟩ _ y h
    unfold path_Find_l1 at h
    dsimp only at h
    refine J_seq ?_
    refine J_region ?_
    refine JS_end (.bad :: .bad :: .ref 0 0 0 :: .bad :: .ref 1 0 0 :: .bad :: .bad :: (vB v3) :: bz 7 (Ty.sl tS r1.1 :: .sc (.int .i64 (r1.1.length : Int)) :: (vI v4) :: .sc (.bool (decide (v4 < (r1.1.length : Int)))) :: bz 14 [])) [.box 25 [strV v5, Ty.sl tProp v6, Ty.sl tNode v7], .box 25 [strV [], Ty.sl tProp [], Ty.sl tNode []]] (by kernel_rfl) ?_
    refine JK_sq ?_
    refine J_seq ?_
    rcases bool_cases (decide (v4 < (r1.1.length : Int))) with h8 | h8
    · rw [if_pos h8] at h
      refine J_condT (v := (decide (v4 < (r1.1.length : Int)))) (by kernel_rfl) h8 ?_
      refine J_skip ?_
      refine JK_sq ?_
      refine J_seq ?_
      refine J_block ?_
      refine J_seq ?_
      refine J_region ?_
      refine JS_seg 0 (.bad :: .bad :: .ref 0 0 0 :: .bad :: .ref 1 0 0 :: .bad :: .bad :: (vB v3) :: bz 7 (Ty.sl tS r1.1 :: .sc (.int .i64 (r1.1.length : Int)) :: (vI v4) :: .sc (.bool (decide (v4 < (r1.1.length : Int)))) :: bz 14 [])) [.box 25 [strV v5, Ty.sl tProp v6, Ty.sl tNode v7], .box 25 [strV [], Ty.sl tProp [], Ty.sl tNode []]] (by kernel_rfl) ?_
      obtain ⟨x9, h10, h⟩ := Option.bind_eq_some_iff.1 h
      refine JS_val (fun s => aindexAddr E0.tb s 37 (Ty.sl tS r1.1) ((vI v4))) (by kernel_rfl) (sl_addr tS tb_37 rfl tb_9 rfl h10) ?_
      refine JS_seg 1 (.bad :: .bad :: .ref 0 0 0 :: .bad :: .ref 1 0 0 :: .bad :: .bad :: (vB v3) :: bz 7 (Ty.sl tS r1.1 :: .sc (.int .i64 (r1.1.length : Int)) :: (vI v4) :: .sc (.bool (decide (v4 < (r1.1.length : Int)))) :: .fp (List.flatMap (Ty.cells tS) r1.1) (v4.toNat * Ty.size tS) :: bz 13 [])) [.box 25 [strV v5, Ty.sl tProp v6, Ty.sl tNode v7], .box 25 [strV [], Ty.sl tProp [], Ty.sl tNode []]] (by kernel_rfl) ?_
      refine JS_val (fun s => aload E0.tb s 9 (.fp (List.flatMap (Ty.cells tS) r1.1) (v4.toNat * Ty.size tS))) (by kernel_rfl) (fp_load1 tS (o := 0) tb_9 rfl h10 (rfl)) ?_
      refine JS_end (.bad :: .bad :: .ref 0 0 0 :: .bad :: .ref 1 0 0 :: .bad :: .bad :: (vB v3) :: .bad :: strV x9 :: bz 5 (Ty.sl tS r1.1 :: .sc (.int .i64 (r1.1.length : Int)) :: (vI v4) :: .sc (.bool (decide (v4 < (r1.1.length : Int)))) :: .fp (List.flatMap (Ty.cells tS) r1.1) (v4.toNat * Ty.size tS) :: strV x9 :: bz 12 [])) [.box 25 [strV v5, Ty.sl tProp v6, Ty.sl tNode v7], .box 25 [strV [], Ty.sl tProp [], Ty.sl tNode []]] (by kernel_rfl) ?_
      refine JK_sq ?_
      refine J_seq ?_
      refine J_region ?_
      refine JS_end (.bad :: .bad :: .ref 0 0 0 :: .bad :: .ref 1 0 0 :: .bad :: .bad :: (vB v3) :: .bad :: strV x9 :: bz 5 (Ty.sl tS r1.1 :: .sc (.int .i64 (r1.1.length : Int)) :: (vI v4) :: .sc (.bool (decide (v4 < (r1.1.length : Int)))) :: .fp (List.flatMap (Ty.cells tS) r1.1) (v4.toNat * Ty.size tS) :: strV x9 :: (vB v3) :: bz 11 [])) [.box 25 [strV v5, Ty.sl tProp v6, Ty.sl tNode v7], .box 25 [strV [], Ty.sl tProp [], Ty.sl tNode []]] (by kernel_rfl) ?_
      refine JK_sq ?_
      rcases bool_cases v3 with h11 | h11
      · rw [if_pos h11] at h
        refine J_condT (v := v3) (by kernel_rfl) h11 ?_
        refine J_region ?_
        refine JS_seg 2 (.bad :: .bad :: .ref 0 0 0 :: .bad :: .ref 1 0 0 :: .bad :: .bad :: (vB v3) :: .bad :: strV x9 :: bz 5 (Ty.sl tS r1.1 :: .sc (.int .i64 (r1.1.length : Int)) :: (vI v4) :: .sc (.bool (decide (v4 < (r1.1.length : Int)))) :: .fp (List.flatMap (Ty.cells tS) r1.1) (v4.toNat * Ty.size tS) :: strV x9 :: (vB v3) :: .bad :: .agg [strV v5, Ty.sl tProp v6, Ty.sl tNode v7] :: strV x9 :: bz 8 [])) [.box 25 [strV v5, Ty.sl tProp v6, Ty.sl tNode v7], .box 25 [strV [], Ty.sl tProp [], Ty.sl tNode []]] (by kernel_rfl) ?_
        obtain ⟨r12, h13, h⟩ := Option.bind_eq_some_iff.1 h
        refine JS_upd (fun s => fcall E0 13 [.agg [strV v5, Ty.sl tProp v6, Ty.sl tNode v7], strV x9] s) (by kernel_rfl) (path_Kid_C (GNode.mk v5 v6 v7) x9 _ _ h13) ?_
        refine JS_end (.bad :: .bad :: .ref 0 0 0 :: .bad :: .ref 1 0 0 :: .bad :: .bad :: .sc (.bool r12.2) :: .bad :: strV x9 :: bz 5 (Ty.sl tS r1.1 :: .sc (.int .i64 (r1.1.length : Int)) :: (vI v4) :: .sc (.bool (decide (v4 < (r1.1.length : Int)))) :: .fp (List.flatMap (Ty.cells tS) r1.1) (v4.toNat * Ty.size tS) :: strV x9 :: (vB v3) :: .tup [.agg (cNode r12.1), .sc (.bool r12.2)] :: .agg [strV v5, Ty.sl tProp v6, Ty.sl tNode v7] :: strV x9 :: .tup [.agg (cNode r12.1), .sc (.bool r12.2)] :: .agg (cNode r12.1) :: .sc (.bool r12.2) :: bz 5 [])) [.box 25 (cNode r12.1), .box 25 [strV [], Ty.sl tProp [], Ty.sl tNode []]] (by kernel_rfl) ?_
        refine JK_bl ?_
        refine JK_sq ?_
        refine J_region ?_
        refine JS_end (.bad :: .bad :: .ref 0 0 0 :: .bad :: .ref 1 0 0 :: .bad :: .bad :: .sc (.bool r12.2) :: .bad :: strV x9 :: bz 5 (Ty.sl tS r1.1 :: .sc (.int .i64 (r1.1.length : Int)) :: .sc (.int .i64 (IntKind.wrap .i64 (v4 + 1))) :: .sc (.bool (decide (v4 < (r1.1.length : Int)))) :: .fp (List.flatMap (Ty.cells tS) r1.1) (v4.toNat * Ty.size tS) :: strV x9 :: (vB v3) :: .tup [.agg (cNode r12.1), .sc (.bool r12.2)] :: .agg [strV v5, Ty.sl tProp v6, Ty.sl tNode v7] :: strV x9 :: .tup [.agg (cNode r12.1), .sc (.bool r12.2)] :: .agg (cNode r12.1) :: .sc (.bool r12.2) :: .sc (.int .i64 (IntKind.wrap .i64 (v4 + 1))) :: bz 4 [])) [.box 25 (cNode r12.1), .box 25 [strV [], Ty.sl tProp [], Ty.sl tNode []]] (by kernel_rfl) ?_
        refine JK_nil ?_
        obtain rfl := Option.some.inj h
        exact turn_next () (kill_go (mid := (.bad :: .bad :: .ref 0 0 0 :: .bad :: .ref 1 0 0 :: .bad :: .bad :: .sc (.bool r12.2) :: bz 7 (Ty.sl tS r1.1 :: .sc (.int .i64 (r1.1.length : Int)) :: .sc (.int .i64 (IntKind.wrap .i64 (v4 + 1))) :: bz 15 []))) (by kernel_rfl) (mB (mB (mC (by kernel_rfl) (mB (mC (by kernel_rfl) (mB (mB (mC (by kernel_rfl) (mZ 7 (mC (sl_scrub tS _ _) (mC (by kernel_rfl) (mC (by kernel_rfl) (mZ 15 mN)))))))))))))) (cut_go (mid := [.box 25 (cNode r12.1), .box 25 [strV [], Ty.sl tProp [], Ty.sl tNode []]]) (by kernel_rfl) (oC (oB (lC (by kernel_rfl) (lC (sl_scrub tProp _ _) (lC (sl_scrub tNode _ _) lN)))) (oC (oB (lC (by kernel_rfl) (lC (sl_scrub tProp _ _) (lC (sl_scrub tNode _ _) lN)))) oN)))
      · rw [if_neg (ne_true h11)] at h
        refine J_condF (v := v3) (by kernel_rfl) h11 ?_
        refine J_skip ?_
        refine JK_bl ?_
        refine JK_sq ?_
        refine J_region ?_
        refine JS_end (.bad :: .bad :: .ref 0 0 0 :: .bad :: .ref 1 0 0 :: .bad :: .bad :: (vB v3) :: .bad :: strV x9 :: bz 5 (Ty.sl tS r1.1 :: .sc (.int .i64 (r1.1.length : Int)) :: .sc (.int .i64 (IntKind.wrap .i64 (v4 + 1))) :: .sc (.bool (decide (v4 < (r1.1.length : Int)))) :: .fp (List.flatMap (Ty.cells tS) r1.1) (v4.toNat * Ty.size tS) :: strV x9 :: (vB v3) :: bz 6 (.sc (.int .i64 (IntKind.wrap .i64 (v4 + 1))) :: bz 4 []))) [.box 25 [strV v5, Ty.sl tProp v6, Ty.sl tNode v7], .box 25 [strV [], Ty.sl tProp [], Ty.sl tNode []]] (by kernel_rfl) ?_
        refine JK_nil ?_
        obtain rfl := Option.some.inj h
        exact turn_next () (kill_go (mid := (.bad :: .bad :: .ref 0 0 0 :: .bad :: .ref 1 0 0 :: .bad :: .bad :: (vB v3) :: bz 7 (Ty.sl tS r1.1 :: .sc (.int .i64 (r1.1.length : Int)) :: .sc (.int .i64 (IntKind.wrap .i64 (v4 + 1))) :: bz 15 []))) (by kernel_rfl) (mB (mB (mC (by kernel_rfl) (mB (mC (by kernel_rfl) (mB (mB (mC (by kernel_rfl) (mZ 7 (mC (sl_scrub tS _ _) (mC (by kernel_rfl) (mC (by kernel_rfl) (mZ 15 mN)))))))))))))) (cut_go (mid := [.box 25 [strV v5, Ty.sl tProp v6, Ty.sl tNode v7], .box 25 [strV [], Ty.sl tProp [], Ty.sl tNode []]]) (by kernel_rfl) (oC (oB (lC (by kernel_rfl) (lC (sl_scrub tProp _ _) (lC (sl_scrub tNode _ _) lN)))) (oC (oB (lC (by kernel_rfl) (lC (sl_scrub tProp _ _) (lC (sl_scrub tNode _ _) lN)))) oN)))
    · rw [if_neg (ne_true h8)] at h
      refine J_condF (v := (decide (v4 < (r1.1.length : Int)))) (by kernel_rfl) h8 ?_
      refine J_exit ?_
      refine JK_sq_exit ?_
      refine JK_nil ?_
      obtain rfl := Option.some.inj h
      exact turn_exit (tm' := (.bad :: .bad :: .ref 0 0 0 :: .bad :: .ref 1 0 0 :: .bad :: .bad :: (vB v3) :: bz 25 [])) (st' := [.box 25 [strV v5, Ty.sl tProp v6, Ty.sl tNode v7], .box 25 [strV [], Ty.sl tProp [], Ty.sl tNode []]]) () (kill_go (mid := (.bad :: .bad :: .ref 0 0 0 :: .bad :: .ref 1 0 0 :: .bad :: .bad :: (vB v3) :: bz 25 [])) (by kernel_rfl) (mB (mB (mC (by kernel_rfl) (mB (mC (by kernel_rfl) (mB (mB (mC (by kernel_rfl) (mZ 25 mN)))))))))) (cut_go (mid := [.box 25 [strV v5, Ty.sl tProp v6, Ty.sl tNode v7], .box 25 [strV [], Ty.sl tProp [], Ty.sl tNode []]]) (by kernel_rfl) (oC (oB (lC (by kernel_rfl) (lC (sl_scrub tProp _ _) (lC (sl_scrub tNode _ _) lN)))) (oC (oB (lC (by kernel_rfl) (lC (sl_scrub tProp _ _) (lC (sl_scrub tNode _ _) lN)))) oN))) (by kernel_rfl)
  · intro g_
    refine (show JK _ _ _ _ (.exit 0, (.bad :: .bad :: .ref 0 0 0 :: .bad :: .ref 1 0 0 :: .bad :: .bad :: .sc (.bool r14.1) :: bz 25 []), [.box 25 [strV r14.2.1, Ty.sl tProp r14.2.2.1, Ty.sl tNode r14.2.2.2], .box 25 [strV [], Ty.sl tProp [], Ty.sl tNode []]]) from ?_)
    refine JK_bl_hit ?_
    refine JK_sq ?_
    refine J_seq ?_
    refine J_seq ?_
    refine J_region ?_
    refine JS_end (.bad :: .bad :: .ref 0 0 0 :: .bad :: .ref 1 0 0 :: .bad :: .bad :: .sc (.bool r14.1) :: bz 21 [.sc (.bool r14.1), .sc (.bool (!r14.1)), .bad, .bad]) [.box 25 [strV r14.2.1, Ty.sl tProp r14.2.2.1, Ty.sl tNode r14.2.2.2], .box 25 [strV [], Ty.sl tProp [], Ty.sl tNode []]] (by kernel_rfl) ?_
    refine JK_sq ?_
    rcases bool_cases (!r14.1) with h16 | h16
    · rw [if_pos h16] at h
      refine J_condT (v := (!r14.1)) (by kernel_rfl) h16 ?_
      refine J_seq ?_
      refine J_region ?_
      refine JS_end (.bad :: .bad :: .ref 0 0 0 :: .bad :: .ref 1 0 0 :: (vB false) :: .bad :: .sc (.bool r14.1) :: bz 21 [.sc (.bool r14.1), .sc (.bool (!r14.1)), .agg [strV [], .sc (.slice none 0 0), .sc (.slice none 0 0)], .bad]) [.box 25 [strV r14.2.1, Ty.sl tProp r14.2.2.1, Ty.sl tNode r14.2.2.2], .box 25 [strV [], .sc (.slice none 0 0), .sc (.slice none 0 0)]] (by kernel_rfl) ?_
      refine JK_sq ?_
      refine J_ret ?_
      refine JK_sq_ret ?_
      refine JK_nil ?_
      obtain rfl := Option.some.inj h
      exact ret_A (r := .tup [.agg [strV [], .sc (.slice none 0 0), .sc (.slice none 0 0)], (vB false)]) (r' := .tup [.agg [strV [], Ty.sl tProp [], Ty.sl tNode []], (vB false)]) (.inl rfl) (by kernel_rfl) (fTup (fC (fAgg (fC (by kernel_rfl) (fC (by kernel_rfl) (fC (by kernel_rfl) fN)))) (fC (by kernel_rfl) fN))) (pTup (pC (pAgg (pC rfl (pC (sl_pure tProp _) (pC (sl_pure tNode _) pN)))) (pC rfl pN))) ⟨by kernel_rfl, rfl⟩
    · rw [if_neg (ne_true h16)] at h
      refine J_condF (v := (!r14.1)) (by kernel_rfl) h16 ?_
      refine J_skip ?_
      refine JK_sq ?_
      refine J_seq ?_
      refine J_region ?_
      refine JS_end (.bad :: .bad :: .ref 0 0 0 :: .bad :: .ref 1 0 0 :: (vB true) :: .bad :: .sc (.bool r14.1) :: bz 21 [.sc (.bool r14.1), .sc (.bool (!r14.1)), .bad, .agg [strV r14.2.1, Ty.sl tProp r14.2.2.1, Ty.sl tNode r14.2.2.2]]) [.box 25 [strV r14.2.1, Ty.sl tProp r14.2.2.1, Ty.sl tNode r14.2.2.2], .box 25 [strV r14.2.1, Ty.sl tProp r14.2.2.1, Ty.sl tNode r14.2.2.2]] (by kernel_rfl) ?_
      refine JK_sq ?_
      refine J_ret ?_
      refine JK_nil ?_
      obtain rfl := Option.some.inj h
      exact ret_A (r := .tup [.agg [strV r14.2.1, Ty.sl tProp r14.2.2.1, Ty.sl tNode r14.2.2.2], (vB true)]) (r' := .tup [.agg [strV r14.2.1, Ty.sl tProp r14.2.2.1, Ty.sl tNode r14.2.2.2], (vB true)]) (.inl rfl) (by kernel_rfl) (fTup (fC (fAgg (fC (by kernel_rfl) (fC (sl_frz tProp _ _ _ _) (fC (sl_frz tNode _ _ _ _) fN)))) (fC (by kernel_rfl) fN))) (pTup (pC (pAgg (pC rfl (pC (sl_pure tProp _) (pC (sl_pure tNode _) pN)))) (pC rfl pN))) ⟨by kernel_rfl, rfl⟩

theorem ref12_SameProps_C (a_0 : List GProp) (b_1 : List GProp) (r : Bool) (st : Store) (h : ref12_SameProps a_0 b_1 = some r) : fcall E0 95 [Ty.sl tProp a_0, Ty.sl tProp b_1] st = some ((vB r), st) := by
  unfold ref12_SameProps at h
  refine fn_alone (fn := Tryd.f95) (av' := (Ty.sl tProp a_0 :: Ty.sl tProp b_1 :: bz 30 [])) rfl fn_95 rfl (pC (sl_pure tProp _) (pC (sl_pure tProp _) pN)) rfl rfl rfl (has_go (as1 := [Ty.sl tProp a_0, Ty.sl tProp b_1]) (lC (sl_scrub tProp _ _) (lC (sl_scrub tProp _ _) lN)) (by kernel_rfl)) ?_
  refine J_seq ?_
  refine J_region ?_
  refine JS_end (Ty.sl tProp a_0 :: Ty.sl tProp b_1 :: .bad :: .bad :: (vB false) :: bz 27 []) [] (by kernel_rfl) ?_
  refine JK_sq ?_
  refine J_seq ?_
  refine J_seq ?_
  refine J_region ?_
  refine JS_end (Ty.sl tProp a_0 :: Ty.sl tProp b_1 :: .bad :: .bad :: (vB false) :: .bad :: Ty.sl tProp a_0 :: .sc (.int .i64 (a_0.length : Int)) :: Ty.sl tProp b_1 :: .sc (.int .i64 (b_1.length : Int)) :: .sc (.bool ((a_0.length : Int) != (b_1.length : Int))) :: bz 21 []) [] (by kernel_rfl) ?_
  refine JK_sq ?_
  rcases bool_cases ((a_0.length : Int) != (b_1.length : Int)) with h1 | h1
  · rw [if_pos h1] at h
    refine J_condT (v := ((a_0.length : Int) != (b_1.length : Int))) (by kernel_rfl) h1 ?_
    refine J_seq ?_
    refine J_region ?_
    refine JS_end (Ty.sl tProp a_0 :: Ty.sl tProp b_1 :: .bad :: .bad :: (vB false) :: .bad :: Ty.sl tProp a_0 :: .sc (.int .i64 (a_0.length : Int)) :: Ty.sl tProp b_1 :: .sc (.int .i64 (b_1.length : Int)) :: .sc (.bool ((a_0.length : Int) != (b_1.length : Int))) :: bz 21 []) [] (by kernel_rfl) ?_
    refine JK_sq ?_
    refine J_ret ?_
    refine JK_sq_ret ?_
    refine JK_nil ?_
    obtain rfl := Option.some.inj h
    exact ret_A (r := (vB false)) (r' := (vB false)) (.inl rfl) (by kernel_rfl) (by kernel_rfl) rfl ⟨by kernel_rfl, rfl⟩
  · rw [if_neg (ne_true h1)] at h
    refine J_condF (v := ((a_0.length : Int) != (b_1.length : Int))) (by kernel_rfl) h1 ?_
    refine J_skip ?_
    refine JK_sq ?_
    refine J_seq ?_
    refine J_seq ?_
    refine J_region ?_
    refine JS_end (Ty.sl tProp a_0 :: Ty.sl tProp b_1 :: .bad :: .bad :: (vB false) :: (vI 0) :: Ty.sl tProp a_0 :: .sc (.int .i64 (a_0.length : Int)) :: Ty.sl tProp b_1 :: .sc (.int .i64 (b_1.length : Int)) :: .sc (.bool ((a_0.length : Int) != (b_1.length : Int))) :: bz 21 []) [] (by kernel_rfl) ?_
    refine JK_sq ?_
    refine J_block ?_
    obtain ⟨r10, h11, h⟩ := Option.bind_eq_some_iff.1 h
    refine J_loop (γ := Unit) h11 0 (Ty.sl tProp a_0 :: Ty.sl tProp b_1 :: .bad :: .bad :: (vB false) :: (vI 0) :: Ty.sl tProp a_0 :: .sc (.int .i64 (a_0.length : Int)) :: Ty.sl tProp b_1 :: .sc (.int .i64 (b_1.length : Int)) :: .sc (.bool ((a_0.length : Int) != (b_1.length : Int))) :: bz 21 []) [] (fun s g => (Ty.sl tProp a_0 :: Ty.sl tProp b_1 :: .bad :: .bad :: .bad :: (vI s) :: bz 26 [])) (fun s g => []) (fun r g => match r with | (.inl r) => (.exit 0, (bz 32 []), []) | (.inr r) => (.ret, (bz 4 ((vB false) :: bz 27 [])), [])) () (by kernel_rfl) (by kernel_rfl) (kill_go (mid := (Ty.sl tProp a_0 :: Ty.sl tProp b_1 :: .bad :: .bad :: .bad :: (vI 0) :: bz 26 [])) (by kernel_rfl) (mC (sl_scrub tProp _ _) (mC (sl_scrub tProp _ _) (mB (mB (mB (mC (by kernel_rfl) (mZ 26 mN)))))))) (cut_go (mid := []) (by kernel_rfl) oN) ?_ ?_
    · rintro v2 _ y h
      unfold ref12_SameProps_l1 at h
      refine J_seq ?_
      refine J_seq ?_
      refine J_region ?_
      refine JS_seg 5 (Ty.sl tProp a_0 :: Ty.sl tProp b_1 :: .bad :: .bad :: .bad :: (vI v2) :: bz 5 ((vI v2) :: Ty.sl tProp a_0 :: .sc (.int .i64 (a_0.length : Int)) :: .sc (.bool (decide (v2 < (a_0.length : Int)))) :: .sc (.bool (decide (v2 < (a_0.length : Int)))) :: bz 16 [])) [] (by kernel_rfl) ?_
      rcases bool_cases (decide (v2 < (a_0.length : Int))) with h3 | h3
      · rw [if_pos h3] at h
        refine JS_cast (tm' := (Ty.sl tProp a_0 :: Ty.sl tProp b_1 :: .bad :: .bad :: .bad :: (vI v2) :: bz 5 ((vI v2) :: Ty.sl tProp a_0 :: .sc (.int .i64 (a_0.length : Int)) :: (vB true) :: (vB true) :: bz 16 []))) (by rw [h3]) rfl ?_
        refine JS_end (Ty.sl tProp a_0 :: Ty.sl tProp b_1 :: .bad :: .bad :: .bad :: (vI v2) :: bz 5 ((vI v2) :: Ty.sl tProp a_0 :: .sc (.int .i64 (a_0.length : Int)) :: (vB true) :: (vB true) :: (vI v2) :: Ty.sl tProp b_1 :: .sc (.int .i64 (b_1.length : Int)) :: .sc (.bool (decide (v2 < (b_1.length : Int)))) :: .sc (.bool (decide (v2 < (b_1.length : Int)))) :: bz 11 [])) [] (by kernel_rfl) ?_
        refine JK_sq ?_
        rcases bool_cases (decide (v2 < (b_1.length : Int))) with h4 | h4
        · rw [if_pos h4] at h
          refine J_condT (v := (decide (v2 < (b_1.length : Int)))) (by kernel_rfl) h4 ?_
          refine J_skip ?_
          refine JK_sq ?_
          refine J_seq ?_
          refine J_block ?_
          refine J_seq ?_
          refine J_draw ?_
          refine JD_seg [] (Ty.sl tProp a_0 :: Ty.sl tProp b_1 :: .bad :: .bad :: .bad :: (vI v2) :: bz 5 ((vI v2) :: Ty.sl tProp a_0 :: .sc (.int .i64 (a_0.length : Int)) :: (vB true) :: (vB true) :: (vI v2) :: Ty.sl tProp b_1 :: .sc (.int .i64 (b_1.length : Int)) :: .sc (.bool (decide (v2 < (b_1.length : Int)))) :: .sc (.bool (decide (v2 < (b_1.length : Int)))) :: bz 11 [])) [] (by kernel_rfl) (by kernel_rfl) (by kernel_rfl) ?_
          refine JD_upd (c := .free) (fun s => some (Ty.sl tProp a_0, [])) (by kernel_rfl) rfl (by kernel_rfl) ?_
          refine JD_upd (c := .free) (fun s => some ((vI v2), [])) (by kernel_rfl) rfl (by kernel_rfl) ?_
          refine JD_seg [.free, .free] (Ty.sl tProp a_0 :: Ty.sl tProp b_1 :: .bad :: .bad :: .bad :: (vI v2) :: bz 5 ((vI v2) :: Ty.sl tProp a_0 :: .sc (.int .i64 (a_0.length : Int)) :: (vB true) :: (vB true) :: (vI v2) :: Ty.sl tProp b_1 :: .sc (.int .i64 (b_1.length : Int)) :: .sc (.bool (decide (v2 < (b_1.length : Int)))) :: .sc (.bool (decide (v2 < (b_1.length : Int)))) :: .bad :: .bad :: Ty.sl tProp a_0 :: (vI v2) :: bz 7 [])) [] (by kernel_rfl) (by kernel_rfl) (by kernel_rfl) ?_
          obtain ⟨x5, h6, h⟩ := Option.bind_eq_some_iff.1 h
          refine JD_val (c := .reads) (fun s => aindexAddr E0.tb s 22 (Ty.sl tProp a_0) ((vI v2))) (by kernel_rfl) (sl_addr tProp tb_22 rfl tb_78 rfl h6) (by kernel_rfl) ?_
          refine JD_seg [.free, .free, .reads] (Ty.sl tProp a_0 :: Ty.sl tProp b_1 :: .bad :: .bad :: .bad :: (vI v2) :: bz 5 ((vI v2) :: Ty.sl tProp a_0 :: .sc (.int .i64 (a_0.length : Int)) :: (vB true) :: (vB true) :: (vI v2) :: Ty.sl tProp b_1 :: .sc (.int .i64 (b_1.length : Int)) :: .sc (.bool (decide (v2 < (b_1.length : Int)))) :: .sc (.bool (decide (v2 < (b_1.length : Int)))) :: .bad :: .bad :: Ty.sl tProp a_0 :: (vI v2) :: .fp (List.flatMap (Ty.cells tProp) a_0) (v2.toNat * Ty.size tProp) :: bz 6 [])) [] (by kernel_rfl) (by kernel_rfl) (by kernel_rfl) ?_
          refine JD_val (c := .reads) (fun s => aload E0.tb s 78 (.fp (List.flatMap (Ty.cells tProp) a_0) (v2.toNat * Ty.size tProp))) (by kernel_rfl) (fp_loadN tProp (o := 0) (vs := (cProp x5)) tb_78 rfl h6 (by decide) (by rw [tProp_cells]; rfl)) (by kernel_rfl) ?_
          refine JD_upd (c := .free) (fun s => some (Ty.sl tProp b_1, [])) (by kernel_rfl) rfl (by kernel_rfl) ?_
          refine JD_upd (c := .free) (fun s => some ((vI v2), [])) (by kernel_rfl) rfl (by kernel_rfl) ?_
          refine JD_seg [.free, .free, .reads, .reads, .free, .free] (Ty.sl tProp a_0 :: Ty.sl tProp b_1 :: .bad :: .bad :: .bad :: (vI v2) :: bz 5 [(vI v2), Ty.sl tProp a_0, .sc (.int .i64 (a_0.length : Int)), (vB true), (vB true), (vI v2), Ty.sl tProp b_1, .sc (.int .i64 (b_1.length : Int)), .sc (.bool (decide (v2 < (b_1.length : Int)))), .sc (.bool (decide (v2 < (b_1.length : Int)))), .bad, .bad, Ty.sl tProp a_0, (vI v2), .fp (List.flatMap (Ty.cells tProp) a_0) (v2.toNat * Ty.size tProp), .agg (cProp x5), Ty.sl tProp b_1, (vI v2), .bad, .bad, .bad]) [] (by kernel_rfl) (by kernel_rfl) (by kernel_rfl) ?_
          obtain ⟨x7, h8, h⟩ := Option.bind_eq_some_iff.1 h
          refine JD_val (c := .reads) (fun s => aindexAddr E0.tb s 22 (Ty.sl tProp b_1) ((vI v2))) (by kernel_rfl) (sl_addr tProp tb_22 rfl tb_78 rfl h8) (by kernel_rfl) ?_
          refine JD_seg [.free, .free, .reads, .reads, .free, .free, .reads] (Ty.sl tProp a_0 :: Ty.sl tProp b_1 :: .bad :: .bad :: .bad :: (vI v2) :: bz 5 [(vI v2), Ty.sl tProp a_0, .sc (.int .i64 (a_0.length : Int)), (vB true), (vB true), (vI v2), Ty.sl tProp b_1, .sc (.int .i64 (b_1.length : Int)), .sc (.bool (decide (v2 < (b_1.length : Int)))), .sc (.bool (decide (v2 < (b_1.length : Int)))), .bad, .bad, Ty.sl tProp a_0, (vI v2), .fp (List.flatMap (Ty.cells tProp) a_0) (v2.toNat * Ty.size tProp), .agg (cProp x5), Ty.sl tProp b_1, (vI v2), .fp (List.flatMap (Ty.cells tProp) b_1) (v2.toNat * Ty.size tProp), .bad, .bad]) [] (by kernel_rfl) (by kernel_rfl) (by kernel_rfl) ?_
          refine JD_val (c := .reads) (fun s => aload E0.tb s 78 (.fp (List.flatMap (Ty.cells tProp) b_1) (v2.toNat * Ty.size tProp))) (by kernel_rfl) (fp_loadN tProp (o := 0) (vs := (cProp x7)) tb_78 rfl h8 (by decide) (by rw [tProp_cells]; rfl)) (by kernel_rfl) ?_
          refine JD_seg [.free, .free, .reads, .reads, .free, .free, .reads, .reads] (Ty.sl tProp a_0 :: Ty.sl tProp b_1 :: .bad :: .bad :: .bad :: (vI v2) :: bz 5 [(vI v2), Ty.sl tProp a_0, .sc (.int .i64 (a_0.length : Int)), (vB true), (vB true), (vI v2), Ty.sl tProp b_1, .sc (.int .i64 (b_1.length : Int)), .sc (.bool (decide (v2 < (b_1.length : Int)))), .sc (.bool (decide (v2 < (b_1.length : Int)))), .bad, .bad, Ty.sl tProp a_0, (vI v2), .fp (List.flatMap (Ty.cells tProp) a_0) (v2.toNat * Ty.size tProp), .agg (cProp x5), Ty.sl tProp b_1, (vI v2), .fp (List.flatMap (Ty.cells tProp) b_1) (v2.toNat * Ty.size tProp), .agg (cProp x7), .bad]) [] (by kernel_rfl) (by kernel_rfl) (by kernel_rfl) ?_
          refine JD_val (c := .reads) (fun s => abin E0.tb s .neq 78 (.agg (cProp x5)) (.agg (cProp x7))) (by kernel_rfl) (tProp_neq_78 _ x5 x7) (by kernel_rfl) ?_
          refine JD_seg [.free, .free, .reads, .reads, .free, .free, .reads, .reads, .reads] (Ty.sl tProp a_0 :: Ty.sl tProp b_1 :: .bad :: .bad :: .bad :: (vI v2) :: bz 5 [(vI v2), Ty.sl tProp a_0, .sc (.int .i64 (a_0.length : Int)), (vB true), (vB true), (vI v2), Ty.sl tProp b_1, .sc (.int .i64 (b_1.length : Int)), .sc (.bool (decide (v2 < (b_1.length : Int)))), .sc (.bool (decide (v2 < (b_1.length : Int)))), .bad, .bad, Ty.sl tProp a_0, (vI v2), .fp (List.flatMap (Ty.cells tProp) a_0) (v2.toNat * Ty.size tProp), .agg (cProp x5), Ty.sl tProp b_1, (vI v2), .fp (List.flatMap (Ty.cells tProp) b_1) (v2.toNat * Ty.size tProp), .agg (cProp x7), .sc (.bool (!(x5 == x7)))]) [] (by kernel_rfl) (by kernel_rfl) (by kernel_rfl) ?_
          refine JD_end (by kernel_rfl) (by kernel_rfl) ?_
          refine JK_sq ?_
          rcases bool_cases (!(x5 == x7)) with h9 | h9
          · rw [if_pos h9] at h
            refine J_condT (v := (!(x5 == x7))) (by kernel_rfl) h9 ?_
            refine J_seq ?_
            refine J_region ?_
            refine JS_end (Ty.sl tProp a_0 :: Ty.sl tProp b_1 :: .bad :: .bad :: (vB false) :: (vI v2) :: bz 5 [(vI v2), Ty.sl tProp a_0, .sc (.int .i64 (a_0.length : Int)), (vB true), (vB true), (vI v2), Ty.sl tProp b_1, .sc (.int .i64 (b_1.length : Int)), .sc (.bool (decide (v2 < (b_1.length : Int)))), .sc (.bool (decide (v2 < (b_1.length : Int)))), .bad, .bad, Ty.sl tProp a_0, (vI v2), .fp (List.flatMap (Ty.cells tProp) a_0) (v2.toNat * Ty.size tProp), .agg (cProp x5), Ty.sl tProp b_1, (vI v2), .fp (List.flatMap (Ty.cells tProp) b_1) (v2.toNat * Ty.size tProp), .agg (cProp x7), .sc (.bool (!(x5 == x7)))]) [] (by kernel_rfl) ?_
            refine JK_sq ?_
            refine J_ret ?_
            refine JK_bl_ret ?_
            refine JK_sq_ret ?_
            refine JK_nil ?_
            obtain rfl := Option.some.inj h
            exact turn_ret (tm' := (bz 4 ((vB false) :: bz 27 []))) (st' := []) () (kill_go (mid := (bz 4 ((vB false) :: bz 27 []))) (by kernel_rfl) (mZ 4 (mC (by kernel_rfl) (mZ 27 mN)))) (cut_go (mid := []) (by kernel_rfl) oN) (by kernel_rfl)
          · rw [if_neg (ne_true h9)] at h
            refine J_condF (v := (!(x5 == x7))) (by kernel_rfl) h9 ?_
            refine J_skip ?_
            refine JK_bl ?_
            refine JK_sq ?_
            refine J_region ?_
            refine JS_end (Ty.sl tProp a_0 :: Ty.sl tProp b_1 :: .bad :: .bad :: .bad :: .sc (.int .i64 (IntKind.wrap .i64 (v2 + 1))) :: bz 5 [(vI v2), Ty.sl tProp a_0, .sc (.int .i64 (a_0.length : Int)), (vB true), (vB true), (vI v2), Ty.sl tProp b_1, .sc (.int .i64 (b_1.length : Int)), .sc (.bool (decide (v2 < (b_1.length : Int)))), .sc (.bool (decide (v2 < (b_1.length : Int)))), (vI v2), .sc (.int .i64 (IntKind.wrap .i64 (v2 + 1))), Ty.sl tProp a_0, (vI v2), .fp (List.flatMap (Ty.cells tProp) a_0) (v2.toNat * Ty.size tProp), .agg (cProp x5), Ty.sl tProp b_1, (vI v2), .fp (List.flatMap (Ty.cells tProp) b_1) (v2.toNat * Ty.size tProp), .agg (cProp x7), .sc (.bool (!(x5 == x7)))]) [] (by kernel_rfl) ?_
            refine JK_nil ?_
            obtain rfl := Option.some.inj h
            exact turn_next () (kill_go (mid := (Ty.sl tProp a_0 :: Ty.sl tProp b_1 :: .bad :: .bad :: .bad :: .sc (.int .i64 (IntKind.wrap .i64 (v2 + 1))) :: bz 26 [])) (by kernel_rfl) (mC (sl_scrub tProp _ _) (mC (sl_scrub tProp _ _) (mB (mB (mB (mC (by kernel_rfl) (mZ 26 mN)))))))) (cut_go (mid := []) (by kernel_rfl) oN)
        · rw [if_neg (ne_true h4)] at h
          refine J_condF (v := (decide (v2 < (b_1.length : Int)))) (by kernel_rfl) h4 ?_
          refine J_exit ?_
          refine JK_sq_exit ?_
          refine JK_nil ?_
          obtain rfl := Option.some.inj h
          exact turn_exit (tm' := (bz 32 [])) (st' := []) () (kill_go (mid := (bz 32 [])) (by kernel_rfl) (mZ 32 mN)) (cut_go (mid := []) (by kernel_rfl) oN) (by kernel_rfl)
      · rw [if_neg (ne_true h3)] at h
        refine JS_cast (tm' := (Ty.sl tProp a_0 :: Ty.sl tProp b_1 :: .bad :: .bad :: .bad :: (vI v2) :: bz 5 ((vI v2) :: Ty.sl tProp a_0 :: .sc (.int .i64 (a_0.length : Int)) :: (vB false) :: (vB false) :: bz 16 []))) (by rw [h3]) rfl ?_
        refine JS_end (Ty.sl tProp a_0 :: Ty.sl tProp b_1 :: .bad :: .bad :: .bad :: (vI v2) :: bz 5 ((vI v2) :: Ty.sl tProp a_0 :: .sc (.int .i64 (a_0.length : Int)) :: (vB false) :: (vB false) :: .tup [] :: .tup [] :: .tup [] :: .tup [] :: (vB false) :: bz 11 [])) [] (by kernel_rfl) ?_
        refine JK_sq ?_
        refine J_condF (v := false) (by kernel_rfl) rfl ?_
        refine J_exit ?_
        refine JK_sq_exit ?_
        refine JK_nil ?_
        obtain rfl := Option.some.inj h
        exact turn_exit (tm' := (bz 32 [])) (st' := []) () (kill_go (mid := (bz 32 [])) (by kernel_rfl) (mZ 32 mN)) (cut_go (mid := []) (by kernel_rfl) oN) (by kernel_rfl)
    · intro g_
      rcases r10 with r12 | r13
      · dsimp only at h
        refine (show JK _ _ _ _ (.exit 0, (bz 32 []), []) from ?_)
        refine JK_bl_hit ?_
        refine JK_sq ?_
        refine J_seq ?_
        refine J_region ?_
        refine JS_end (bz 4 ((vB true) :: bz 27 [])) [] (by kernel_rfl) ?_
        refine JK_sq ?_
        refine J_ret ?_
        refine JK_nil ?_
        obtain rfl := Option.some.inj h
        exact ret_A (r := (vB true)) (r' := (vB true)) (.inl rfl) (by kernel_rfl) (by kernel_rfl) rfl ⟨by kernel_rfl, rfl⟩
      · dsimp only at h
        refine (show JK _ _ _ _ (.ret, (bz 4 ((vB false) :: bz 27 [])), []) from ?_)
        refine JK_bl_ret ?_
        refine JK_sq_ret ?_
        refine JK_nil ?_
        obtain rfl := Option.some.inj h
        exact ret_A (r := (vB false)) (r' := (vB false)) (.inl rfl) (by kernel_rfl) (by kernel_rfl) rfl ⟨by kernel_rfl, rfl⟩

theorem ref12_same_b_C (rec_ : GNode → GNode → Int → Option Bool) (hrec_ : ∀ (a_0 : GNode) (b_1 : GNode) (levels_2 : Int) (r : Bool) (st : Store), rec_ a_0 b_1 levels_2 = some r → fcall E0 52 [.agg (cNode a_0), .agg (cNode b_1), (vI levels_2)] st = some ((vB r), st)) (a_0 : GNode) (b_1 : GNode) (levels_2 : Int) (r : Bool) (st : Store) (h : ref12_same_b rec_ a_0 b_1 levels_2 = some r) : fcall E0 52 [.agg (cNode a_0), .agg (cNode b_1), (vI levels_2)] st = some ((vB r), st) := by
  unfold ref12_same_b at h
  refine fn_alone (fn := Tryd.f52) (av' := (.agg (cNode a_0) :: .agg (cNode b_1) :: (vI levels_2) :: bz 61 [])) rfl fn_52 rfl (pC (pAgg (pC rfl (pC (sl_pure tProp _) (pC (sl_pure tNode _) pN)))) (pC (pAgg (pC rfl (pC (sl_pure tProp _) (pC (sl_pure tNode _) pN)))) (pC rfl pN))) rfl rfl rfl (has_go (as1 := [.agg (cNode a_0), .agg (cNode b_1), (vI levels_2)]) (lC (sAgg (lC (by kernel_rfl) (lC (sl_scrub tProp _ _) (lC (sl_scrub tNode _ _) lN)))) (lC (sAgg (lC (by kernel_rfl) (lC (sl_scrub tProp _ _) (lC (sl_scrub tNode _ _) lN)))) (lC (by kernel_rfl) lN))) (by kernel_rfl)) ?_
  refine J_seq ?_
  refine J_region ?_
  refine JS_end (.agg (cNode a_0) :: .agg (cNode b_1) :: (vI levels_2) :: .ref 0 0 0 :: .ref 1 0 0 :: .bad :: (vB false) :: bz 57 []) [.box 25 (cNode a_0), .box 25 (cNode b_1)] (by kernel_rfl) ?_
  refine JK_sq ?_
  refine J_seq ?_
  refine J_seq ?_
  refine J_region ?_
  refine JS_seg 3 (.agg (cNode a_0) :: .agg (cNode b_1) :: (vI levels_2) :: .ref 0 0 0 :: .ref 1 0 0 :: .bad :: (vB false) :: .bad :: (vI levels_2) :: .sc (.bool (levels_2 == 0)) :: .sc (.bool (levels_2 == 0)) :: bz 53 []) [.box 25 (cNode a_0), .box 25 (cNode b_1)] (by kernel_rfl) ?_
  rcases bool_cases (levels_2 == 0) with h1 | h1
  · rw [if_pos h1] at h
    refine JS_cast (tm' := (.agg (cNode a_0) :: .agg (cNode b_1) :: (vI levels_2) :: .ref 0 0 0 :: .ref 1 0 0 :: .bad :: (vB false) :: .bad :: (vI levels_2) :: (vB true) :: (vB true) :: bz 53 [])) (by rw [h1]) rfl ?_
    refine JS_end (.agg (cNode a_0) :: .agg (cNode b_1) :: (vI levels_2) :: .ref 0 0 0 :: .ref 1 0 0 :: .bad :: (vB false) :: .bad :: (vI levels_2) :: (vB true) :: (vB true) :: .tup [] :: .tup [] :: .tup [] :: .tup [] :: .tup [] :: (vB true) :: (vB true) :: .tup [] :: .tup [] :: .tup [] :: .tup [] :: .tup [] :: .tup [] :: (vB true) :: (vB true) :: .tup [] :: .tup [] :: .tup [] :: .tup [] :: .tup [] :: .tup [] :: .tup [] :: (vB true) :: bz 30 []) [.box 25 (cNode a_0), .box 25 (cNode b_1)] (by kernel_rfl) ?_
    refine JK_sq ?_
    refine J_condT (v := true) (by kernel_rfl) rfl ?_
    refine J_seq ?_
    refine J_region ?_
    refine JS_end (.agg (cNode a_0) :: .agg (cNode b_1) :: (vI levels_2) :: .ref 0 0 0 :: .ref 1 0 0 :: .bad :: .sc (.bool (levels_2 == 0)) :: .bad :: (vI levels_2) :: (vB true) :: (vB true) :: .tup [] :: .tup [] :: .tup [] :: .tup [] :: .tup [] :: (vB true) :: (vB true) :: .tup [] :: .tup [] :: .tup [] :: .tup [] :: .tup [] :: .tup [] :: (vB true) :: (vB true) :: .tup [] :: .tup [] :: .tup [] :: .tup [] :: .tup [] :: .tup [] :: .tup [] :: (vB true) :: (vI levels_2) :: .sc (.bool (levels_2 == 0)) :: bz 28 []) [.box 25 (cNode a_0), .box 25 (cNode b_1)] (by kernel_rfl) ?_
    refine JK_sq ?_
    refine J_ret ?_
    refine JK_sq_ret ?_
    refine JK_nil ?_
    obtain rfl := Option.some.inj h
    exact ret_A (r := .sc (.bool (levels_2 == 0))) (r' := .sc (.bool (levels_2 == 0))) (.inl rfl) (by kernel_rfl) (by kernel_rfl) rfl ⟨by kernel_rfl, rfl⟩
  · rw [if_neg (ne_true h1)] at h
    refine JS_cast (tm' := (.agg (cNode a_0) :: .agg (cNode b_1) :: (vI levels_2) :: .ref 0 0 0 :: .ref 1 0 0 :: .bad :: (vB false) :: .bad :: (vI levels_2) :: (vB false) :: (vB false) :: bz 53 [])) (by rw [h1]) rfl ?_
    refine JS_seg 7 (.agg (cNode a_0) :: .agg (cNode b_1) :: (vI levels_2) :: .ref 0 0 0 :: .ref 1 0 0 :: .bad :: (vB false) :: .bad :: (vI levels_2) :: (vB false) :: (vB false) :: .ref 0 0 0 :: strV a_0.name :: .ref 1 0 0 :: strV b_1.name :: bz 49 []) [.box 25 (cNode a_0), .box 25 (cNode b_1)] (by kernel_rfl) ?_
    refine JS_val (fun s => abin E0.tb s .neq 9 (strV a_0.name) (strV b_1.name)) (by kernel_rfl) (str_ne a_0.name b_1.name) ?_
    refine JS_seg 10 (.agg (cNode a_0) :: .agg (cNode b_1) :: (vI levels_2) :: .ref 0 0 0 :: .ref 1 0 0 :: .bad :: (vB false) :: .bad :: (vI levels_2) :: (vB false) :: (vB false) :: .ref 0 0 0 :: strV a_0.name :: .ref 1 0 0 :: strV b_1.name :: .sc (.bool (!(a_0.name == b_1.name))) :: .sc (.bool (!(a_0.name == b_1.name))) :: .sc (.bool (!(a_0.name == b_1.name))) :: bz 46 []) [.box 25 (cNode a_0), .box 25 (cNode b_1)] (by kernel_rfl) ?_
    rcases bool_cases (!(a_0.name == b_1.name)) with h2 | h2
    · rw [if_pos h2] at h
      refine JS_cast (tm' := (.agg (cNode a_0) :: .agg (cNode b_1) :: (vI levels_2) :: .ref 0 0 0 :: .ref 1 0 0 :: .bad :: (vB false) :: .bad :: (vI levels_2) :: (vB false) :: (vB false) :: .ref 0 0 0 :: strV a_0.name :: .ref 1 0 0 :: strV b_1.name :: (vB true) :: (vB true) :: (vB true) :: bz 46 [])) (by rw [h2]) rfl ?_
      refine JS_end (.agg (cNode a_0) :: .agg (cNode b_1) :: (vI levels_2) :: .ref 0 0 0 :: .ref 1 0 0 :: .bad :: (vB false) :: .bad :: (vI levels_2) :: (vB false) :: (vB false) :: .ref 0 0 0 :: strV a_0.name :: .ref 1 0 0 :: strV b_1.name :: (vB true) :: (vB true) :: (vB true) :: .tup [] :: .tup [] :: .tup [] :: .tup [] :: .tup [] :: .tup [] :: (vB true) :: (vB true) :: .tup [] :: .tup [] :: .tup [] :: .tup [] :: .tup [] :: .tup [] :: .tup [] :: (vB true) :: bz 30 []) [.box 25 (cNode a_0), .box 25 (cNode b_1)] (by kernel_rfl) ?_
      refine JK_sq ?_
      refine J_condT (v := true) (by kernel_rfl) rfl ?_
      refine J_seq ?_
      refine J_region ?_
      refine JS_end (.agg (cNode a_0) :: .agg (cNode b_1) :: (vI levels_2) :: .ref 0 0 0 :: .ref 1 0 0 :: .bad :: .sc (.bool (levels_2 == 0)) :: .bad :: (vI levels_2) :: (vB false) :: (vB false) :: .ref 0 0 0 :: strV a_0.name :: .ref 1 0 0 :: strV b_1.name :: (vB true) :: (vB true) :: (vB true) :: .tup [] :: .tup [] :: .tup [] :: .tup [] :: .tup [] :: .tup [] :: (vB true) :: (vB true) :: .tup [] :: .tup [] :: .tup [] :: .tup [] :: .tup [] :: .tup [] :: .tup [] :: (vB true) :: (vI levels_2) :: .sc (.bool (levels_2 == 0)) :: bz 28 []) [.box 25 (cNode a_0), .box 25 (cNode b_1)] (by kernel_rfl) ?_
      refine JK_sq ?_
      refine J_ret ?_
      refine JK_sq_ret ?_
      refine JK_nil ?_
      obtain rfl := Option.some.inj h
      exact ret_A (r := .sc (.bool (levels_2 == 0))) (r' := .sc (.bool (levels_2 == 0))) (.inl rfl) (by kernel_rfl) (by kernel_rfl) rfl ⟨by kernel_rfl, rfl⟩
    · rw [if_neg (ne_true h2)] at h
      refine JS_cast (tm' := (.agg (cNode a_0) :: .agg (cNode b_1) :: (vI levels_2) :: .ref 0 0 0 :: .ref 1 0 0 :: .bad :: (vB false) :: .bad :: (vI levels_2) :: (vB false) :: (vB false) :: .ref 0 0 0 :: strV a_0.name :: .ref 1 0 0 :: strV b_1.name :: (vB false) :: (vB false) :: (vB false) :: bz 46 [])) (by rw [h2]) rfl ?_
      refine JS_seg 14 (.agg (cNode a_0) :: .agg (cNode b_1) :: (vI levels_2) :: .ref 0 0 0 :: .ref 1 0 0 :: .bad :: (vB false) :: .bad :: (vI levels_2) :: (vB false) :: (vB false) :: .ref 0 0 0 :: strV a_0.name :: .ref 1 0 0 :: strV b_1.name :: (vB false) :: (vB false) :: (vB false) :: .ref 0 0 1 :: Ty.sl tProp a_0.props :: .ref 1 0 1 :: Ty.sl tProp b_1.props :: bz 42 []) [.box 25 (cNode a_0), .box 25 (cNode b_1)] (by kernel_rfl) ?_
      obtain ⟨r3, h4, h⟩ := Option.bind_eq_some_iff.1 h
      refine JS_upd (fun s => fcall E0 95 [Ty.sl tProp a_0.props, Ty.sl tProp b_1.props] s) (by kernel_rfl) (ref12_SameProps_C a_0.props b_1.props _ _ h4) ?_
      refine JS_seg 18 (.agg (cNode a_0) :: .agg (cNode b_1) :: (vI levels_2) :: .ref 0 0 0 :: .ref 1 0 0 :: .bad :: (vB false) :: .bad :: (vI levels_2) :: (vB false) :: (vB false) :: .ref 0 0 0 :: strV a_0.name :: .ref 1 0 0 :: strV b_1.name :: (vB false) :: (vB false) :: (vB false) :: .ref 0 0 1 :: Ty.sl tProp a_0.props :: .ref 1 0 1 :: Ty.sl tProp b_1.props :: (vB r3) :: .sc (.bool (!r3)) :: .sc (.bool (!r3)) :: .sc (.bool (!r3)) :: bz 38 []) [.box 25 (cNode a_0), .box 25 (cNode b_1)] (by kernel_rfl) ?_
      rcases bool_cases (!r3) with h5 | h5
      · rw [if_pos h5] at h
        refine JS_cast (tm' := (.agg (cNode a_0) :: .agg (cNode b_1) :: (vI levels_2) :: .ref 0 0 0 :: .ref 1 0 0 :: .bad :: (vB false) :: .bad :: (vI levels_2) :: (vB false) :: (vB false) :: .ref 0 0 0 :: strV a_0.name :: .ref 1 0 0 :: strV b_1.name :: (vB false) :: (vB false) :: (vB false) :: .ref 0 0 1 :: Ty.sl tProp a_0.props :: .ref 1 0 1 :: Ty.sl tProp b_1.props :: (vB r3) :: (vB true) :: (vB true) :: (vB true) :: bz 38 [])) (by rw [h5]) rfl ?_
        refine JS_end (.agg (cNode a_0) :: .agg (cNode b_1) :: (vI levels_2) :: .ref 0 0 0 :: .ref 1 0 0 :: .bad :: (vB false) :: .bad :: (vI levels_2) :: (vB false) :: (vB false) :: .ref 0 0 0 :: strV a_0.name :: .ref 1 0 0 :: strV b_1.name :: (vB false) :: (vB false) :: (vB false) :: .ref 0 0 1 :: Ty.sl tProp a_0.props :: .ref 1 0 1 :: Ty.sl tProp b_1.props :: (vB r3) :: (vB true) :: (vB true) :: (vB true) :: .tup [] :: .tup [] :: .tup [] :: .tup [] :: .tup [] :: .tup [] :: .tup [] :: (vB true) :: bz 30 []) [.box 25 (cNode a_0), .box 25 (cNode b_1)] (by kernel_rfl) ?_
        refine JK_sq ?_
        refine J_condT (v := true) (by kernel_rfl) rfl ?_
        refine J_seq ?_
        refine J_region ?_
        refine JS_end (.agg (cNode a_0) :: .agg (cNode b_1) :: (vI levels_2) :: .ref 0 0 0 :: .ref 1 0 0 :: .bad :: .sc (.bool (levels_2 == 0)) :: .bad :: (vI levels_2) :: (vB false) :: (vB false) :: .ref 0 0 0 :: strV a_0.name :: .ref 1 0 0 :: strV b_1.name :: (vB false) :: (vB false) :: (vB false) :: .ref 0 0 1 :: Ty.sl tProp a_0.props :: .ref 1 0 1 :: Ty.sl tProp b_1.props :: (vB r3) :: (vB true) :: (vB true) :: (vB true) :: .tup [] :: .tup [] :: .tup [] :: .tup [] :: .tup [] :: .tup [] :: .tup [] :: (vB true) :: (vI levels_2) :: .sc (.bool (levels_2 == 0)) :: bz 28 []) [.box 25 (cNode a_0), .box 25 (cNode b_1)] (by kernel_rfl) ?_
        refine JK_sq ?_
        refine J_ret ?_
        refine JK_sq_ret ?_
        refine JK_nil ?_
        obtain rfl := Option.some.inj h
        exact ret_A (r := .sc (.bool (levels_2 == 0))) (r' := .sc (.bool (levels_2 == 0))) (.inl rfl) (by kernel_rfl) (by kernel_rfl) rfl ⟨by kernel_rfl, rfl⟩
      · rw [if_neg (ne_true h5)] at h
        refine JS_cast (tm' := (.agg (cNode a_0) :: .agg (cNode b_1) :: (vI levels_2) :: .ref 0 0 0 :: .ref 1 0 0 :: .bad :: (vB false) :: .bad :: (vI levels_2) :: (vB false) :: (vB false) :: .ref 0 0 0 :: strV a_0.name :: .ref 1 0 0 :: strV b_1.name :: (vB false) :: (vB false) :: (vB false) :: .ref 0 0 1 :: Ty.sl tProp a_0.props :: .ref 1 0 1 :: Ty.sl tProp b_1.props :: (vB r3) :: (vB false) :: (vB false) :: (vB false) :: bz 38 [])) (by rw [h5]) rfl ?_
        refine JS_end (.agg (cNode a_0) :: .agg (cNode b_1) :: (vI levels_2) :: .ref 0 0 0 :: .ref 1 0 0 :: .bad :: (vB false) :: .bad :: (vI levels_2) :: (vB false) :: (vB false) :: .ref 0 0 0 :: strV a_0.name :: .ref 1 0 0 :: strV b_1.name :: (vB false) :: (vB false) :: (vB false) :: .ref 0 0 1 :: Ty.sl tProp a_0.props :: .ref 1 0 1 :: Ty.sl tProp b_1.props :: (vB r3) :: (vB false) :: (vB false) :: (vB false) :: .ref 0 0 2 :: Ty.sl tNode a_0.kids :: .sc (.int .i64 (a_0.kids.length : Int)) :: .ref 1 0 2 :: Ty.sl tNode b_1.kids :: .sc (.int .i64 (b_1.kids.length : Int)) :: .sc (.bool ((a_0.kids.length : Int) != (b_1.kids.length : Int))) :: .sc (.bool ((a_0.kids.length : Int) != (b_1.kids.length : Int))) :: bz 30 []) [.box 25 (cNode a_0), .box 25 (cNode b_1)] (by kernel_rfl) ?_
        refine JK_sq ?_
        rcases bool_cases ((a_0.kids.length : Int) != (b_1.kids.length : Int)) with h6 | h6
        · rw [if_pos h6] at h
          refine J_condT (v := ((a_0.kids.length : Int) != (b_1.kids.length : Int))) (by kernel_rfl) h6 ?_
          refine J_seq ?_
          refine J_region ?_
          refine JS_end (.agg (cNode a_0) :: .agg (cNode b_1) :: (vI levels_2) :: .ref 0 0 0 :: .ref 1 0 0 :: .bad :: .sc (.bool (levels_2 == 0)) :: .bad :: (vI levels_2) :: (vB false) :: (vB false) :: .ref 0 0 0 :: strV a_0.name :: .ref 1 0 0 :: strV b_1.name :: (vB false) :: (vB false) :: (vB false) :: .ref 0 0 1 :: Ty.sl tProp a_0.props :: .ref 1 0 1 :: Ty.sl tProp b_1.props :: (vB r3) :: (vB false) :: (vB false) :: (vB false) :: .ref 0 0 2 :: Ty.sl tNode a_0.kids :: .sc (.int .i64 (a_0.kids.length : Int)) :: .ref 1 0 2 :: Ty.sl tNode b_1.kids :: .sc (.int .i64 (b_1.kids.length : Int)) :: .sc (.bool ((a_0.kids.length : Int) != (b_1.kids.length : Int))) :: .sc (.bool ((a_0.kids.length : Int) != (b_1.kids.length : Int))) :: (vI levels_2) :: .sc (.bool (levels_2 == 0)) :: bz 28 []) [.box 25 (cNode a_0), .box 25 (cNode b_1)] (by kernel_rfl) ?_
          refine JK_sq ?_
          refine J_ret ?_
          refine JK_sq_ret ?_
          refine JK_nil ?_
          obtain rfl := Option.some.inj h
          exact ret_A (r := .sc (.bool (levels_2 == 0))) (r' := .sc (.bool (levels_2 == 0))) (.inl rfl) (by kernel_rfl) (by kernel_rfl) rfl ⟨by kernel_rfl, rfl⟩
        · rw [if_neg (ne_true h6)] at h
          refine J_condF (v := ((a_0.kids.length : Int) != (b_1.kids.length : Int))) (by kernel_rfl) h6 ?_
          refine J_skip ?_
          refine JK_sq ?_
          refine J_seq ?_
          refine J_seq ?_
          refine J_region ?_
          refine JS_end (.agg (cNode a_0) :: .agg (cNode b_1) :: (vI levels_2) :: .ref 0 0 0 :: .ref 1 0 0 :: .bad :: (vB false) :: (vI 0) :: (vI levels_2) :: (vB false) :: (vB false) :: .ref 0 0 0 :: strV a_0.name :: .ref 1 0 0 :: strV b_1.name :: (vB false) :: (vB false) :: (vB false) :: .ref 0 0 1 :: Ty.sl tProp a_0.props :: .ref 1 0 1 :: Ty.sl tProp b_1.props :: (vB r3) :: (vB false) :: (vB false) :: (vB false) :: .ref 0 0 2 :: Ty.sl tNode a_0.kids :: .sc (.int .i64 (a_0.kids.length : Int)) :: .ref 1 0 2 :: Ty.sl tNode b_1.kids :: .sc (.int .i64 (b_1.kids.length : Int)) :: .sc (.bool ((a_0.kids.length : Int) != (b_1.kids.length : Int))) :: .sc (.bool ((a_0.kids.length : Int) != (b_1.kids.length : Int))) :: bz 30 []) [.box 25 (cNode a_0), .box 25 (cNode b_1)] (by kernel_rfl) ?_
          refine JK_sq ?_
          refine J_block ?_
          obtain ⟨r17, h18, h⟩ := Option.bind_eq_some_iff.1 h
          refine J_loop (γ := Unit) h18 2 (.agg (cNode a_0) :: .agg (cNode b_1) :: (vI levels_2) :: .ref 0 0 0 :: .ref 1 0 0 :: .bad :: (vB false) :: (vI 0) :: (vI levels_2) :: (vB false) :: (vB false) :: .ref 0 0 0 :: strV a_0.name :: .ref 1 0 0 :: strV b_1.name :: (vB false) :: (vB false) :: (vB false) :: .ref 0 0 1 :: Ty.sl tProp a_0.props :: .ref 1 0 1 :: Ty.sl tProp b_1.props :: (vB r3) :: (vB false) :: (vB false) :: (vB false) :: .ref 0 0 2 :: Ty.sl tNode a_0.kids :: .sc (.int .i64 (a_0.kids.length : Int)) :: .ref 1 0 2 :: Ty.sl tNode b_1.kids :: .sc (.int .i64 (b_1.kids.length : Int)) :: .sc (.bool ((a_0.kids.length : Int) != (b_1.kids.length : Int))) :: .sc (.bool ((a_0.kids.length : Int) != (b_1.kids.length : Int))) :: bz 30 []) [.box 25 (cNode a_0), .box 25 (cNode b_1)] (fun s g => (.bad :: .bad :: (vI levels_2) :: .ref 0 0 0 :: .ref 1 0 0 :: .bad :: .bad :: (vI s) :: bz 56 [])) (fun s g => [.box 25 (cNode a_0), .box 25 (cNode b_1)]) (fun r g => match r with | (.inl r) => (.exit 0, (bz 64 []), [.box 25 (cNode a_0), .box 25 (cNode b_1)]) | (.inr r) => (.ret, (bz 6 ((vB false) :: bz 57 [])), [.box 25 (cNode a_0), .box 25 (cNode b_1)])) () (by kernel_rfl) (by kernel_rfl) (kill_go (mid := (.bad :: .bad :: (vI levels_2) :: .ref 0 0 0 :: .ref 1 0 0 :: .bad :: .bad :: (vI 0) :: bz 56 [])) (by kernel_rfl) (mB (mB (mC (by kernel_rfl) (mC (by kernel_rfl) (mC (by kernel_rfl) (mB (mB (mC (by kernel_rfl) (mZ 56 mN)))))))))) (cut_go (mid := [.box 25 (cNode a_0), .box 25 (cNode b_1)]) (by kernel_rfl) (oC (oB (lC (by kernel_rfl) (lC (sl_scrub tProp _ _) (lC (sl_scrub tNode _ _) lN)))) (oC (oB (lC (by kernel_rfl) (lC (sl_scrub tProp _ _) (lC (sl_scrub tNode _ _) lN)))) oN))) ?_ ?_
          · rintro v7 _ y h
            unfold ref12_same_l1 at h
            refine J_seq ?_
            refine J_seq ?_
            refine J_region ?_
            refine JS_seg 6 (.bad :: .bad :: (vI levels_2) :: .ref 0 0 0 :: .ref 1 0 0 :: .bad :: .bad :: (vI v7) :: bz 28 ((vI v7) :: .ref 0 0 2 :: Ty.sl tNode a_0.kids :: .sc (.int .i64 (a_0.kids.length : Int)) :: .sc (.bool (decide (v7 < (a_0.kids.length : Int)))) :: .sc (.bool (decide (v7 < (a_0.kids.length : Int)))) :: bz 22 [])) [.box 25 (cNode a_0), .box 25 (cNode b_1)] (by kernel_rfl) ?_
            rcases bool_cases (decide (v7 < (a_0.kids.length : Int))) with h8 | h8
            · rw [if_pos h8] at h
              refine JS_cast (tm' := (.bad :: .bad :: (vI levels_2) :: .ref 0 0 0 :: .ref 1 0 0 :: .bad :: .bad :: (vI v7) :: bz 28 ((vI v7) :: .ref 0 0 2 :: Ty.sl tNode a_0.kids :: .sc (.int .i64 (a_0.kids.length : Int)) :: (vB true) :: (vB true) :: bz 22 []))) (by rw [h8]) rfl ?_
              refine JS_end (.bad :: .bad :: (vI levels_2) :: .ref 0 0 0 :: .ref 1 0 0 :: .bad :: .bad :: (vI v7) :: bz 28 ((vI v7) :: .ref 0 0 2 :: Ty.sl tNode a_0.kids :: .sc (.int .i64 (a_0.kids.length : Int)) :: (vB true) :: (vB true) :: (vI v7) :: .ref 1 0 2 :: Ty.sl tNode b_1.kids :: .sc (.int .i64 (b_1.kids.length : Int)) :: .sc (.bool (decide (v7 < (b_1.kids.length : Int)))) :: .sc (.bool (decide (v7 < (b_1.kids.length : Int)))) :: bz 16 [])) [.box 25 (cNode a_0), .box 25 (cNode b_1)] (by kernel_rfl) ?_
              refine JK_sq ?_
              rcases bool_cases (decide (v7 < (b_1.kids.length : Int))) with h9 | h9
              · rw [if_pos h9] at h
                refine J_condT (v := (decide (v7 < (b_1.kids.length : Int)))) (by kernel_rfl) h9 ?_
                refine J_skip ?_
                refine JK_sq ?_
                refine J_seq ?_
                refine J_block ?_
                refine J_seq ?_
                refine J_draw ?_
                refine JD_seg [] (.bad :: .bad :: (vI levels_2) :: .ref 0 0 0 :: .ref 1 0 0 :: .bad :: .bad :: (vI v7) :: bz 28 ((vI v7) :: .ref 0 0 2 :: Ty.sl tNode a_0.kids :: .sc (.int .i64 (a_0.kids.length : Int)) :: (vB true) :: (vB true) :: (vI v7) :: .ref 1 0 2 :: Ty.sl tNode b_1.kids :: .sc (.int .i64 (b_1.kids.length : Int)) :: .sc (.bool (decide (v7 < (b_1.kids.length : Int)))) :: .sc (.bool (decide (v7 < (b_1.kids.length : Int)))) :: bz 16 [])) [.box 25 (cNode a_0), .box 25 (cNode b_1)] (by kernel_rfl) (by kernel_rfl) (by kernel_rfl) ?_
                refine JD_upd (c := .reads) (fun s => some (.ref 0 0 2, [.box 25 (cNode a_0), .box 25 (cNode b_1)])) (by kernel_rfl) rfl (by kernel_rfl) ?_
                refine JD_upd (c := .reads) (fun s => some (Ty.sl tNode a_0.kids, [.box 25 (cNode a_0), .box 25 (cNode b_1)])) (by kernel_rfl) rfl (by kernel_rfl) ?_
                refine JD_upd (c := .free) (fun s => some ((vI v7), [.box 25 (cNode a_0), .box 25 (cNode b_1)])) (by kernel_rfl) rfl (by kernel_rfl) ?_
                refine JD_seg [.reads, .reads, .free] (.bad :: .bad :: (vI levels_2) :: .ref 0 0 0 :: .ref 1 0 0 :: .bad :: .bad :: (vI v7) :: bz 28 ((vI v7) :: .ref 0 0 2 :: Ty.sl tNode a_0.kids :: .sc (.int .i64 (a_0.kids.length : Int)) :: (vB true) :: (vB true) :: (vI v7) :: .ref 1 0 2 :: Ty.sl tNode b_1.kids :: .sc (.int .i64 (b_1.kids.length : Int)) :: .sc (.bool (decide (v7 < (b_1.kids.length : Int)))) :: .sc (.bool (decide (v7 < (b_1.kids.length : Int)))) :: .bad :: .bad :: .ref 0 0 2 :: Ty.sl tNode a_0.kids :: (vI v7) :: bz 11 [])) [.box 25 (cNode a_0), .box 25 (cNode b_1)] (by kernel_rfl) (by kernel_rfl) (by kernel_rfl) ?_
                obtain ⟨x10, h11, h⟩ := Option.bind_eq_some_iff.1 h
                refine JD_val (c := .reads) (fun s => aindexAddr E0.tb s 23 (Ty.sl tNode a_0.kids) ((vI v7))) (by kernel_rfl) (sl_addr tNode tb_23 rfl tb_25 rfl h11) (by kernel_rfl) ?_
                refine JD_seg [.reads, .reads, .free, .reads] (.bad :: .bad :: (vI levels_2) :: .ref 0 0 0 :: .ref 1 0 0 :: .bad :: .bad :: (vI v7) :: bz 28 ((vI v7) :: .ref 0 0 2 :: Ty.sl tNode a_0.kids :: .sc (.int .i64 (a_0.kids.length : Int)) :: (vB true) :: (vB true) :: (vI v7) :: .ref 1 0 2 :: Ty.sl tNode b_1.kids :: .sc (.int .i64 (b_1.kids.length : Int)) :: .sc (.bool (decide (v7 < (b_1.kids.length : Int)))) :: .sc (.bool (decide (v7 < (b_1.kids.length : Int)))) :: .bad :: .bad :: .ref 0 0 2 :: Ty.sl tNode a_0.kids :: (vI v7) :: .fp (List.flatMap (Ty.cells tNode) a_0.kids) (v7.toNat * Ty.size tNode) :: bz 10 [])) [.box 25 (cNode a_0), .box 25 (cNode b_1)] (by kernel_rfl) (by kernel_rfl) (by kernel_rfl) ?_
                refine JD_val (c := .reads) (fun s => aload E0.tb s 25 (.fp (List.flatMap (Ty.cells tNode) a_0.kids) (v7.toNat * Ty.size tNode))) (by kernel_rfl) (fp_loadN tNode (o := 0) (vs := (cNode x10)) tb_25 rfl h11 (by decide) (by rw [tNode_cells]; rfl)) (by kernel_rfl) ?_
                refine JD_upd (c := .reads) (fun s => some (.ref 1 0 2, [.box 25 (cNode a_0), .box 25 (cNode b_1)])) (by kernel_rfl) rfl (by kernel_rfl) ?_
                refine JD_upd (c := .reads) (fun s => some (Ty.sl tNode b_1.kids, [.box 25 (cNode a_0), .box 25 (cNode b_1)])) (by kernel_rfl) rfl (by kernel_rfl) ?_
                refine JD_upd (c := .free) (fun s => some ((vI v7), [.box 25 (cNode a_0), .box 25 (cNode b_1)])) (by kernel_rfl) rfl (by kernel_rfl) ?_
                refine JD_seg [.reads, .reads, .free, .reads, .reads, .reads, .reads, .free] (.bad :: .bad :: (vI levels_2) :: .ref 0 0 0 :: .ref 1 0 0 :: .bad :: .bad :: (vI v7) :: bz 28 ((vI v7) :: .ref 0 0 2 :: Ty.sl tNode a_0.kids :: .sc (.int .i64 (a_0.kids.length : Int)) :: (vB true) :: (vB true) :: (vI v7) :: .ref 1 0 2 :: Ty.sl tNode b_1.kids :: .sc (.int .i64 (b_1.kids.length : Int)) :: .sc (.bool (decide (v7 < (b_1.kids.length : Int)))) :: .sc (.bool (decide (v7 < (b_1.kids.length : Int)))) :: .bad :: .bad :: .ref 0 0 2 :: Ty.sl tNode a_0.kids :: (vI v7) :: .fp (List.flatMap (Ty.cells tNode) a_0.kids) (v7.toNat * Ty.size tNode) :: .agg (cNode x10) :: .ref 1 0 2 :: Ty.sl tNode b_1.kids :: (vI v7) :: bz 6 [])) [.box 25 (cNode a_0), .box 25 (cNode b_1)] (by kernel_rfl) (by kernel_rfl) (by kernel_rfl) ?_
                obtain ⟨x12, h13, h⟩ := Option.bind_eq_some_iff.1 h
                refine JD_val (c := .reads) (fun s => aindexAddr E0.tb s 23 (Ty.sl tNode b_1.kids) ((vI v7))) (by kernel_rfl) (sl_addr tNode tb_23 rfl tb_25 rfl h13) (by kernel_rfl) ?_
                refine JD_seg [.reads, .reads, .free, .reads, .reads, .reads, .reads, .free, .reads] (.bad :: .bad :: (vI levels_2) :: .ref 0 0 0 :: .ref 1 0 0 :: .bad :: .bad :: (vI v7) :: bz 28 ((vI v7) :: .ref 0 0 2 :: Ty.sl tNode a_0.kids :: .sc (.int .i64 (a_0.kids.length : Int)) :: (vB true) :: (vB true) :: (vI v7) :: .ref 1 0 2 :: Ty.sl tNode b_1.kids :: .sc (.int .i64 (b_1.kids.length : Int)) :: .sc (.bool (decide (v7 < (b_1.kids.length : Int)))) :: .sc (.bool (decide (v7 < (b_1.kids.length : Int)))) :: .bad :: .bad :: .ref 0 0 2 :: Ty.sl tNode a_0.kids :: (vI v7) :: .fp (List.flatMap (Ty.cells tNode) a_0.kids) (v7.toNat * Ty.size tNode) :: .agg (cNode x10) :: .ref 1 0 2 :: Ty.sl tNode b_1.kids :: (vI v7) :: .fp (List.flatMap (Ty.cells tNode) b_1.kids) (v7.toNat * Ty.size tNode) :: bz 5 [])) [.box 25 (cNode a_0), .box 25 (cNode b_1)] (by kernel_rfl) (by kernel_rfl) (by kernel_rfl) ?_
                refine JD_val (c := .reads) (fun s => aload E0.tb s 25 (.fp (List.flatMap (Ty.cells tNode) b_1.kids) (v7.toNat * Ty.size tNode))) (by kernel_rfl) (fp_loadN tNode (o := 0) (vs := (cNode x12)) tb_25 rfl h13 (by decide) (by rw [tNode_cells]; rfl)) (by kernel_rfl) ?_
                refine JD_upd (c := .free) (fun s => some ((vI levels_2), [.box 25 (cNode a_0), .box 25 (cNode b_1)])) (by kernel_rfl) rfl (by kernel_rfl) ?_
                refine JD_upd (c := .reads) (fun s => some (.sc (.int .i64 (IntKind.wrap .i64 (levels_2 - 1))), [.box 25 (cNode a_0), .box 25 (cNode b_1)])) (by kernel_rfl) rfl (by kernel_rfl) ?_
                refine JD_seg [.reads, .reads, .free, .reads, .reads, .reads, .reads, .free, .reads, .reads, .free, .reads] (.bad :: .bad :: (vI levels_2) :: .ref 0 0 0 :: .ref 1 0 0 :: .bad :: .bad :: (vI v7) :: bz 28 [(vI v7), .ref 0 0 2, Ty.sl tNode a_0.kids, .sc (.int .i64 (a_0.kids.length : Int)), (vB true), (vB true), (vI v7), .ref 1 0 2, Ty.sl tNode b_1.kids, .sc (.int .i64 (b_1.kids.length : Int)), .sc (.bool (decide (v7 < (b_1.kids.length : Int)))), .sc (.bool (decide (v7 < (b_1.kids.length : Int)))), .bad, .bad, .ref 0 0 2, Ty.sl tNode a_0.kids, (vI v7), .fp (List.flatMap (Ty.cells tNode) a_0.kids) (v7.toNat * Ty.size tNode), .agg (cNode x10), .ref 1 0 2, Ty.sl tNode b_1.kids, (vI v7), .fp (List.flatMap (Ty.cells tNode) b_1.kids) (v7.toNat * Ty.size tNode), .agg (cNode x12), (vI levels_2), .sc (.int .i64 (IntKind.wrap .i64 (levels_2 - 1))), .bad, .bad]) [.box 25 (cNode a_0), .box 25 (cNode b_1)] (by kernel_rfl) (by kernel_rfl) (by kernel_rfl) ?_
                obtain ⟨r14, h15, h⟩ := Option.bind_eq_some_iff.1 h
                refine JD_upd (c := .free) (fun s => fcall E0 52 [.agg (cNode x10), .agg (cNode x12), .sc (.int .i64 (IntKind.wrap .i64 (levels_2 - 1)))] s) (by kernel_rfl) (hrec_ x10 x12 (IntKind.wrap .i64 (levels_2 - 1)) _ _ h15) (Eq.trans (b := if pureL [.agg (cNode x10), .agg (cNode x12), .sc (.int .i64 (IntKind.wrap .i64 (levels_2 - 1)))] = true then Cls.free else Cls.writes) (by kernel_rfl) (cls_if (pC (pAgg (pC rfl (pC (sl_pure tProp _) (pC (sl_pure tNode _) pN)))) (pC (pAgg (pC rfl (pC (sl_pure tProp _) (pC (sl_pure tNode _) pN)))) (pC rfl pN))))) ?_
                refine JD_upd (c := .free) (fun s => some (.sc (.bool (!r14)), [.box 25 (cNode a_0), .box 25 (cNode b_1)])) (by kernel_rfl) rfl (by kernel_rfl) ?_
                refine JD_seg [.reads, .reads, .free, .reads, .reads, .reads, .reads, .free, .reads, .reads, .free, .reads, .free, .free] (.bad :: .bad :: (vI levels_2) :: .ref 0 0 0 :: .ref 1 0 0 :: .bad :: .bad :: (vI v7) :: bz 28 [(vI v7), .ref 0 0 2, Ty.sl tNode a_0.kids, .sc (.int .i64 (a_0.kids.length : Int)), (vB true), (vB true), (vI v7), .ref 1 0 2, Ty.sl tNode b_1.kids, .sc (.int .i64 (b_1.kids.length : Int)), .sc (.bool (decide (v7 < (b_1.kids.length : Int)))), .sc (.bool (decide (v7 < (b_1.kids.length : Int)))), .bad, .bad, .ref 0 0 2, Ty.sl tNode a_0.kids, (vI v7), .fp (List.flatMap (Ty.cells tNode) a_0.kids) (v7.toNat * Ty.size tNode), .agg (cNode x10), .ref 1 0 2, Ty.sl tNode b_1.kids, (vI v7), .fp (List.flatMap (Ty.cells tNode) b_1.kids) (v7.toNat * Ty.size tNode), .agg (cNode x12), (vI levels_2), .sc (.int .i64 (IntKind.wrap .i64 (levels_2 - 1))), (vB r14), .sc (.bool (!r14))]) [.box 25 (cNode a_0), .box 25 (cNode b_1)] (by kernel_rfl) (by kernel_rfl) (by kernel_rfl) ?_
                refine JD_end (by kernel_rfl) (by kernel_rfl) ?_
                refine JK_sq ?_
                rcases bool_cases (!r14) with h16 | h16
                · rw [if_pos h16] at h
                  refine J_condT (v := (!r14)) (by kernel_rfl) h16 ?_
                  refine J_seq ?_
                  refine J_region ?_
                  refine JS_end (.bad :: .bad :: (vI levels_2) :: .ref 0 0 0 :: .ref 1 0 0 :: .bad :: (vB false) :: (vI v7) :: bz 28 [(vI v7), .ref 0 0 2, Ty.sl tNode a_0.kids, .sc (.int .i64 (a_0.kids.length : Int)), (vB true), (vB true), (vI v7), .ref 1 0 2, Ty.sl tNode b_1.kids, .sc (.int .i64 (b_1.kids.length : Int)), .sc (.bool (decide (v7 < (b_1.kids.length : Int)))), .sc (.bool (decide (v7 < (b_1.kids.length : Int)))), .bad, .bad, .ref 0 0 2, Ty.sl tNode a_0.kids, (vI v7), .fp (List.flatMap (Ty.cells tNode) a_0.kids) (v7.toNat * Ty.size tNode), .agg (cNode x10), .ref 1 0 2, Ty.sl tNode b_1.kids, (vI v7), .fp (List.flatMap (Ty.cells tNode) b_1.kids) (v7.toNat * Ty.size tNode), .agg (cNode x12), (vI levels_2), .sc (.int .i64 (IntKind.wrap .i64 (levels_2 - 1))), (vB r14), .sc (.bool (!r14))]) [.box 25 (cNode a_0), .box 25 (cNode b_1)] (by kernel_rfl) ?_
                  refine JK_sq ?_
                  refine J_ret ?_
                  refine JK_bl_ret ?_
                  refine JK_sq_ret ?_
                  refine JK_nil ?_
                  obtain rfl := Option.some.inj h
                  exact turn_ret (tm' := (bz 6 ((vB false) :: bz 57 []))) (st' := [.box 25 (cNode a_0), .box 25 (cNode b_1)]) () (kill_go (mid := (bz 6 ((vB false) :: bz 57 []))) (by kernel_rfl) (mZ 6 (mC (by kernel_rfl) (mZ 57 mN)))) (cut_go (mid := [.box 25 (cNode a_0), .box 25 (cNode b_1)]) (by kernel_rfl) (oC (oB (lC (by kernel_rfl) (lC (sl_scrub tProp _ _) (lC (sl_scrub tNode _ _) lN)))) (oC (oB (lC (by kernel_rfl) (lC (sl_scrub tProp _ _) (lC (sl_scrub tNode _ _) lN)))) oN))) (by kernel_rfl)
                · rw [if_neg (ne_true h16)] at h
                  refine J_condF (v := (!r14)) (by kernel_rfl) h16 ?_
                  refine J_skip ?_
                  refine JK_bl ?_
                  refine JK_sq ?_
                  refine J_region ?_
                  refine JS_end (.bad :: .bad :: (vI levels_2) :: .ref 0 0 0 :: .ref 1 0 0 :: .bad :: .bad :: .sc (.int .i64 (IntKind.wrap .i64 (v7 + 1))) :: bz 28 [(vI v7), .ref 0 0 2, Ty.sl tNode a_0.kids, .sc (.int .i64 (a_0.kids.length : Int)), (vB true), (vB true), (vI v7), .ref 1 0 2, Ty.sl tNode b_1.kids, .sc (.int .i64 (b_1.kids.length : Int)), .sc (.bool (decide (v7 < (b_1.kids.length : Int)))), .sc (.bool (decide (v7 < (b_1.kids.length : Int)))), (vI v7), .sc (.int .i64 (IntKind.wrap .i64 (v7 + 1))), .ref 0 0 2, Ty.sl tNode a_0.kids, (vI v7), .fp (List.flatMap (Ty.cells tNode) a_0.kids) (v7.toNat * Ty.size tNode), .agg (cNode x10), .ref 1 0 2, Ty.sl tNode b_1.kids, (vI v7), .fp (List.flatMap (Ty.cells tNode) b_1.kids) (v7.toNat * Ty.size tNode), .agg (cNode x12), (vI levels_2), .sc (.int .i64 (IntKind.wrap .i64 (levels_2 - 1))), (vB r14), .sc (.bool (!r14))]) [.box 25 (cNode a_0), .box 25 (cNode b_1)] (by kernel_rfl) ?_
                  refine JK_nil ?_
                  obtain rfl := Option.some.inj h
                  exact turn_next () (kill_go (mid := (.bad :: .bad :: (vI levels_2) :: .ref 0 0 0 :: .ref 1 0 0 :: .bad :: .bad :: .sc (.int .i64 (IntKind.wrap .i64 (v7 + 1))) :: bz 56 [])) (by kernel_rfl) (mB (mB (mC (by kernel_rfl) (mC (by kernel_rfl) (mC (by kernel_rfl) (mB (mB (mC (by kernel_rfl) (mZ 56 mN)))))))))) (cut_go (mid := [.box 25 (cNode a_0), .box 25 (cNode b_1)]) (by kernel_rfl) (oC (oB (lC (by kernel_rfl) (lC (sl_scrub tProp _ _) (lC (sl_scrub tNode _ _) lN)))) (oC (oB (lC (by kernel_rfl) (lC (sl_scrub tProp _ _) (lC (sl_scrub tNode _ _) lN)))) oN)))
              · rw [if_neg (ne_true h9)] at h
                refine J_condF (v := (decide (v7 < (b_1.kids.length : Int)))) (by kernel_rfl) h9 ?_
                refine J_exit ?_
                refine JK_sq_exit ?_
                refine JK_nil ?_
                obtain rfl := Option.some.inj h
                exact turn_exit (tm' := (bz 64 [])) (st' := [.box 25 (cNode a_0), .box 25 (cNode b_1)]) () (kill_go (mid := (bz 64 [])) (by kernel_rfl) (mZ 64 mN)) (cut_go (mid := [.box 25 (cNode a_0), .box 25 (cNode b_1)]) (by kernel_rfl) (oC (oB (lC (by kernel_rfl) (lC (sl_scrub tProp _ _) (lC (sl_scrub tNode _ _) lN)))) (oC (oB (lC (by kernel_rfl) (lC (sl_scrub tProp _ _) (lC (sl_scrub tNode _ _) lN)))) oN))) (by kernel_rfl)
            · rw [if_neg (ne_true h8)] at h
              refine JS_cast (tm' := (.bad :: .bad :: (vI levels_2) :: .ref 0 0 0 :: .ref 1 0 0 :: .bad :: .bad :: (vI v7) :: bz 28 ((vI v7) :: .ref 0 0 2 :: Ty.sl tNode a_0.kids :: .sc (.int .i64 (a_0.kids.length : Int)) :: (vB false) :: (vB false) :: bz 22 []))) (by rw [h8]) rfl ?_
              refine JS_end (.bad :: .bad :: (vI levels_2) :: .ref 0 0 0 :: .ref 1 0 0 :: .bad :: .bad :: (vI v7) :: bz 28 ((vI v7) :: .ref 0 0 2 :: Ty.sl tNode a_0.kids :: .sc (.int .i64 (a_0.kids.length : Int)) :: (vB false) :: (vB false) :: .tup [] :: .tup [] :: .tup [] :: .tup [] :: .tup [] :: (vB false) :: bz 16 [])) [.box 25 (cNode a_0), .box 25 (cNode b_1)] (by kernel_rfl) ?_
              refine JK_sq ?_
              refine J_condF (v := false) (by kernel_rfl) rfl ?_
              refine J_exit ?_
              refine JK_sq_exit ?_
              refine JK_nil ?_
              obtain rfl := Option.some.inj h
              exact turn_exit (tm' := (bz 64 [])) (st' := [.box 25 (cNode a_0), .box 25 (cNode b_1)]) () (kill_go (mid := (bz 64 [])) (by kernel_rfl) (mZ 64 mN)) (cut_go (mid := [.box 25 (cNode a_0), .box 25 (cNode b_1)]) (by kernel_rfl) (oC (oB (lC (by kernel_rfl) (lC (sl_scrub tProp _ _) (lC (sl_scrub tNode _ _) lN)))) (oC (oB (lC (by kernel_rfl) (lC (sl_scrub tProp _ _) (lC (sl_scrub tNode _ _) lN)))) oN))) (by kernel_rfl)
          · intro g_
            rcases r17 with r19 | r20
            · dsimp only at h
              refine (show JK _ _ _ _ (.exit 0, (bz 64 []), [.box 25 (cNode a_0), .box 25 (cNode b_1)]) from ?_)
              refine JK_bl_hit ?_
              refine JK_sq ?_
              refine J_seq ?_
              refine J_region ?_
              refine JS_end (bz 6 ((vB true) :: bz 57 [])) [.box 25 (cNode a_0), .box 25 (cNode b_1)] (by kernel_rfl) ?_
              refine JK_sq ?_
              refine J_ret ?_
              refine JK_nil ?_
              obtain rfl := Option.some.inj h
              exact ret_A (r := (vB true)) (r' := (vB true)) (.inl rfl) (by kernel_rfl) (by kernel_rfl) rfl ⟨by kernel_rfl, rfl⟩
            · dsimp only at h
              refine (show JK _ _ _ _ (.ret, (bz 6 ((vB false) :: bz 57 [])), [.box 25 (cNode a_0), .box 25 (cNode b_1)]) from ?_)
              refine JK_bl_ret ?_
              refine JK_sq_ret ?_
              refine JK_nil ?_
              obtain rfl := Option.some.inj h
              exact ret_A (r := (vB false)) (r' := (vB false)) (.inl rfl) (by kernel_rfl) (by kernel_rfl) rfl ⟨by kernel_rfl, rfl⟩

theorem ref12_same_k_C : ∀ (k : Nat) (a_0 : GNode) (b_1 : GNode) (levels_2 : Int) (r : Bool) (st : Store), ref12_same_k k a_0 b_1 levels_2 = some r → fcall E0 52 [.agg (cNode a_0), .agg (cNode b_1), (vI levels_2)] st = some ((vB r), st)
  | 0, a_0, b_1, levels_2, r, st, h => by simp [ref12_same_k] at h
  | k + 1, a_0, b_1, levels_2, r, st, h => ref12_same_b_C (ref12_same_k k) (ref12_same_k_C k) a_0 b_1 levels_2 r st (by simpa only [ref12_same_k] using h)

theorem ref12_same_C (a_0 : GNode) (b_1 : GNode) (levels_2 : Int) (r : Bool) (st : Store) (h : ref12_same a_0 b_1 levels_2 = some r) : fcall E0 52 [.agg (cNode a_0), .agg (cNode b_1), (vI levels_2)] st = some ((vB r), st) := by
  obtain ⟨k, hk⟩ := limF_some h
  exact ref12_same_k_C k a_0 b_1 levels_2 r st hk

theorem ref12_Same_C (a_0 : GNode) (b_1 : GNode) (r : Bool) (st : Store) (h : ref12_Same a_0 b_1 = some r) : fcall E0 15 [.agg (cNode a_0), .agg (cNode b_1)] st = some ((vB r), st) := by
  unfold ref12_Same at h
  refine fn_alone (fn := Tryd.f15) (av' := (.agg (cNode a_0) :: .agg (cNode b_1) :: bz 6 [])) rfl fn_15 rfl (pC (pAgg (pC rfl (pC (sl_pure tProp _) (pC (sl_pure tNode _) pN)))) (pC (pAgg (pC rfl (pC (sl_pure tProp _) (pC (sl_pure tNode _) pN)))) pN)) rfl rfl rfl (has_go (as1 := [.agg (cNode a_0), .agg (cNode b_1)]) (lC (sAgg (lC (by kernel_rfl) (lC (sl_scrub tProp _ _) (lC (sl_scrub tNode _ _) lN)))) (lC (sAgg (lC (by kernel_rfl) (lC (sl_scrub tProp _ _) (lC (sl_scrub tNode _ _) lN)))) lN)) (by kernel_rfl)) ?_
  refine J_seq ?_
  refine J_region ?_
  refine JS_end [.agg (cNode a_0), .agg (cNode b_1), .ref 0 0 0, .ref 1 0 0, (vB false), .bad, .bad, .bad] [.box 25 (cNode a_0), .box 25 (cNode b_1)] (by kernel_rfl) ?_
  refine JK_sq ?_
  refine J_seq ?_
  refine J_region ?_
  refine JS_seg 2 [.agg (cNode a_0), .agg (cNode b_1), .ref 0 0 0, .ref 1 0 0, (vB false), .agg (cNode a_0), .agg (cNode b_1), .bad] [.box 25 (cNode a_0), .box 25 (cNode b_1)] (by kernel_rfl) ?_
  obtain ⟨r1, h2, h⟩ := Option.bind_eq_some_iff.1 h
  refine JS_upd (fun s => fcall E0 52 [.agg (cNode a_0), .agg (cNode b_1), (vI 20)] s) (by kernel_rfl) (ref12_same_C a_0 b_1 20 _ _ h2) ?_
  refine JS_end [.agg (cNode a_0), .agg (cNode b_1), .ref 0 0 0, .ref 1 0 0, (vB r1), .agg (cNode a_0), .agg (cNode b_1), (vB r1)] [.box 25 (cNode a_0), .box 25 (cNode b_1)] (by kernel_rfl) ?_
  refine JK_sq ?_
  refine J_ret ?_
  refine JK_nil ?_
  obtain rfl := Option.some.inj h
  exact ret_A (r := (vB r1)) (r' := (vB r1)) (.inl rfl) (by kernel_rfl) (by kernel_rfl) rfl ⟨by kernel_rfl, rfl⟩

end Go.Proofs.YticlelmlnadclaaDoor
