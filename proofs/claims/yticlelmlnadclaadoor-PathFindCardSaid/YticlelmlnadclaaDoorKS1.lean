/-
  What the evaluator's calls come to. Printed by program. No condition.
-/
import Derived.Test.YticlelmlnadclaaDoorKQ
import Derived.Test.YticlelmlnadclaaDoorKS0
set_option linter.unusedVariables false
set_option linter.unusedSimpArgs false
set_option linter.unusedSectionVars false
set_option linter.unnecessarySimpa false
set_option linter.deprecated false
namespace Go.Proofs.YticlelmlnadclaaDoor
open Go.P
open Go Go.Abs

set_option maxRecDepth 100000
set_option maxHeartbeats 4000000

theorem path_Find_C (n_0 : GNode) (path_1 : Str) (r : GNode × Bool) (st : Store) (h : path_Find n_0 path_1 = some r) : fcall E0 11 [.agg (cNode n_0), strV path_1] st = some (.tup [.agg (cNode r.1), .sc (.bool r.2)], st) := by
  unfold path_Find at h
  refine fn_alone (fn := Tryd.f11) (av' := [.agg (cNode n_0), strV path_1, .bad, .bad, .bad, .bad, .bad, .bad, .bad, .bad, .bad, .bad, .bad, .bad, .bad, .bad, .bad, .bad, .bad, .bad, .bad, .bad, .bad, .bad, .bad, .bad, .bad, .bad, .bad, .bad, .bad, .bad, .bad]) rfl fn_11 rfl (pC (pAgg (pC rfl (pC (sl_pure tProp _) (pC (sl_pure tNode _) pN)))) (pC rfl pN)) rfl rfl rfl (has_go (as1 := [.agg (cNode n_0), strV path_1]) (lC (sAgg (lC (by kernel_rfl) (lC (sl_scrub tProp _ _) (lC (sl_scrub tNode _ _) lN)))) (lC (by kernel_rfl) lN)) (by kernel_rfl)) ?_
  refine J_seq ?_
  refine J_region ?_
  refine JS_end [.agg (cNode n_0), strV path_1, .ref 0 0 0, .bad, .ref 1 0 0, (vB false), .bad, .bad, .bad, .bad, .bad, .bad, .bad, .bad, .bad, .bad, .bad, .bad, .bad, .bad, .bad, .bad, .bad, .bad, .bad, .bad, .bad, .bad, .bad, .bad, .bad, .bad, .bad] [.box 25 (cNode n_0), .box 25 [strV [], .sc (.slice none 0 0), .sc (.slice none 0 0)]] (by kernel_rfl) ?_
  refine JK_sq ?_
  refine J_seq ?_
  refine J_region ?_
  refine JS_seg 1 [.agg (cNode n_0), strV path_1, .ref 0 0 0, .bad, .ref 1 0 0, (vB false), .bad, .bad, .bad, .bad, .bad, strV path_1, .bad, .bad, .bad, .bad, .bad, .bad, .bad, .bad, .bad, .bad, .bad, .bad, .bad, .bad, .bad, .bad, .bad, .bad, .bad, .bad, .bad] [.box 25 (cNode n_0), .box 25 [strV [], .sc (.slice none 0 0), .sc (.slice none 0 0)]] (by kernel_rfl) ?_
  obtain ⟨r1, h2, h⟩ := Option.bind_eq_some_iff.1 h
  refine JS_upd (fun s => fcall E0 22 [strV path_1] s) (by kernel_rfl) (path_Parts_C path_1 _ _ h2) ?_
  refine JS_end [.agg (cNode n_0), strV path_1, .ref 0 0 0, .bad, .ref 1 0 0, (vB false), Ty.sl tS r1.1, .sc (.bool r1.2), .bad, .bad, .tup [Ty.sl tS r1.1, .sc (.bool r1.2)], strV path_1, .tup [Ty.sl tS r1.1, .sc (.bool r1.2)], Ty.sl tS r1.1, .sc (.bool r1.2), .bad, .bad, .bad, .bad, .bad, .bad, .bad, .bad, .bad, .bad, .bad, .bad, .bad, .bad, .bad, .bad, .bad, .bad] [.box 25 (cNode n_0), .box 25 [strV [], .sc (.slice none 0 0), .sc (.slice none 0 0)]] (by kernel_rfl) ?_
  refine JK_sq ?_
  refine J_seq ?_
  refine J_seq ?_
  refine J_region ?_
  refine JS_end [.agg (cNode n_0), strV path_1, .ref 0 0 0, .bad, .ref 1 0 0, (vB false), Ty.sl tS r1.1, .sc (.bool r1.2), .bad, .bad, .tup [Ty.sl tS r1.1, .sc (.bool r1.2)], strV path_1, .tup [Ty.sl tS r1.1, .sc (.bool r1.2)], Ty.sl tS r1.1, .sc (.bool r1.2), Ty.sl tS r1.1, .sc (.int .i64 (r1.1.length : Int)), (vI 0), .bad, .bad, .bad, .bad, .bad, .bad, .bad, .bad, .bad, .bad, .bad, .bad, .bad, .bad, .bad] [.box 25 (cNode n_0), .box 25 [strV [], .sc (.slice none 0 0), .sc (.slice none 0 0)]] (by kernel_rfl) ?_
  refine JK_sq ?_
  refine J_block ?_
  obtain ⟨r14, h15, h⟩ := Option.bind_eq_some_iff.1 h
  refine J_loop (γ := Unit) h15 2 [.agg (cNode n_0), strV path_1, .ref 0 0 0, .bad, .ref 1 0 0, (vB false), Ty.sl tS r1.1, .sc (.bool r1.2), .bad, .bad, .tup [Ty.sl tS r1.1, .sc (.bool r1.2)], strV path_1, .tup [Ty.sl tS r1.1, .sc (.bool r1.2)], Ty.sl tS r1.1, .sc (.bool r1.2), Ty.sl tS r1.1, .sc (.int .i64 (r1.1.length : Int)), (vI 0), .bad, .bad, .bad, .bad, .bad, .bad, .bad, .bad, .bad, .bad, .bad, .bad, .bad, .bad, .bad] [.box 25 (cNode n_0), .box 25 [strV [], .sc (.slice none 0 0), .sc (.slice none 0 0)]] (fun s g => [.bad, .bad, .ref 0 0 0, .bad, .ref 1 0 0, .bad, .bad, .sc (.bool s.1), .bad, .bad, .bad, .bad, .bad, .bad, .bad, Ty.sl tS r1.1, .sc (.int .i64 (r1.1.length : Int)), .sc (.int .i64 s.2.1), .bad, .bad, .bad, .bad, .bad, .bad, .bad, .bad, .bad, .bad, .bad, .bad, .bad, .bad, .bad]) (fun s g => [.box 25 [strV s.2.2.1, Ty.sl tProp s.2.2.2.1, Ty.sl tNode s.2.2.2.2], .box 25 [strV [], Ty.sl tProp [], Ty.sl tNode []]]) (fun r g => (.exit 0, [.bad, .bad, .ref 0 0 0, .bad, .ref 1 0 0, .bad, .bad, .sc (.bool r.1), .bad, .bad, .bad, .bad, .bad, .bad, .bad, .bad, .bad, .bad, .bad, .bad, .bad, .bad, .bad, .bad, .bad, .bad, .bad, .bad, .bad, .bad, .bad, .bad, .bad], [.box 25 [strV r.2.1, Ty.sl tProp r.2.2.1, Ty.sl tNode r.2.2.2], .box 25 [strV [], Ty.sl tProp [], Ty.sl tNode []]])) () (by kernel_rfl) (by kernel_rfl) (kill_go (mid := [.bad, .bad, .ref 0 0 0, .bad, .ref 1 0 0, .bad, .bad, .sc (.bool r1.2), .bad, .bad, .bad, .bad, .bad, .bad, .bad, Ty.sl tS r1.1, .sc (.int .i64 (r1.1.length : Int)), (vI 0), .bad, .bad, .bad, .bad, .bad, .bad, .bad, .bad, .bad, .bad, .bad, .bad, .bad, .bad, .bad]) (by kernel_rfl) (mB (mB (mC (by kernel_rfl) (mB (mC (by kernel_rfl) (mB (mB (mC (by kernel_rfl) (mB (mB (mB (mB (mB (mB (mB (mC (sl_scrub tS _ _) (mC (by kernel_rfl) (mC (by kernel_rfl) (mB (mB (mB (mB (mB (mB (mB (mB (mB (mB (mB (mB (mB (mB (mB mN)))))))))))))))))))))))))))))))))) (cut_go (mid := [.box 25 (cNode n_0), .box 25 [strV [], .sc (.slice none 0 0), .sc (.slice none 0 0)]]) (by kernel_rfl) (oC (oB (lC (by kernel_rfl) (lC (sl_scrub tProp _ _) (lC (sl_scrub tNode _ _) lN)))) (oC (oB (lC (by kernel_rfl) (lC (by kernel_rfl) (lC (by kernel_rfl) lN)))) oN))) ?_ ?_
  · rintro ⟨v3, v4, v5, v6, v7⟩ _ y h
    unfold path_Find_l1 at h
    dsimp only at h
    refine J_seq ?_
    refine J_region ?_
    refine JS_end [.bad, .bad, .ref 0 0 0, .bad, .ref 1 0 0, .bad, .bad, (vB v3), .bad, .bad, .bad, .bad, .bad, .bad, .bad, Ty.sl tS r1.1, .sc (.int .i64 (r1.1.length : Int)), (vI v4), .sc (.bool (decide (v4 < (r1.1.length : Int)))), .bad, .bad, .bad, .bad, .bad, .bad, .bad, .bad, .bad, .bad, .bad, .bad, .bad, .bad] [.box 25 [strV v5, Ty.sl tProp v6, Ty.sl tNode v7], .box 25 [strV [], Ty.sl tProp [], Ty.sl tNode []]] (by kernel_rfl) ?_
    refine JK_sq ?_
    refine J_seq ?_
    rcases bool_cases (decide (v4 < (r1.1.length : Int))) with h8 | h8
    · rw [if_pos h8] at h
      refine J_condT (v := (decide (v4 < (r1.1.length : Int)))) (by kernel_rfl) h8 ?_
      refine J_skip ?_
      refine JK_sq ?_
      refine J_seq ?_
      refine J_block ?_
      refine J_seq ?_
      refine J_region ?_
      refine JS_seg 0 [.bad, .bad, .ref 0 0 0, .bad, .ref 1 0 0, .bad, .bad, (vB v3), .bad, .bad, .bad, .bad, .bad, .bad, .bad, Ty.sl tS r1.1, .sc (.int .i64 (r1.1.length : Int)), (vI v4), .sc (.bool (decide (v4 < (r1.1.length : Int)))), .bad, .bad, .bad, .bad, .bad, .bad, .bad, .bad, .bad, .bad, .bad, .bad, .bad, .bad] [.box 25 [strV v5, Ty.sl tProp v6, Ty.sl tNode v7], .box 25 [strV [], Ty.sl tProp [], Ty.sl tNode []]] (by kernel_rfl) ?_
      obtain ⟨x9, h10, h⟩ := Option.bind_eq_some_iff.1 h
      refine JS_val (fun s => aindexAddr E0.tb s 37 (Ty.sl tS r1.1) ((vI v4))) (by kernel_rfl) (sl_addr tS tb_37 rfl tb_9 rfl h10) ?_
      refine JS_seg 1 [.bad, .bad, .ref 0 0 0, .bad, .ref 1 0 0, .bad, .bad, (vB v3), .bad, .bad, .bad, .bad, .bad, .bad, .bad, Ty.sl tS r1.1, .sc (.int .i64 (r1.1.length : Int)), (vI v4), .sc (.bool (decide (v4 < (r1.1.length : Int)))), .fp (List.flatMap (Ty.cells tS) r1.1) (v4.toNat * Ty.size tS), .bad, .bad, .bad, .bad, .bad, .bad, .bad, .bad, .bad, .bad, .bad, .bad, .bad] [.box 25 [strV v5, Ty.sl tProp v6, Ty.sl tNode v7], .box 25 [strV [], Ty.sl tProp [], Ty.sl tNode []]] (by kernel_rfl) ?_
      refine JS_val (fun s => aload E0.tb s 9 (.fp (List.flatMap (Ty.cells tS) r1.1) (v4.toNat * Ty.size tS))) (by kernel_rfl) (fp_load1 tS (o := 0) tb_9 rfl h10 (rfl)) ?_
      refine JS_end [.bad, .bad, .ref 0 0 0, .bad, .ref 1 0 0, .bad, .bad, (vB v3), .bad, strV x9, .bad, .bad, .bad, .bad, .bad, Ty.sl tS r1.1, .sc (.int .i64 (r1.1.length : Int)), (vI v4), .sc (.bool (decide (v4 < (r1.1.length : Int)))), .fp (List.flatMap (Ty.cells tS) r1.1) (v4.toNat * Ty.size tS), strV x9, .bad, .bad, .bad, .bad, .bad, .bad, .bad, .bad, .bad, .bad, .bad, .bad] [.box 25 [strV v5, Ty.sl tProp v6, Ty.sl tNode v7], .box 25 [strV [], Ty.sl tProp [], Ty.sl tNode []]] (by kernel_rfl) ?_
      refine JK_sq ?_
      refine J_seq ?_
      refine J_region ?_
      refine JS_end [.bad, .bad, .ref 0 0 0, .bad, .ref 1 0 0, .bad, .bad, (vB v3), .bad, strV x9, .bad, .bad, .bad, .bad, .bad, Ty.sl tS r1.1, .sc (.int .i64 (r1.1.length : Int)), (vI v4), .sc (.bool (decide (v4 < (r1.1.length : Int)))), .fp (List.flatMap (Ty.cells tS) r1.1) (v4.toNat * Ty.size tS), strV x9, (vB v3), .bad, .bad, .bad, .bad, .bad, .bad, .bad, .bad, .bad, .bad, .bad] [.box 25 [strV v5, Ty.sl tProp v6, Ty.sl tNode v7], .box 25 [strV [], Ty.sl tProp [], Ty.sl tNode []]] (by kernel_rfl) ?_
      refine JK_sq ?_
      rcases bool_cases v3 with h11 | h11
      · rw [if_pos h11] at h
        refine J_condT (v := v3) (by kernel_rfl) h11 ?_
        refine J_region ?_
        refine JS_seg 2 [.bad, .bad, .ref 0 0 0, .bad, .ref 1 0 0, .bad, .bad, (vB v3), .bad, strV x9, .bad, .bad, .bad, .bad, .bad, Ty.sl tS r1.1, .sc (.int .i64 (r1.1.length : Int)), (vI v4), .sc (.bool (decide (v4 < (r1.1.length : Int)))), .fp (List.flatMap (Ty.cells tS) r1.1) (v4.toNat * Ty.size tS), strV x9, (vB v3), .bad, .agg [strV v5, Ty.sl tProp v6, Ty.sl tNode v7], strV x9, .bad, .bad, .bad, .bad, .bad, .bad, .bad, .bad] [.box 25 [strV v5, Ty.sl tProp v6, Ty.sl tNode v7], .box 25 [strV [], Ty.sl tProp [], Ty.sl tNode []]] (by kernel_rfl) ?_
        obtain ⟨r12, h13, h⟩ := Option.bind_eq_some_iff.1 h
        refine JS_upd (fun s => fcall E0 13 [.agg [strV v5, Ty.sl tProp v6, Ty.sl tNode v7], strV x9] s) (by kernel_rfl) (path_Kid_C (GNode.mk v5 v6 v7) x9 _ _ h13) ?_
        refine JS_end [.bad, .bad, .ref 0 0 0, .bad, .ref 1 0 0, .bad, .bad, .sc (.bool r12.2), .bad, strV x9, .bad, .bad, .bad, .bad, .bad, Ty.sl tS r1.1, .sc (.int .i64 (r1.1.length : Int)), (vI v4), .sc (.bool (decide (v4 < (r1.1.length : Int)))), .fp (List.flatMap (Ty.cells tS) r1.1) (v4.toNat * Ty.size tS), strV x9, (vB v3), .tup [.agg (cNode r12.1), .sc (.bool r12.2)], .agg [strV v5, Ty.sl tProp v6, Ty.sl tNode v7], strV x9, .tup [.agg (cNode r12.1), .sc (.bool r12.2)], .agg (cNode r12.1), .sc (.bool r12.2), .bad, .bad, .bad, .bad, .bad] [.box 25 (cNode r12.1), .box 25 [strV [], Ty.sl tProp [], Ty.sl tNode []]] (by kernel_rfl) ?_
        refine JK_bl ?_
        refine JK_sq ?_
        refine J_region ?_
        refine JS_end [.bad, .bad, .ref 0 0 0, .bad, .ref 1 0 0, .bad, .bad, .sc (.bool r12.2), .bad, strV x9, .bad, .bad, .bad, .bad, .bad, Ty.sl tS r1.1, .sc (.int .i64 (r1.1.length : Int)), .sc (.int .i64 (IntKind.wrap .i64 (v4 + 1))), .sc (.bool (decide (v4 < (r1.1.length : Int)))), .fp (List.flatMap (Ty.cells tS) r1.1) (v4.toNat * Ty.size tS), strV x9, (vB v3), .tup [.agg (cNode r12.1), .sc (.bool r12.2)], .agg [strV v5, Ty.sl tProp v6, Ty.sl tNode v7], strV x9, .tup [.agg (cNode r12.1), .sc (.bool r12.2)], .agg (cNode r12.1), .sc (.bool r12.2), .sc (.int .i64 (IntKind.wrap .i64 (v4 + 1))), .bad, .bad, .bad, .bad] [.box 25 (cNode r12.1), .box 25 [strV [], Ty.sl tProp [], Ty.sl tNode []]] (by kernel_rfl) ?_
        refine JK_nil ?_
        obtain rfl := Option.some.inj h
        exact turn_next () (kill_go (mid := [.bad, .bad, .ref 0 0 0, .bad, .ref 1 0 0, .bad, .bad, .sc (.bool r12.2), .bad, .bad, .bad, .bad, .bad, .bad, .bad, Ty.sl tS r1.1, .sc (.int .i64 (r1.1.length : Int)), .sc (.int .i64 (IntKind.wrap .i64 (v4 + 1))), .bad, .bad, .bad, .bad, .bad, .bad, .bad, .bad, .bad, .bad, .bad, .bad, .bad, .bad, .bad]) (by kernel_rfl) (mB (mB (mC (by kernel_rfl) (mB (mC (by kernel_rfl) (mB (mB (mC (by kernel_rfl) (mB (mB (mB (mB (mB (mB (mB (mC (sl_scrub tS _ _) (mC (by kernel_rfl) (mC (by kernel_rfl) (mB (mB (mB (mB (mB (mB (mB (mB (mB (mB (mB (mB (mB (mB (mB mN)))))))))))))))))))))))))))))))))) (cut_go (mid := [.box 25 (cNode r12.1), .box 25 [strV [], Ty.sl tProp [], Ty.sl tNode []]]) (by kernel_rfl) (oC (oB (lC (by kernel_rfl) (lC (sl_scrub tProp _ _) (lC (sl_scrub tNode _ _) lN)))) (oC (oB (lC (by kernel_rfl) (lC (sl_scrub tProp _ _) (lC (sl_scrub tNode _ _) lN)))) oN)))
      · rw [if_neg (ne_true h11)] at h
        refine J_condF (v := v3) (by kernel_rfl) h11 ?_
        refine J_skip ?_
        refine JK_bl ?_
        refine JK_sq ?_
        refine J_region ?_
        refine JS_end [.bad, .bad, .ref 0 0 0, .bad, .ref 1 0 0, .bad, .bad, (vB v3), .bad, strV x9, .bad, .bad, .bad, .bad, .bad, Ty.sl tS r1.1, .sc (.int .i64 (r1.1.length : Int)), .sc (.int .i64 (IntKind.wrap .i64 (v4 + 1))), .sc (.bool (decide (v4 < (r1.1.length : Int)))), .fp (List.flatMap (Ty.cells tS) r1.1) (v4.toNat * Ty.size tS), strV x9, (vB v3), .bad, .bad, .bad, .bad, .bad, .bad, .sc (.int .i64 (IntKind.wrap .i64 (v4 + 1))), .bad, .bad, .bad, .bad] [.box 25 [strV v5, Ty.sl tProp v6, Ty.sl tNode v7], .box 25 [strV [], Ty.sl tProp [], Ty.sl tNode []]] (by kernel_rfl) ?_
        refine JK_nil ?_
        obtain rfl := Option.some.inj h
        exact turn_next () (kill_go (mid := [.bad, .bad, .ref 0 0 0, .bad, .ref 1 0 0, .bad, .bad, (vB v3), .bad, .bad, .bad, .bad, .bad, .bad, .bad, Ty.sl tS r1.1, .sc (.int .i64 (r1.1.length : Int)), .sc (.int .i64 (IntKind.wrap .i64 (v4 + 1))), .bad, .bad, .bad, .bad, .bad, .bad, .bad, .bad, .bad, .bad, .bad, .bad, .bad, .bad, .bad]) (by kernel_rfl) (mB (mB (mC (by kernel_rfl) (mB (mC (by kernel_rfl) (mB (mB (mC (by kernel_rfl) (mB (mB (mB (mB (mB (mB (mB (mC (sl_scrub tS _ _) (mC (by kernel_rfl) (mC (by kernel_rfl) (mB (mB (mB (mB (mB (mB (mB (mB (mB (mB (mB (mB (mB (mB (mB mN)))))))))))))))))))))))))))))))))) (cut_go (mid := [.box 25 [strV v5, Ty.sl tProp v6, Ty.sl tNode v7], .box 25 [strV [], Ty.sl tProp [], Ty.sl tNode []]]) (by kernel_rfl) (oC (oB (lC (by kernel_rfl) (lC (sl_scrub tProp _ _) (lC (sl_scrub tNode _ _) lN)))) (oC (oB (lC (by kernel_rfl) (lC (sl_scrub tProp _ _) (lC (sl_scrub tNode _ _) lN)))) oN)))
    · rw [if_neg (ne_true h8)] at h
      refine J_condF (v := (decide (v4 < (r1.1.length : Int)))) (by kernel_rfl) h8 ?_
      refine J_exit ?_
      refine JK_sq_exit ?_
      refine JK_nil ?_
      obtain rfl := Option.some.inj h
      exact turn_exit (tm' := [.bad, .bad, .ref 0 0 0, .bad, .ref 1 0 0, .bad, .bad, (vB v3), .bad, .bad, .bad, .bad, .bad, .bad, .bad, .bad, .bad, .bad, .bad, .bad, .bad, .bad, .bad, .bad, .bad, .bad, .bad, .bad, .bad, .bad, .bad, .bad, .bad]) (st' := [.box 25 [strV v5, Ty.sl tProp v6, Ty.sl tNode v7], .box 25 [strV [], Ty.sl tProp [], Ty.sl tNode []]]) () (kill_go (mid := [.bad, .bad, .ref 0 0 0, .bad, .ref 1 0 0, .bad, .bad, (vB v3), .bad, .bad, .bad, .bad, .bad, .bad, .bad, .bad, .bad, .bad, .bad, .bad, .bad, .bad, .bad, .bad, .bad, .bad, .bad, .bad, .bad, .bad, .bad, .bad, .bad]) (by kernel_rfl) (mB (mB (mC (by kernel_rfl) (mB (mC (by kernel_rfl) (mB (mB (mC (by kernel_rfl) (mB (mB (mB (mB (mB (mB (mB (mB (mB (mB (mB (mB (mB (mB (mB (mB (mB (mB (mB (mB (mB (mB (mB (mB (mB mN)))))))))))))))))))))))))))))))))) (cut_go (mid := [.box 25 [strV v5, Ty.sl tProp v6, Ty.sl tNode v7], .box 25 [strV [], Ty.sl tProp [], Ty.sl tNode []]]) (by kernel_rfl) (oC (oB (lC (by kernel_rfl) (lC (sl_scrub tProp _ _) (lC (sl_scrub tNode _ _) lN)))) (oC (oB (lC (by kernel_rfl) (lC (sl_scrub tProp _ _) (lC (sl_scrub tNode _ _) lN)))) oN))) (by kernel_rfl)
  · intro g_
    refine (show JK _ _ _ _ (.exit 0, [.bad, .bad, .ref 0 0 0, .bad, .ref 1 0 0, .bad, .bad, .sc (.bool r14.1), .bad, .bad, .bad, .bad, .bad, .bad, .bad, .bad, .bad, .bad, .bad, .bad, .bad, .bad, .bad, .bad, .bad, .bad, .bad, .bad, .bad, .bad, .bad, .bad, .bad], [.box 25 [strV r14.2.1, Ty.sl tProp r14.2.2.1, Ty.sl tNode r14.2.2.2], .box 25 [strV [], Ty.sl tProp [], Ty.sl tNode []]]) from ?_)
    refine JK_bl_hit ?_
    refine JK_sq ?_
    refine J_seq ?_
    refine J_seq ?_
    refine J_region ?_
    refine JS_end [.bad, .bad, .ref 0 0 0, .bad, .ref 1 0 0, .bad, .bad, .sc (.bool r14.1), .bad, .bad, .bad, .bad, .bad, .bad, .bad, .bad, .bad, .bad, .bad, .bad, .bad, .bad, .bad, .bad, .bad, .bad, .bad, .bad, .bad, .sc (.bool r14.1), .sc (.bool (!r14.1)), .bad, .bad] [.box 25 [strV r14.2.1, Ty.sl tProp r14.2.2.1, Ty.sl tNode r14.2.2.2], .box 25 [strV [], Ty.sl tProp [], Ty.sl tNode []]] (by kernel_rfl) ?_
    refine JK_sq ?_
    rcases bool_cases (!r14.1) with h16 | h16
    · rw [if_pos h16] at h
      refine J_condT (v := (!r14.1)) (by kernel_rfl) h16 ?_
      refine J_seq ?_
      refine J_region ?_
      refine JS_end [.bad, .bad, .ref 0 0 0, .bad, .ref 1 0 0, (vB false), .bad, .sc (.bool r14.1), .bad, .bad, .bad, .bad, .bad, .bad, .bad, .bad, .bad, .bad, .bad, .bad, .bad, .bad, .bad, .bad, .bad, .bad, .bad, .bad, .bad, .sc (.bool r14.1), .sc (.bool (!r14.1)), .agg [strV [], .sc (.slice none 0 0), .sc (.slice none 0 0)], .bad] [.box 25 [strV r14.2.1, Ty.sl tProp r14.2.2.1, Ty.sl tNode r14.2.2.2], .box 25 [strV [], .sc (.slice none 0 0), .sc (.slice none 0 0)]] (by kernel_rfl) ?_
      refine JK_sq ?_
      refine J_ret ?_
      refine JK_sq_ret ?_
      refine JK_nil ?_
      obtain rfl := Option.some.inj h
      exact ret_A (r := .tup [.agg [strV [], .sc (.slice none 0 0), .sc (.slice none 0 0)], (vB false)]) (r' := .tup [.agg [strV [], Ty.sl tProp [], Ty.sl tNode []], (vB false)]) (.inl rfl) (by kernel_rfl) (fTup (fC (fAgg (fC (by kernel_rfl) (fC (by kernel_rfl) (fC (by kernel_rfl) fN)))) (fC (by kernel_rfl) fN))) (pTup (pC (pAgg (pC rfl (pC (sl_pure tProp _) (pC (sl_pure tNode _) pN)))) (pC rfl pN))) ⟨by kernel_rfl, rfl⟩
    · rw [if_neg (ne_true h16)] at h
      refine J_condF (v := (!r14.1)) (by kernel_rfl) h16 ?_
      refine J_skip ?_
      refine JK_sq ?_
      refine J_seq ?_
      refine J_region ?_
      refine JS_end [.bad, .bad, .ref 0 0 0, .bad, .ref 1 0 0, (vB true), .bad, .sc (.bool r14.1), .bad, .bad, .bad, .bad, .bad, .bad, .bad, .bad, .bad, .bad, .bad, .bad, .bad, .bad, .bad, .bad, .bad, .bad, .bad, .bad, .bad, .sc (.bool r14.1), .sc (.bool (!r14.1)), .bad, .agg [strV r14.2.1, Ty.sl tProp r14.2.2.1, Ty.sl tNode r14.2.2.2]] [.box 25 [strV r14.2.1, Ty.sl tProp r14.2.2.1, Ty.sl tNode r14.2.2.2], .box 25 [strV r14.2.1, Ty.sl tProp r14.2.2.1, Ty.sl tNode r14.2.2.2]] (by kernel_rfl) ?_
      refine JK_sq ?_
      refine J_ret ?_
      refine JK_nil ?_
      obtain rfl := Option.some.inj h
      exact ret_A (r := .tup [.agg [strV r14.2.1, Ty.sl tProp r14.2.2.1, Ty.sl tNode r14.2.2.2], (vB true)]) (r' := .tup [.agg [strV r14.2.1, Ty.sl tProp r14.2.2.1, Ty.sl tNode r14.2.2.2], (vB true)]) (.inl rfl) (by kernel_rfl) (fTup (fC (fAgg (fC (by kernel_rfl) (fC (sl_frz tProp _ _ _ _) (fC (sl_frz tNode _ _ _ _) fN)))) (fC (by kernel_rfl) fN))) (pTup (pC (pAgg (pC rfl (pC (sl_pure tProp _) (pC (sl_pure tNode _) pN)))) (pC rfl pN))) ⟨by kernel_rfl, rfl⟩

theorem ref16_Parts_C (path_0 : Str) (r : (List Str) × Bool) (st : Store) (h : ref16_Parts path_0 = some r) : fcall E0 49 [strV path_0] st = some (.tup [Ty.sl tS r.1, .sc (.bool r.2)], st) := by
  unfold ref16_Parts at h
  refine fn_alone (fn := Tryd.f49) (av' := [strV path_0, .bad, .bad, .bad, .bad, .bad, .bad, .bad, .bad, .bad, .bad, .bad, .bad, .bad, .bad, .bad, .bad, .bad, .bad, .bad, .bad, .bad, .bad, .bad, .bad, .bad, .bad, .bad, .bad, .bad, .bad, .bad, .bad, .bad, .bad, .bad, .bad, .bad, .bad, .bad, .bad, .bad, .bad, .bad, .bad, .bad, .bad, .bad, .bad, .bad]) rfl fn_49 rfl (pC rfl pN) rfl rfl rfl (has_go (as1 := [strV path_0]) (lC (by kernel_rfl) lN) (by kernel_rfl)) ?_
  refine J_seq ?_
  refine J_region ?_
  refine JS_end [strV path_0, .bad, .sc (.slice none 0 0), (vB false), .bad, .bad, .bad, .bad, .bad, .bad, .bad, .bad, .bad, .bad, .bad, .bad, .bad, .bad, .bad, .bad, .bad, .bad, .bad, .bad, .bad, .bad, .bad, .bad, .bad, .bad, .bad, .bad, .bad, .bad, .bad, .bad, .bad, .bad, .bad, .bad, .bad, .bad, .bad, .bad, .bad, .bad, .bad, .bad, .bad, .bad] [] (by kernel_rfl) ?_
  refine JK_sq ?_
  refine J_seq ?_
  refine J_seq ?_
  refine J_region ?_
  refine JS_seg 1 [strV path_0, .bad, .sc (.slice none 0 0), (vB false), .bad, .bad, .bad, strV path_0, .bad, .bad, .bad, .bad, .bad, .bad, .bad, .bad, .bad, .bad, .bad, .bad, .bad, .bad, .bad, .bad, .bad, .bad, .bad, .bad, .bad, .bad, .bad, .bad, .bad, .bad, .bad, .bad, .bad, .bad, .bad, .bad, .bad, .bad, .bad, .bad, .bad, .bad, .bad, .bad, .bad, .bad] [] (by kernel_rfl) ?_
  refine JS_val (fun s => abin E0.tb s .eql 9 (strV path_0) (strV [47])) (by kernel_rfl) (str_eq path_0 ([47] : Str)) ?_
  refine JS_end [strV path_0, .bad, .sc (.slice none 0 0), (vB false), .bad, .bad, .bad, strV path_0, .sc (.bool (path_0 == ([47] : Str))), .bad, .bad, .bad, .bad, .bad, .bad, .bad, .bad, .bad, .bad, .bad, .bad, .bad, .bad, .bad, .bad, .bad, .bad, .bad, .bad, .bad, .bad, .bad, .bad, .bad, .bad, .bad, .bad, .bad, .bad, .bad, .bad, .bad, .bad, .bad, .bad, .bad, .bad, .bad, .bad, .bad] [] (by kernel_rfl) ?_
  refine JK_sq ?_
  rcases bool_cases (path_0 == ([47] : Str)) with h1 | h1
  · rw [if_pos h1] at h
    refine J_condT (v := (path_0 == ([47] : Str))) (by kernel_rfl) h1 ?_
    refine J_seq ?_
    refine J_region ?_
    refine JS_end [strV path_0, .bad, .sc (.slice none 0 0), (vB true), .bad, .bad, .bad, strV path_0, .sc (.bool (path_0 == ([47] : Str))), .bad, .bad, .bad, .bad, .bad, .bad, .bad, .bad, .bad, .bad, .bad, .bad, .bad, .bad, .bad, .bad, .bad, .bad, .bad, .bad, .bad, .bad, .bad, .bad, .bad, .bad, .bad, .bad, .bad, .bad, .bad, .bad, .bad, .bad, .bad, .bad, .bad, .bad, .bad, .bad, .bad] [] (by kernel_rfl) ?_
    refine JK_sq ?_
    refine J_ret ?_
    refine JK_sq_ret ?_
    refine JK_nil ?_
    obtain rfl := Option.some.inj h
    exact ret_A (r := .tup [.sc (.slice none 0 0), (vB true)]) (r' := .tup [Ty.sl tS [], (vB true)]) (.inl rfl) (by kernel_rfl) (fTup (fC (by kernel_rfl) (fC (by kernel_rfl) fN))) (pTup (pC (sl_pure tS _) (pC rfl pN))) ⟨by kernel_rfl, rfl⟩
  · rw [if_neg (ne_true h1)] at h
    refine J_condF (v := (path_0 == ([47] : Str))) (by kernel_rfl) h1 ?_
    refine J_skip ?_
    refine JK_sq ?_
    refine J_seq ?_
    refine J_seq ?_
    refine J_region ?_
    refine JS_seg 1 [strV path_0, .bad, .sc (.slice none 0 0), (vB false), .bad, .bad, .bad, strV path_0, .sc (.bool (path_0 == ([47] : Str))), strV path_0, .bad, .bad, .bad, .bad, .bad, .bad, .bad, .bad, .bad, .bad, .bad, .bad, .bad, .bad, .bad, .bad, .bad, .bad, .bad, .bad, .bad, .bad, .bad, .bad, .bad, .bad, .bad, .bad, .bad, .bad, .bad, .bad, .bad, .bad, .bad, .bad, .bad, .bad, .bad, .bad] [] (by kernel_rfl) ?_
    refine JS_val (fun s => abin E0.tb s .eql 9 (strV path_0) (strV [])) (by kernel_rfl) (str_eq path_0 ([] : Str)) ?_
    refine JS_seg 3 [strV path_0, .bad, .sc (.slice none 0 0), (vB false), .bad, .bad, .bad, strV path_0, .sc (.bool (path_0 == ([47] : Str))), strV path_0, .sc (.bool (path_0 == ([] : Str))), .sc (.bool (path_0 == ([] : Str))), .bad, .bad, .bad, .bad, .bad, .bad, .bad, .bad, .bad, .bad, .bad, .bad, .bad, .bad, .bad, .bad, .bad, .bad, .bad, .bad, .bad, .bad, .bad, .bad, .bad, .bad, .bad, .bad, .bad, .bad, .bad, .bad, .bad, .bad, .bad, .bad, .bad, .bad] [] (by kernel_rfl) ?_
    rcases bool_cases (path_0 == ([] : Str)) with h2 | h2
    · rw [if_pos h2] at h
      refine JS_cast (tm' := [strV path_0, .bad, .sc (.slice none 0 0), (vB false), .bad, .bad, .bad, strV path_0, .sc (.bool (path_0 == ([47] : Str))), strV path_0, (vB true), (vB true), .bad, .bad, .bad, .bad, .bad, .bad, .bad, .bad, .bad, .bad, .bad, .bad, .bad, .bad, .bad, .bad, .bad, .bad, .bad, .bad, .bad, .bad, .bad, .bad, .bad, .bad, .bad, .bad, .bad, .bad, .bad, .bad, .bad, .bad, .bad, .bad, .bad, .bad]) (by rw [h2]) rfl ?_
      refine JS_end [strV path_0, .bad, .sc (.slice none 0 0), (vB false), .bad, .bad, .bad, strV path_0, .sc (.bool (path_0 == ([47] : Str))), strV path_0, (vB true), (vB true), .tup [], .tup [], .tup [], (vB true), .bad, .bad, .bad, .bad, .bad, .bad, .bad, .bad, .bad, .bad, .bad, .bad, .bad, .bad, .bad, .bad, .bad, .bad, .bad, .bad, .bad, .bad, .bad, .bad, .bad, .bad, .bad, .bad, .bad, .bad, .bad, .bad, .bad, .bad] [] (by kernel_rfl) ?_
      refine JK_sq ?_
      refine J_condT (v := true) (by kernel_rfl) rfl ?_
      refine J_seq ?_
      refine J_region ?_
      refine JS_end [strV path_0, .bad, .sc (.slice none 0 0), (vB false), .bad, .bad, .bad, strV path_0, .sc (.bool (path_0 == ([47] : Str))), strV path_0, (vB true), (vB true), .tup [], .tup [], .tup [], (vB true), .bad, .bad, .bad, .bad, .bad, .bad, .bad, .bad, .bad, .bad, .bad, .bad, .bad, .bad, .bad, .bad, .bad, .bad, .bad, .bad, .bad, .bad, .bad, .bad, .bad, .bad, .bad, .bad, .bad, .bad, .bad, .bad, .bad, .bad] [] (by kernel_rfl) ?_
      refine JK_sq ?_
      refine J_ret ?_
      refine JK_sq_ret ?_
      refine JK_nil ?_
      obtain rfl := Option.some.inj h
      exact ret_A (r := .tup [.sc (.slice none 0 0), (vB false)]) (r' := .tup [Ty.sl tS [], (vB false)]) (.inl rfl) (by kernel_rfl) (fTup (fC (by kernel_rfl) (fC (by kernel_rfl) fN))) (pTup (pC (sl_pure tS _) (pC rfl pN))) ⟨by kernel_rfl, rfl⟩
    · rw [if_neg (ne_true h2)] at h
      refine JS_cast (tm' := [strV path_0, .bad, .sc (.slice none 0 0), (vB false), .bad, .bad, .bad, strV path_0, .sc (.bool (path_0 == ([47] : Str))), strV path_0, (vB false), (vB false), .bad, .bad, .bad, .bad, .bad, .bad, .bad, .bad, .bad, .bad, .bad, .bad, .bad, .bad, .bad, .bad, .bad, .bad, .bad, .bad, .bad, .bad, .bad, .bad, .bad, .bad, .bad, .bad, .bad, .bad, .bad, .bad, .bad, .bad, .bad, .bad, .bad, .bad]) (by rw [h2]) rfl ?_
      refine JS_seg 4 [strV path_0, .bad, .sc (.slice none 0 0), (vB false), .bad, .bad, .bad, strV path_0, .sc (.bool (path_0 == ([47] : Str))), strV path_0, (vB false), (vB false), strV path_0, .bad, .bad, .bad, .bad, .bad, .bad, .bad, .bad, .bad, .bad, .bad, .bad, .bad, .bad, .bad, .bad, .bad, .bad, .bad, .bad, .bad, .bad, .bad, .bad, .bad, .bad, .bad, .bad, .bad, .bad, .bad, .bad, .bad, .bad, .bad, .bad, .bad] [] (by kernel_rfl) ?_
      obtain ⟨c3, h4, h⟩ := Option.bind_eq_some_iff.1 h
      refine JS_val (fun s => aindex E0.tb 9 (strV path_0) ((vI 0))) (by kernel_rfl) (str_at tb_9 rfl h4) ?_
      refine JS_end [strV path_0, .bad, .sc (.slice none 0 0), (vB false), .bad, .bad, .bad, strV path_0, .sc (.bool (path_0 == ([47] : Str))), strV path_0, (vB false), (vB false), strV path_0, .sc (.int .u8 (c3.toNat : Int)), .sc (.bool ((c3.toNat : Int) != 47)), .sc (.bool ((c3.toNat : Int) != 47)), .bad, .bad, .bad, .bad, .bad, .bad, .bad, .bad, .bad, .bad, .bad, .bad, .bad, .bad, .bad, .bad, .bad, .bad, .bad, .bad, .bad, .bad, .bad, .bad, .bad, .bad, .bad, .bad, .bad, .bad, .bad, .bad, .bad, .bad] [] (by kernel_rfl) ?_
      refine JK_sq ?_
      rcases bool_cases ((c3.toNat : Int) != 47) with h5 | h5
      · rw [if_pos h5] at h
        refine J_condT (v := ((c3.toNat : Int) != 47)) (by kernel_rfl) h5 ?_
        refine J_seq ?_
        refine J_region ?_
        refine JS_end [strV path_0, .bad, .sc (.slice none 0 0), (vB false), .bad, .bad, .bad, strV path_0, .sc (.bool (path_0 == ([47] : Str))), strV path_0, (vB false), (vB false), strV path_0, .sc (.int .u8 (c3.toNat : Int)), .sc (.bool ((c3.toNat : Int) != 47)), .sc (.bool ((c3.toNat : Int) != 47)), .bad, .bad, .bad, .bad, .bad, .bad, .bad, .bad, .bad, .bad, .bad, .bad, .bad, .bad, .bad, .bad, .bad, .bad, .bad, .bad, .bad, .bad, .bad, .bad, .bad, .bad, .bad, .bad, .bad, .bad, .bad, .bad, .bad, .bad] [] (by kernel_rfl) ?_
        refine JK_sq ?_
        refine J_ret ?_
        refine JK_sq_ret ?_
        refine JK_nil ?_
        obtain rfl := Option.some.inj h
        exact ret_A (r := .tup [.sc (.slice none 0 0), (vB false)]) (r' := .tup [Ty.sl tS [], (vB false)]) (.inl rfl) (by kernel_rfl) (fTup (fC (by kernel_rfl) (fC (by kernel_rfl) fN))) (pTup (pC (sl_pure tS _) (pC rfl pN))) ⟨by kernel_rfl, rfl⟩
      · rw [if_neg (ne_true h5)] at h
        refine J_condF (v := ((c3.toNat : Int) != 47)) (by kernel_rfl) h5 ?_
        refine J_skip ?_
        refine JK_sq ?_
        refine J_seq ?_
        refine J_region ?_
        refine JS_end [strV path_0, .bad, .sc (.slice none 0 0), (vB false), .sc (.slice none 0 0), .bad, .bad, strV path_0, .sc (.bool (path_0 == ([47] : Str))), strV path_0, (vB false), (vB false), strV path_0, .sc (.int .u8 (c3.toNat : Int)), .sc (.bool ((c3.toNat : Int) != 47)), .sc (.bool ((c3.toNat : Int) != 47)), .bad, .bad, .bad, .bad, .bad, .bad, .bad, .bad, .bad, .bad, .bad, .bad, .bad, .bad, .bad, .bad, .bad, .bad, .bad, .bad, .bad, .bad, .bad, .bad, .bad, .bad, .bad, .bad, .bad, .bad, .bad, .bad, .bad, .bad] [] (by kernel_rfl) ?_
        refine JK_sq ?_
        refine J_seq ?_
        refine J_region ?_
        refine JS_end [strV path_0, .bad, .sc (.slice none 0 0), (vB false), .sc (.slice none 0 0), (vI 1), .bad, strV path_0, .sc (.bool (path_0 == ([47] : Str))), strV path_0, (vB false), (vB false), strV path_0, .sc (.int .u8 (c3.toNat : Int)), .sc (.bool ((c3.toNat : Int) != 47)), .sc (.bool ((c3.toNat : Int) != 47)), .bad, .bad, .bad, .bad, .bad, .bad, .bad, .bad, .bad, .bad, .bad, .bad, .bad, .bad, .bad, .bad, .bad, .bad, .bad, .bad, .bad, .bad, .bad, .bad, .bad, .bad, .bad, .bad, .bad, .bad, .bad, .bad, .bad, .bad] [] (by kernel_rfl) ?_
        refine JK_sq ?_
        refine J_seq ?_
        refine J_seq ?_
        refine J_region ?_
        refine JS_end [strV path_0, .bad, .sc (.slice none 0 0), (vB false), .sc (.slice none 0 0), (vI 1), (vI 1), strV path_0, .sc (.bool (path_0 == ([47] : Str))), strV path_0, (vB false), (vB false), strV path_0, .sc (.int .u8 (c3.toNat : Int)), .sc (.bool ((c3.toNat : Int) != 47)), .sc (.bool ((c3.toNat : Int) != 47)), .bad, .bad, .bad, .bad, .bad, .bad, .bad, .bad, .bad, .bad, .bad, .bad, .bad, .bad, .bad, .bad, .bad, .bad, .bad, .bad, .bad, .bad, .bad, .bad, .bad, .bad, .bad, .bad, .bad, .bad, .bad, .bad, .bad, .bad] [] (by kernel_rfl) ?_
        refine JK_sq ?_
        refine J_block ?_
        obtain ⟨r27, h28, h⟩ := Option.bind_eq_some_iff.1 h
        refine J_loop (γ := Nat) h28 1 [strV path_0, .bad, .sc (.slice none 0 0), (vB false), Ty.own tS 0 0 [], (vI 1), (vI 1), strV path_0, .sc (.bool (path_0 == ([47] : Str))), strV path_0, (vB false), (vB false), strV path_0, .sc (.int .u8 (c3.toNat : Int)), .sc (.bool ((c3.toNat : Int) != 47)), .sc (.bool ((c3.toNat : Int) != 47)), .bad, .bad, .bad, .bad, .bad, .bad, .bad, .bad, .bad, .bad, .bad, .bad, .bad, .bad, .bad, .bad, .bad, .bad, .bad, .bad, .bad, .bad, .bad, .bad, .bad, .bad, .bad, .bad, .bad, .bad, .bad, .bad, .bad, .bad] [Ty.arr tS 9 0 []] (fun s g => [strV path_0, .bad, .bad, .bad, Ty.own tS 0 g s.2.2, .sc (.int .i64 s.1), .sc (.int .i64 s.2.1), .bad, .bad, .bad, .bad, .bad, .bad, .bad, .bad, .bad, .bad, .bad, .bad, .bad, .bad, .bad, .bad, .bad, .bad, .bad, .bad, .bad, .bad, .bad, .bad, .bad, .bad, .bad, .bad, .bad, .bad, .bad, .bad, .bad, .bad, .bad, .bad, .bad, .bad, .bad, .bad, .bad, .bad, .bad]) (fun s g => [Ty.arr tS 9 g s.2.2]) (fun r g => match r with | (.inl r) => (.exit 0, [.bad, .bad, .bad, .bad, Ty.own tS 0 g r, .bad, .bad, .bad, .bad, .bad, .bad, .bad, .bad, .bad, .bad, .bad, .bad, .bad, .bad, .bad, .bad, .bad, .bad, .bad, .bad, .bad, .bad, .bad, .bad, .bad, .bad, .bad, .bad, .bad, .bad, .bad, .bad, .bad, .bad, .bad, .bad, .bad, .bad, .bad, .bad, .bad, .bad, .bad, .bad, .bad], [Ty.arr tS 9 g r]) | (.inr r) => (.ret, [.bad, .bad, Ty.sl tS [], (vB false), Ty.own tS 0 g r, .bad, .bad, .bad, .bad, .bad, .bad, .bad, .bad, .bad, .bad, .bad, .bad, .bad, .bad, .bad, .bad, .bad, .bad, .bad, .bad, .bad, .bad, .bad, .bad, .bad, .bad, .bad, .bad, .bad, .bad, .bad, .bad, .bad, .bad, .bad, .bad, .bad, .bad, .bad, .bad, .bad, .bad, .bad, .bad, .bad], [Ty.arr tS 9 g r])) 0 (by kernel_rfl) (by kernel_rfl) (kill_go (mid := [strV path_0, .bad, .bad, .bad, Ty.own tS 0 0 [], (vI 1), (vI 1), .bad, .bad, .bad, .bad, .bad, .bad, .bad, .bad, .bad, .bad, .bad, .bad, .bad, .bad, .bad, .bad, .bad, .bad, .bad, .bad, .bad, .bad, .bad, .bad, .bad, .bad, .bad, .bad, .bad, .bad, .bad, .bad, .bad, .bad, .bad, .bad, .bad, .bad, .bad, .bad, .bad, .bad, .bad]) (by kernel_rfl) (mC (by kernel_rfl) (mB (mB (mB (mC (own_scrub tS rfl) (mC (by kernel_rfl) (mC (by kernel_rfl) (mB (mB (mB (mB (mB (mB (mB (mB (mB (mB (mB (mB (mB (mB (mB (mB (mB (mB (mB (mB (mB (mB (mB (mB (mB (mB (mB (mB (mB (mB (mB (mB (mB (mB (mB (mB (mB (mB (mB (mB (mB (mB (mB mN))))))))))))))))))))))))))))))))))))))))))))))))))) (cut_go (mid := [Ty.arr tS 9 0 []]) (by kernel_rfl) (oC (arr_scrub tS) oN)) ?_ ?_
        · rintro ⟨v8, v9, v7⟩ v6 y h
          unfold ref16_Parts_l1 at h
          dsimp only at h
          refine J_seq ?_
          refine J_seq ?_
          refine J_region ?_
          refine JS_end [strV path_0, .bad, .bad, .bad, Ty.own tS 0 v6 v7, (vI v8), (vI v9), .bad, .bad, .bad, .bad, .bad, .bad, .bad, .bad, .bad, (vI v9), strV path_0, .sc (.int .i64 (path_0.length : Int)), .sc (.bool (decide (v9 ≤ (path_0.length : Int)))), .bad, .bad, .bad, .bad, .bad, .bad, .bad, .bad, .bad, .bad, .bad, .bad, .bad, .bad, .bad, .bad, .bad, .bad, .bad, .bad, .bad, .bad, .bad, .bad, .bad, .bad, .bad, .bad, .bad, .bad] [Ty.arr tS 9 v6 v7] (by kernel_rfl) ?_
          refine JK_sq ?_
          rcases bool_cases (decide (v9 ≤ (path_0.length : Int))) with h10 | h10
          · rw [if_pos h10] at h
            refine J_condT (v := (decide (v9 ≤ (path_0.length : Int)))) (by kernel_rfl) h10 ?_
            refine J_skip ?_
            refine JK_sq ?_
            refine J_seq ?_
            refine J_block ?_
            refine J_seq ?_
            refine J_seq ?_
            refine J_region ?_
            refine JS_seg 5 [strV path_0, .bad, .bad, .bad, Ty.own tS 0 v6 v7, (vI v8), (vI v9), .bad, .bad, .bad, .bad, .bad, .bad, .bad, .bad, .bad, (vI v9), strV path_0, .sc (.int .i64 (path_0.length : Int)), .sc (.bool (decide (v9 ≤ (path_0.length : Int)))), .bad, .bad, (vI v9), strV path_0, .sc (.int .i64 (path_0.length : Int)), .sc (.bool (decide (v9 < (path_0.length : Int)))), .sc (.bool (decide (v9 < (path_0.length : Int)))), .bad, .bad, .bad, .bad, .bad, .bad, .bad, .bad, .bad, .bad, .bad, .bad, .bad, .bad, .bad, .bad, .bad, .bad, .bad, .bad, .bad, .bad, .bad] [Ty.arr tS 9 v6 v7] (by kernel_rfl) ?_
            rcases bool_cases (decide (v9 < (path_0.length : Int))) with h11 | h11
            · rw [if_pos h11] at h
              refine JS_cast (tm' := [strV path_0, .bad, .bad, .bad, Ty.own tS 0 v6 v7, (vI v8), (vI v9), .bad, .bad, .bad, .bad, .bad, .bad, .bad, .bad, .bad, (vI v9), strV path_0, .sc (.int .i64 (path_0.length : Int)), .sc (.bool (decide (v9 ≤ (path_0.length : Int)))), .bad, .bad, (vI v9), strV path_0, .sc (.int .i64 (path_0.length : Int)), (vB true), (vB true), .bad, .bad, .bad, .bad, .bad, .bad, .bad, .bad, .bad, .bad, .bad, .bad, .bad, .bad, .bad, .bad, .bad, .bad, .bad, .bad, .bad, .bad, .bad]) (by rw [h11]) rfl ?_
              refine JS_seg 7 [strV path_0, .bad, .bad, .bad, Ty.own tS 0 v6 v7, (vI v8), (vI v9), .bad, .bad, .bad, .bad, .bad, .bad, .bad, .bad, .bad, (vI v9), strV path_0, .sc (.int .i64 (path_0.length : Int)), .sc (.bool (decide (v9 ≤ (path_0.length : Int)))), .bad, .bad, (vI v9), strV path_0, .sc (.int .i64 (path_0.length : Int)), (vB true), (vB true), strV path_0, (vI v9), .bad, .bad, .bad, .bad, .bad, .bad, .bad, .bad, .bad, .bad, .bad, .bad, .bad, .bad, .bad, .bad, .bad, .bad, .bad, .bad, .bad] [Ty.arr tS 9 v6 v7] (by kernel_rfl) ?_
              obtain ⟨c12, h13, h⟩ := Option.bind_eq_some_iff.1 h
              refine JS_val (fun s => aindex E0.tb 9 (strV path_0) ((vI v9))) (by kernel_rfl) (str_at tb_9 rfl h13) ?_
              refine JS_end [strV path_0, .bad, .bad, .bad, Ty.own tS 0 v6 v7, (vI v8), (vI v9), .bad, .bad, .bad, .bad, .bad, .bad, .bad, .bad, .bad, (vI v9), strV path_0, .sc (.int .i64 (path_0.length : Int)), .sc (.bool (decide (v9 ≤ (path_0.length : Int)))), .bad, .bad, (vI v9), strV path_0, .sc (.int .i64 (path_0.length : Int)), (vB true), (vB true), strV path_0, (vI v9), .sc (.int .u8 (c12.toNat : Int)), .sc (.bool ((c12.toNat : Int) != 47)), .sc (.bool ((c12.toNat : Int) != 47)), .bad, .bad, .bad, .bad, .bad, .bad, .bad, .bad, .bad, .bad, .bad, .bad, .bad, .bad, .bad, .bad, .bad, .bad] [Ty.arr tS 9 v6 v7] (by kernel_rfl) ?_
              refine JK_sq ?_
              rcases bool_cases ((c12.toNat : Int) != 47) with h14 | h14
              · rw [if_pos h14] at h
                refine J_condT (v := ((c12.toNat : Int) != 47)) (by kernel_rfl) h14 ?_
                refine J_exit ?_
                refine JK_sq_exit ?_
                refine JK_bl_hit ?_
                refine JK_sq ?_
                refine J_region ?_
                refine JS_end [strV path_0, .bad, .bad, .bad, Ty.own tS 0 v6 v7, (vI v8), .sc (.int .i64 (IntKind.wrap .i64 (v9 + 1))), .bad, .bad, .bad, .bad, .bad, .bad, .bad, .bad, .bad, (vI v9), strV path_0, .sc (.int .i64 (path_0.length : Int)), .sc (.bool (decide (v9 ≤ (path_0.length : Int)))), (vI v9), .sc (.int .i64 (IntKind.wrap .i64 (v9 + 1))), (vI v9), strV path_0, .sc (.int .i64 (path_0.length : Int)), (vB true), (vB true), strV path_0, (vI v9), .sc (.int .u8 (c12.toNat : Int)), .sc (.bool ((c12.toNat : Int) != 47)), .sc (.bool ((c12.toNat : Int) != 47)), .bad, .bad, .bad, .bad, .bad, .bad, .bad, .bad, .bad, .bad, .bad, .bad, .bad, .bad, .bad, .bad, .bad, .bad] [Ty.arr tS 9 v6 v7] (by kernel_rfl) ?_
                refine JK_nil ?_
                obtain rfl := Option.some.inj h
                exact turn_next v6 (kill_go (mid := [strV path_0, .bad, .bad, .bad, Ty.own tS 0 v6 v7, (vI v8), .sc (.int .i64 (IntKind.wrap .i64 (v9 + 1))), .bad, .bad, .bad, .bad, .bad, .bad, .bad, .bad, .bad, .bad, .bad, .bad, .bad, .bad, .bad, .bad, .bad, .bad, .bad, .bad, .bad, .bad, .bad, .bad, .bad, .bad, .bad, .bad, .bad, .bad, .bad, .bad, .bad, .bad, .bad, .bad, .bad, .bad, .bad, .bad, .bad, .bad, .bad]) (by kernel_rfl) (mC (by kernel_rfl) (mB (mB (mB (mC (own_scrub tS rfl) (mC (by kernel_rfl) (mC (by kernel_rfl) (mB (mB (mB (mB (mB (mB (mB (mB (mB (mB (mB (mB (mB (mB (mB (mB (mB (mB (mB (mB (mB (mB (mB (mB (mB (mB (mB (mB (mB (mB (mB (mB (mB (mB (mB (mB (mB (mB (mB (mB (mB (mB (mB mN))))))))))))))))))))))))))))))))))))))))))))))))))) (cut_go (mid := [Ty.arr tS 9 v6 v7]) (by kernel_rfl) (oC (arr_scrub tS) oN))
              · rw [if_neg (ne_true h14)] at h
                refine J_condF (v := ((c12.toNat : Int) != 47)) (by kernel_rfl) h14 ?_
                refine J_skip ?_
                refine JK_sq ?_
                refine J_seq ?_
                refine J_seq ?_
                refine J_region ?_
                refine JS_seg 4 [strV path_0, .bad, .bad, .bad, Ty.own tS 0 v6 v7, (vI v8), (vI v9), .bad, .bad, .bad, .bad, .bad, .bad, .bad, .bad, .bad, (vI v9), strV path_0, .sc (.int .i64 (path_0.length : Int)), .sc (.bool (decide (v9 ≤ (path_0.length : Int)))), .bad, .bad, (vI v9), strV path_0, .sc (.int .i64 (path_0.length : Int)), (vB true), (vB true), strV path_0, (vI v9), .sc (.int .u8 (c12.toNat : Int)), .sc (.bool ((c12.toNat : Int) != 47)), .sc (.bool ((c12.toNat : Int) != 47)), (vI v9), (vI v8), .sc (.bool (v9 == v8)), .sc (.bool (v9 == v8)), .bad, .bad, .bad, .bad, .bad, .bad, .bad, .bad, .bad, .bad, .bad, .bad, .bad, .bad] [Ty.arr tS 9 v6 v7] (by kernel_rfl) ?_
                rcases bool_cases (v9 == v8) with h15 | h15
                · rw [if_pos h15] at h
                  refine JS_cast (tm' := [strV path_0, .bad, .bad, .bad, Ty.own tS 0 v6 v7, (vI v8), (vI v9), .bad, .bad, .bad, .bad, .bad, .bad, .bad, .bad, .bad, (vI v9), strV path_0, .sc (.int .i64 (path_0.length : Int)), .sc (.bool (decide (v9 ≤ (path_0.length : Int)))), .bad, .bad, (vI v9), strV path_0, .sc (.int .i64 (path_0.length : Int)), (vB true), (vB true), strV path_0, (vI v9), .sc (.int .u8 (c12.toNat : Int)), .sc (.bool ((c12.toNat : Int) != 47)), .sc (.bool ((c12.toNat : Int) != 47)), (vI v9), (vI v8), (vB true), (vB true), .bad, .bad, .bad, .bad, .bad, .bad, .bad, .bad, .bad, .bad, .bad, .bad, .bad, .bad]) (by rw [h15]) rfl ?_
                  refine JS_end [strV path_0, .bad, .bad, .bad, Ty.own tS 0 v6 v7, (vI v8), (vI v9), .bad, .bad, .bad, .bad, .bad, .bad, .bad, .bad, .bad, (vI v9), strV path_0, .sc (.int .i64 (path_0.length : Int)), .sc (.bool (decide (v9 ≤ (path_0.length : Int)))), .bad, .bad, (vI v9), strV path_0, .sc (.int .i64 (path_0.length : Int)), (vB true), (vB true), strV path_0, (vI v9), .sc (.int .u8 (c12.toNat : Int)), .sc (.bool ((c12.toNat : Int) != 47)), .sc (.bool ((c12.toNat : Int) != 47)), (vI v9), (vI v8), (vB true), (vB true), .tup [], .tup [], .tup [], (vB true), .bad, .bad, .bad, .bad, .bad, .bad, .bad, .bad, .bad, .bad] [Ty.arr tS 9 v6 v7] (by kernel_rfl) ?_
                  refine JK_sq ?_
                  refine J_condT (v := true) (by kernel_rfl) rfl ?_
                  refine J_seq ?_
                  refine J_region ?_
                  refine JS_end [strV path_0, .bad, .sc (.slice none 0 0), (vB false), Ty.own tS 0 v6 v7, (vI v8), (vI v9), .bad, .bad, .bad, .bad, .bad, .bad, .bad, .bad, .bad, (vI v9), strV path_0, .sc (.int .i64 (path_0.length : Int)), .sc (.bool (decide (v9 ≤ (path_0.length : Int)))), .bad, .bad, (vI v9), strV path_0, .sc (.int .i64 (path_0.length : Int)), (vB true), (vB true), strV path_0, (vI v9), .sc (.int .u8 (c12.toNat : Int)), .sc (.bool ((c12.toNat : Int) != 47)), .sc (.bool ((c12.toNat : Int) != 47)), (vI v9), (vI v8), (vB true), (vB true), .tup [], .tup [], .tup [], (vB true), .bad, .bad, .bad, .bad, .bad, .bad, .bad, .bad, .bad, .bad] [Ty.arr tS 9 v6 v7] (by kernel_rfl) ?_
                  refine JK_sq ?_
                  refine J_ret ?_
                  refine JK_sq_ret ?_
                  refine JK_bl_ret ?_
                  refine JK_sq_ret ?_
                  refine JK_nil ?_
                  obtain rfl := Option.some.inj h
                  exact turn_ret (tm' := [.bad, .bad, Ty.sl tS [], (vB false), Ty.own tS 0 v6 v7, .bad, .bad, .bad, .bad, .bad, .bad, .bad, .bad, .bad, .bad, .bad, .bad, .bad, .bad, .bad, .bad, .bad, .bad, .bad, .bad, .bad, .bad, .bad, .bad, .bad, .bad, .bad, .bad, .bad, .bad, .bad, .bad, .bad, .bad, .bad, .bad, .bad, .bad, .bad, .bad, .bad, .bad, .bad, .bad, .bad]) (st' := [Ty.arr tS 9 v6 v7]) v6 (kill_go (mid := [.bad, .bad, .sc (.slice none 0 0), (vB false), Ty.own tS 0 v6 v7, .bad, .bad, .bad, .bad, .bad, .bad, .bad, .bad, .bad, .bad, .bad, .bad, .bad, .bad, .bad, .bad, .bad, .bad, .bad, .bad, .bad, .bad, .bad, .bad, .bad, .bad, .bad, .bad, .bad, .bad, .bad, .bad, .bad, .bad, .bad, .bad, .bad, .bad, .bad, .bad, .bad, .bad, .bad, .bad, .bad]) (by kernel_rfl) (mB (mB (mC (by kernel_rfl) (mC (by kernel_rfl) (mC (own_scrub tS rfl) (mB (mB (mB (mB (mB (mB (mB (mB (mB (mB (mB (mB (mB (mB (mB (mB (mB (mB (mB (mB (mB (mB (mB (mB (mB (mB (mB (mB (mB (mB (mB (mB (mB (mB (mB (mB (mB (mB (mB (mB (mB (mB (mB (mB (mB mN))))))))))))))))))))))))))))))))))))))))))))))))))) (cut_go (mid := [Ty.arr tS 9 v6 v7]) (by kernel_rfl) (oC (arr_scrub tS) oN)) (by kernel_rfl)
                · rw [if_neg (ne_true h15)] at h
                  refine JS_cast (tm' := [strV path_0, .bad, .bad, .bad, Ty.own tS 0 v6 v7, (vI v8), (vI v9), .bad, .bad, .bad, .bad, .bad, .bad, .bad, .bad, .bad, (vI v9), strV path_0, .sc (.int .i64 (path_0.length : Int)), .sc (.bool (decide (v9 ≤ (path_0.length : Int)))), .bad, .bad, (vI v9), strV path_0, .sc (.int .i64 (path_0.length : Int)), (vB true), (vB true), strV path_0, (vI v9), .sc (.int .u8 (c12.toNat : Int)), .sc (.bool ((c12.toNat : Int) != 47)), .sc (.bool ((c12.toNat : Int) != 47)), (vI v9), (vI v8), (vB false), (vB false), .bad, .bad, .bad, .bad, .bad, .bad, .bad, .bad, .bad, .bad, .bad, .bad, .bad, .bad]) (by rw [h15]) rfl ?_
                  refine JS_seg 5 [strV path_0, .bad, .bad, .bad, Ty.own tS 0 v6 v7, (vI v8), (vI v9), .bad, .bad, .bad, .bad, .bad, .bad, .bad, .bad, .bad, (vI v9), strV path_0, .sc (.int .i64 (path_0.length : Int)), .sc (.bool (decide (v9 ≤ (path_0.length : Int)))), .bad, .bad, (vI v9), strV path_0, .sc (.int .i64 (path_0.length : Int)), (vB true), (vB true), strV path_0, (vI v9), .sc (.int .u8 (c12.toNat : Int)), .sc (.bool ((c12.toNat : Int) != 47)), .sc (.bool ((c12.toNat : Int) != 47)), (vI v9), (vI v8), (vB false), (vB false), Ty.own tS 0 v6 v7, .bad, .bad, .bad, .bad, .bad, .bad, .bad, .bad, .bad, .bad, .bad, .bad, .bad] [Ty.arr tS 9 v6 v7] (by kernel_rfl) ?_
                  refine JS_upd (fun s => abuiltin E0.tb s .len [37] [Ty.own tS 0 v6 v7]) (by kernel_rfl) (own_len tS tb_37 rfl rfl _ _) ?_
                  refine JS_end [strV path_0, .bad, .bad, .bad, Ty.own tS 0 v6 v7, (vI v8), (vI v9), .bad, .bad, .bad, .bad, .bad, .bad, .bad, .bad, .bad, (vI v9), strV path_0, .sc (.int .i64 (path_0.length : Int)), .sc (.bool (decide (v9 ≤ (path_0.length : Int)))), .bad, .bad, (vI v9), strV path_0, .sc (.int .i64 (path_0.length : Int)), (vB true), (vB true), strV path_0, (vI v9), .sc (.int .u8 (c12.toNat : Int)), .sc (.bool ((c12.toNat : Int) != 47)), .sc (.bool ((c12.toNat : Int) != 47)), (vI v9), (vI v8), (vB false), (vB false), Ty.own tS 0 v6 v7, .sc (.int .i64 (v7.length : Int)), .sc (.bool ((v7.length : Int) == 7)), .sc (.bool ((v7.length : Int) == 7)), .bad, .bad, .bad, .bad, .bad, .bad, .bad, .bad, .bad, .bad] [Ty.arr tS 9 v6 v7] (by kernel_rfl) ?_
                  refine JK_sq ?_
                  rcases bool_cases ((v7.length : Int) == 7) with h16 | h16
                  · rw [if_pos h16] at h
                    refine J_condT (v := ((v7.length : Int) == 7)) (by kernel_rfl) h16 ?_
                    refine J_seq ?_
                    refine J_region ?_
                    refine JS_end [strV path_0, .bad, .sc (.slice none 0 0), (vB false), Ty.own tS 0 v6 v7, (vI v8), (vI v9), .bad, .bad, .bad, .bad, .bad, .bad, .bad, .bad, .bad, (vI v9), strV path_0, .sc (.int .i64 (path_0.length : Int)), .sc (.bool (decide (v9 ≤ (path_0.length : Int)))), .bad, .bad, (vI v9), strV path_0, .sc (.int .i64 (path_0.length : Int)), (vB true), (vB true), strV path_0, (vI v9), .sc (.int .u8 (c12.toNat : Int)), .sc (.bool ((c12.toNat : Int) != 47)), .sc (.bool ((c12.toNat : Int) != 47)), (vI v9), (vI v8), (vB false), (vB false), Ty.own tS 0 v6 v7, .sc (.int .i64 (v7.length : Int)), .sc (.bool ((v7.length : Int) == 7)), .sc (.bool ((v7.length : Int) == 7)), .bad, .bad, .bad, .bad, .bad, .bad, .bad, .bad, .bad, .bad] [Ty.arr tS 9 v6 v7] (by kernel_rfl) ?_
                    refine JK_sq ?_
                    refine J_ret ?_
                    refine JK_sq_ret ?_
                    refine JK_bl_ret ?_
                    refine JK_sq_ret ?_
                    refine JK_nil ?_
                    obtain rfl := Option.some.inj h
                    exact turn_ret (tm' := [.bad, .bad, Ty.sl tS [], (vB false), Ty.own tS 0 v6 v7, .bad, .bad, .bad, .bad, .bad, .bad, .bad, .bad, .bad, .bad, .bad, .bad, .bad, .bad, .bad, .bad, .bad, .bad, .bad, .bad, .bad, .bad, .bad, .bad, .bad, .bad, .bad, .bad, .bad, .bad, .bad, .bad, .bad, .bad, .bad, .bad, .bad, .bad, .bad, .bad, .bad, .bad, .bad, .bad, .bad]) (st' := [Ty.arr tS 9 v6 v7]) v6 (kill_go (mid := [.bad, .bad, .sc (.slice none 0 0), (vB false), Ty.own tS 0 v6 v7, .bad, .bad, .bad, .bad, .bad, .bad, .bad, .bad, .bad, .bad, .bad, .bad, .bad, .bad, .bad, .bad, .bad, .bad, .bad, .bad, .bad, .bad, .bad, .bad, .bad, .bad, .bad, .bad, .bad, .bad, .bad, .bad, .bad, .bad, .bad, .bad, .bad, .bad, .bad, .bad, .bad, .bad, .bad, .bad, .bad]) (by kernel_rfl) (mB (mB (mC (by kernel_rfl) (mC (by kernel_rfl) (mC (own_scrub tS rfl) (mB (mB (mB (mB (mB (mB (mB (mB (mB (mB (mB (mB (mB (mB (mB (mB (mB (mB (mB (mB (mB (mB (mB (mB (mB (mB (mB (mB (mB (mB (mB (mB (mB (mB (mB (mB (mB (mB (mB (mB (mB (mB (mB (mB (mB mN))))))))))))))))))))))))))))))))))))))))))))))))))) (cut_go (mid := [Ty.arr tS 9 v6 v7]) (by kernel_rfl) (oC (arr_scrub tS) oN)) (by kernel_rfl)
                  · rw [if_neg (ne_true h16)] at h
                    refine J_condF (v := ((v7.length : Int) == 7)) (by kernel_rfl) h16 ?_
                    refine J_skip ?_
                    refine JK_sq ?_
                    refine J_seq ?_
                    refine J_region ?_
                    refine JS_seg 4 [strV path_0, .bad, .bad, .bad, Ty.own tS 0 v6 v7, (vI v8), (vI v9), .bad, .bad, .bad, .bad, .bad, .bad, .bad, .bad, .bad, (vI v9), strV path_0, .sc (.int .i64 (path_0.length : Int)), .sc (.bool (decide (v9 ≤ (path_0.length : Int)))), .bad, .bad, (vI v9), strV path_0, .sc (.int .i64 (path_0.length : Int)), (vB true), (vB true), strV path_0, (vI v9), .sc (.int .u8 (c12.toNat : Int)), .sc (.bool ((c12.toNat : Int) != 47)), .sc (.bool ((c12.toNat : Int) != 47)), (vI v9), (vI v8), (vB false), (vB false), Ty.own tS 0 v6 v7, .sc (.int .i64 (v7.length : Int)), .sc (.bool ((v7.length : Int) == 7)), .sc (.bool ((v7.length : Int) == 7)), Ty.own tS 0 v6 v7, strV path_0, (vI v8), (vI v9), .bad, .bad, .bad, .bad, .bad, .bad] [Ty.arr tS 9 v6 v7] (by kernel_rfl) ?_
                    obtain ⟨s17, h18, h⟩ := Option.bind_eq_some_iff.1 h
                    refine JS_val (fun s => aslice E0.tb s 9 (strV path_0) (some ((vI v8))) (some ((vI v9)))) (by kernel_rfl) (str_sub tb_9 rfl loV_some hiV_some h18) ?_
                    refine JS_seg 6 [strV path_0, .bad, .bad, .bad, Ty.own tS 0 v6 v7, (vI v8), (vI v9), .bad, .bad, .bad, .bad, .bad, .bad, .bad, .bad, .bad, (vI v9), strV path_0, .sc (.int .i64 (path_0.length : Int)), .sc (.bool (decide (v9 ≤ (path_0.length : Int)))), .bad, .bad, (vI v9), strV path_0, .sc (.int .i64 (path_0.length : Int)), (vB true), (vB true), strV path_0, (vI v9), .sc (.int .u8 (c12.toNat : Int)), .sc (.bool ((c12.toNat : Int) != 47)), .sc (.bool ((c12.toNat : Int) != 47)), (vI v9), (vI v8), (vB false), (vB false), Ty.own tS 0 v6 v7, .sc (.int .i64 (v7.length : Int)), .sc (.bool ((v7.length : Int) == 7)), .sc (.bool ((v7.length : Int) == 7)), Ty.own tS 0 v6 v7, strV path_0, (vI v8), (vI v9), strV s17, Ty.sl tS [s17], .bad, .bad, .bad, .bad] [Ty.arr tS 9 v6 v7] (by kernel_rfl) ?_
                    obtain ⟨l19, h20, h⟩ := Option.bind_eq_some_iff.1 h
                    refine JS_upd (fun s => abuiltin E0.tb s .append [37, 37] [Ty.own tS 0 v6 v7, Ty.sl tS [s17]]) (by kernel_rfl) (app_own tS (y := [s17]) tb_37 rfl tb_37 rfl tb_9 rfl rfl (by decide) (by decide) rfl (sl_slice tS [s17]) h20) ?_
                    refine JS_end [strV path_0, .bad, .bad, .bad, Ty.own tS 0 (v6 + 1) l19, (vI v8), (vI v9), .bad, .bad, .bad, .bad, .bad, .bad, .bad, .bad, .bad, (vI v9), strV path_0, .sc (.int .i64 (path_0.length : Int)), .sc (.bool (decide (v9 ≤ (path_0.length : Int)))), .bad, .bad, (vI v9), strV path_0, .sc (.int .i64 (path_0.length : Int)), (vB true), (vB true), strV path_0, (vI v9), .sc (.int .u8 (c12.toNat : Int)), .sc (.bool ((c12.toNat : Int) != 47)), .sc (.bool ((c12.toNat : Int) != 47)), (vI v9), (vI v8), (vB false), (vB false), Ty.own tS 0 v6 v7, .sc (.int .i64 (v7.length : Int)), .sc (.bool ((v7.length : Int) == 7)), .sc (.bool ((v7.length : Int) == 7)), Ty.own tS 0 v6 v7, strV path_0, (vI v8), (vI v9), strV s17, Ty.sl tS [s17], Ty.own tS 0 (v6 + 1) l19, .bad, .bad, .bad] [Ty.arr tS 9 (v6 + 1) l19] (by kernel_rfl) ?_
                    refine JK_sq ?_
                    refine J_region ?_
                    refine JS_end [strV path_0, .bad, .bad, .bad, Ty.own tS 0 (v6 + 1) l19, .sc (.int .i64 (IntKind.wrap .i64 (v9 + 1))), (vI v9), .bad, .bad, .bad, .bad, .bad, .bad, .bad, .bad, .bad, (vI v9), strV path_0, .sc (.int .i64 (path_0.length : Int)), .sc (.bool (decide (v9 ≤ (path_0.length : Int)))), .bad, .bad, (vI v9), strV path_0, .sc (.int .i64 (path_0.length : Int)), (vB true), (vB true), strV path_0, (vI v9), .sc (.int .u8 (c12.toNat : Int)), .sc (.bool ((c12.toNat : Int) != 47)), .sc (.bool ((c12.toNat : Int) != 47)), (vI v9), (vI v8), (vB false), (vB false), Ty.own tS 0 v6 v7, .sc (.int .i64 (v7.length : Int)), .sc (.bool ((v7.length : Int) == 7)), .sc (.bool ((v7.length : Int) == 7)), Ty.own tS 0 v6 v7, strV path_0, (vI v8), (vI v9), strV s17, Ty.sl tS [s17], Ty.own tS 0 (v6 + 1) l19, (vI v9), .sc (.int .i64 (IntKind.wrap .i64 (v9 + 1))), .bad] [Ty.arr tS 9 (v6 + 1) l19] (by kernel_rfl) ?_
                    refine JK_bl ?_
                    refine JK_sq ?_
                    refine J_region ?_
                    refine JS_end [strV path_0, .bad, .bad, .bad, Ty.own tS 0 (v6 + 1) l19, .sc (.int .i64 (IntKind.wrap .i64 (v9 + 1))), .sc (.int .i64 (IntKind.wrap .i64 (v9 + 1))), .bad, .bad, .bad, .bad, .bad, .bad, .bad, .bad, .bad, (vI v9), strV path_0, .sc (.int .i64 (path_0.length : Int)), .sc (.bool (decide (v9 ≤ (path_0.length : Int)))), (vI v9), .sc (.int .i64 (IntKind.wrap .i64 (v9 + 1))), (vI v9), strV path_0, .sc (.int .i64 (path_0.length : Int)), (vB true), (vB true), strV path_0, (vI v9), .sc (.int .u8 (c12.toNat : Int)), .sc (.bool ((c12.toNat : Int) != 47)), .sc (.bool ((c12.toNat : Int) != 47)), (vI v9), (vI v8), (vB false), (vB false), Ty.own tS 0 v6 v7, .sc (.int .i64 (v7.length : Int)), .sc (.bool ((v7.length : Int) == 7)), .sc (.bool ((v7.length : Int) == 7)), Ty.own tS 0 v6 v7, strV path_0, (vI v8), (vI v9), strV s17, Ty.sl tS [s17], Ty.own tS 0 (v6 + 1) l19, (vI v9), .sc (.int .i64 (IntKind.wrap .i64 (v9 + 1))), .bad] [Ty.arr tS 9 (v6 + 1) l19] (by kernel_rfl) ?_
                    refine JK_nil ?_
                    obtain rfl := Option.some.inj h
                    exact turn_next (v6 + 1) (kill_go (mid := [strV path_0, .bad, .bad, .bad, Ty.own tS 0 (v6 + 1) l19, .sc (.int .i64 (IntKind.wrap .i64 (v9 + 1))), .sc (.int .i64 (IntKind.wrap .i64 (v9 + 1))), .bad, .bad, .bad, .bad, .bad, .bad, .bad, .bad, .bad, .bad, .bad, .bad, .bad, .bad, .bad, .bad, .bad, .bad, .bad, .bad, .bad, .bad, .bad, .bad, .bad, .bad, .bad, .bad, .bad, .bad, .bad, .bad, .bad, .bad, .bad, .bad, .bad, .bad, .bad, .bad, .bad, .bad, .bad]) (by kernel_rfl) (mC (by kernel_rfl) (mB (mB (mB (mC (own_scrub tS rfl) (mC (by kernel_rfl) (mC (by kernel_rfl) (mB (mB (mB (mB (mB (mB (mB (mB (mB (mB (mB (mB (mB (mB (mB (mB (mB (mB (mB (mB (mB (mB (mB (mB (mB (mB (mB (mB (mB (mB (mB (mB (mB (mB (mB (mB (mB (mB (mB (mB (mB (mB (mB mN))))))))))))))))))))))))))))))))))))))))))))))))))) (cut_go (mid := [Ty.arr tS 9 (v6 + 1) l19]) (by kernel_rfl) (oC (arr_scrub tS) oN))
            · rw [if_neg (ne_true h11)] at h
              refine JS_cast (tm' := [strV path_0, .bad, .bad, .bad, Ty.own tS 0 v6 v7, (vI v8), (vI v9), .bad, .bad, .bad, .bad, .bad, .bad, .bad, .bad, .bad, (vI v9), strV path_0, .sc (.int .i64 (path_0.length : Int)), .sc (.bool (decide (v9 ≤ (path_0.length : Int)))), .bad, .bad, (vI v9), strV path_0, .sc (.int .i64 (path_0.length : Int)), (vB false), (vB false), .bad, .bad, .bad, .bad, .bad, .bad, .bad, .bad, .bad, .bad, .bad, .bad, .bad, .bad, .bad, .bad, .bad, .bad, .bad, .bad, .bad, .bad, .bad]) (by rw [h11]) rfl ?_
              refine JS_end [strV path_0, .bad, .bad, .bad, Ty.own tS 0 v6 v7, (vI v8), (vI v9), .bad, .bad, .bad, .bad, .bad, .bad, .bad, .bad, .bad, (vI v9), strV path_0, .sc (.int .i64 (path_0.length : Int)), .sc (.bool (decide (v9 ≤ (path_0.length : Int)))), .bad, .bad, (vI v9), strV path_0, .sc (.int .i64 (path_0.length : Int)), (vB false), (vB false), .tup [], .tup [], .tup [], .tup [], (vB false), .bad, .bad, .bad, .bad, .bad, .bad, .bad, .bad, .bad, .bad, .bad, .bad, .bad, .bad, .bad, .bad, .bad, .bad] [Ty.arr tS 9 v6 v7] (by kernel_rfl) ?_
              refine JK_sq ?_
              refine J_condF (v := false) (by kernel_rfl) rfl ?_
              refine J_skip ?_
              refine JK_sq ?_
              refine J_seq ?_
              refine J_seq ?_
              refine J_region ?_
              refine JS_seg 4 [strV path_0, .bad, .bad, .bad, Ty.own tS 0 v6 v7, (vI v8), (vI v9), .bad, .bad, .bad, .bad, .bad, .bad, .bad, .bad, .bad, (vI v9), strV path_0, .sc (.int .i64 (path_0.length : Int)), .sc (.bool (decide (v9 ≤ (path_0.length : Int)))), .bad, .bad, (vI v9), strV path_0, .sc (.int .i64 (path_0.length : Int)), (vB false), (vB false), .tup [], .tup [], .tup [], .tup [], (vB false), (vI v9), (vI v8), .sc (.bool (v9 == v8)), .sc (.bool (v9 == v8)), .bad, .bad, .bad, .bad, .bad, .bad, .bad, .bad, .bad, .bad, .bad, .bad, .bad, .bad] [Ty.arr tS 9 v6 v7] (by kernel_rfl) ?_
              rcases bool_cases (v9 == v8) with h21 | h21
              · rw [if_pos h21] at h
                refine JS_cast (tm' := [strV path_0, .bad, .bad, .bad, Ty.own tS 0 v6 v7, (vI v8), (vI v9), .bad, .bad, .bad, .bad, .bad, .bad, .bad, .bad, .bad, (vI v9), strV path_0, .sc (.int .i64 (path_0.length : Int)), .sc (.bool (decide (v9 ≤ (path_0.length : Int)))), .bad, .bad, (vI v9), strV path_0, .sc (.int .i64 (path_0.length : Int)), (vB false), (vB false), .tup [], .tup [], .tup [], .tup [], (vB false), (vI v9), (vI v8), (vB true), (vB true), .bad, .bad, .bad, .bad, .bad, .bad, .bad, .bad, .bad, .bad, .bad, .bad, .bad, .bad]) (by rw [h21]) rfl ?_
                refine JS_end [strV path_0, .bad, .bad, .bad, Ty.own tS 0 v6 v7, (vI v8), (vI v9), .bad, .bad, .bad, .bad, .bad, .bad, .bad, .bad, .bad, (vI v9), strV path_0, .sc (.int .i64 (path_0.length : Int)), .sc (.bool (decide (v9 ≤ (path_0.length : Int)))), .bad, .bad, (vI v9), strV path_0, .sc (.int .i64 (path_0.length : Int)), (vB false), (vB false), .tup [], .tup [], .tup [], .tup [], (vB false), (vI v9), (vI v8), (vB true), (vB true), .tup [], .tup [], .tup [], (vB true), .bad, .bad, .bad, .bad, .bad, .bad, .bad, .bad, .bad, .bad] [Ty.arr tS 9 v6 v7] (by kernel_rfl) ?_
                refine JK_sq ?_
                refine J_condT (v := true) (by kernel_rfl) rfl ?_
                refine J_seq ?_
                refine J_region ?_
                refine JS_end [strV path_0, .bad, .sc (.slice none 0 0), (vB false), Ty.own tS 0 v6 v7, (vI v8), (vI v9), .bad, .bad, .bad, .bad, .bad, .bad, .bad, .bad, .bad, (vI v9), strV path_0, .sc (.int .i64 (path_0.length : Int)), .sc (.bool (decide (v9 ≤ (path_0.length : Int)))), .bad, .bad, (vI v9), strV path_0, .sc (.int .i64 (path_0.length : Int)), (vB false), (vB false), .tup [], .tup [], .tup [], .tup [], (vB false), (vI v9), (vI v8), (vB true), (vB true), .tup [], .tup [], .tup [], (vB true), .bad, .bad, .bad, .bad, .bad, .bad, .bad, .bad, .bad, .bad] [Ty.arr tS 9 v6 v7] (by kernel_rfl) ?_
                refine JK_sq ?_
                refine J_ret ?_
                refine JK_sq_ret ?_
                refine JK_bl_ret ?_
                refine JK_sq_ret ?_
                refine JK_nil ?_
                obtain rfl := Option.some.inj h
                exact turn_ret (tm' := [.bad, .bad, Ty.sl tS [], (vB false), Ty.own tS 0 v6 v7, .bad, .bad, .bad, .bad, .bad, .bad, .bad, .bad, .bad, .bad, .bad, .bad, .bad, .bad, .bad, .bad, .bad, .bad, .bad, .bad, .bad, .bad, .bad, .bad, .bad, .bad, .bad, .bad, .bad, .bad, .bad, .bad, .bad, .bad, .bad, .bad, .bad, .bad, .bad, .bad, .bad, .bad, .bad, .bad, .bad]) (st' := [Ty.arr tS 9 v6 v7]) v6 (kill_go (mid := [.bad, .bad, .sc (.slice none 0 0), (vB false), Ty.own tS 0 v6 v7, .bad, .bad, .bad, .bad, .bad, .bad, .bad, .bad, .bad, .bad, .bad, .bad, .bad, .bad, .bad, .bad, .bad, .bad, .bad, .bad, .bad, .bad, .bad, .bad, .bad, .bad, .bad, .bad, .bad, .bad, .bad, .bad, .bad, .bad, .bad, .bad, .bad, .bad, .bad, .bad, .bad, .bad, .bad, .bad, .bad]) (by kernel_rfl) (mB (mB (mC (by kernel_rfl) (mC (by kernel_rfl) (mC (own_scrub tS rfl) (mB (mB (mB (mB (mB (mB (mB (mB (mB (mB (mB (mB (mB (mB (mB (mB (mB (mB (mB (mB (mB (mB (mB (mB (mB (mB (mB (mB (mB (mB (mB (mB (mB (mB (mB (mB (mB (mB (mB (mB (mB (mB (mB (mB (mB mN))))))))))))))))))))))))))))))))))))))))))))))))))) (cut_go (mid := [Ty.arr tS 9 v6 v7]) (by kernel_rfl) (oC (arr_scrub tS) oN)) (by kernel_rfl)
              · rw [if_neg (ne_true h21)] at h
                refine JS_cast (tm' := [strV path_0, .bad, .bad, .bad, Ty.own tS 0 v6 v7, (vI v8), (vI v9), .bad, .bad, .bad, .bad, .bad, .bad, .bad, .bad, .bad, (vI v9), strV path_0, .sc (.int .i64 (path_0.length : Int)), .sc (.bool (decide (v9 ≤ (path_0.length : Int)))), .bad, .bad, (vI v9), strV path_0, .sc (.int .i64 (path_0.length : Int)), (vB false), (vB false), .tup [], .tup [], .tup [], .tup [], (vB false), (vI v9), (vI v8), (vB false), (vB false), .bad, .bad, .bad, .bad, .bad, .bad, .bad, .bad, .bad, .bad, .bad, .bad, .bad, .bad]) (by rw [h21]) rfl ?_
                refine JS_seg 5 [strV path_0, .bad, .bad, .bad, Ty.own tS 0 v6 v7, (vI v8), (vI v9), .bad, .bad, .bad, .bad, .bad, .bad, .bad, .bad, .bad, (vI v9), strV path_0, .sc (.int .i64 (path_0.length : Int)), .sc (.bool (decide (v9 ≤ (path_0.length : Int)))), .bad, .bad, (vI v9), strV path_0, .sc (.int .i64 (path_0.length : Int)), (vB false), (vB false), .tup [], .tup [], .tup [], .tup [], (vB false), (vI v9), (vI v8), (vB false), (vB false), Ty.own tS 0 v6 v7, .bad, .bad, .bad, .bad, .bad, .bad, .bad, .bad, .bad, .bad, .bad, .bad, .bad] [Ty.arr tS 9 v6 v7] (by kernel_rfl) ?_
                refine JS_upd (fun s => abuiltin E0.tb s .len [37] [Ty.own tS 0 v6 v7]) (by kernel_rfl) (own_len tS tb_37 rfl rfl _ _) ?_
                refine JS_end [strV path_0, .bad, .bad, .bad, Ty.own tS 0 v6 v7, (vI v8), (vI v9), .bad, .bad, .bad, .bad, .bad, .bad, .bad, .bad, .bad, (vI v9), strV path_0, .sc (.int .i64 (path_0.length : Int)), .sc (.bool (decide (v9 ≤ (path_0.length : Int)))), .bad, .bad, (vI v9), strV path_0, .sc (.int .i64 (path_0.length : Int)), (vB false), (vB false), .tup [], .tup [], .tup [], .tup [], (vB false), (vI v9), (vI v8), (vB false), (vB false), Ty.own tS 0 v6 v7, .sc (.int .i64 (v7.length : Int)), .sc (.bool ((v7.length : Int) == 7)), .sc (.bool ((v7.length : Int) == 7)), .bad, .bad, .bad, .bad, .bad, .bad, .bad, .bad, .bad, .bad] [Ty.arr tS 9 v6 v7] (by kernel_rfl) ?_
                refine JK_sq ?_
                rcases bool_cases ((v7.length : Int) == 7) with h22 | h22
                · rw [if_pos h22] at h
                  refine J_condT (v := ((v7.length : Int) == 7)) (by kernel_rfl) h22 ?_
                  refine J_seq ?_
                  refine J_region ?_
                  refine JS_end [strV path_0, .bad, .sc (.slice none 0 0), (vB false), Ty.own tS 0 v6 v7, (vI v8), (vI v9), .bad, .bad, .bad, .bad, .bad, .bad, .bad, .bad, .bad, (vI v9), strV path_0, .sc (.int .i64 (path_0.length : Int)), .sc (.bool (decide (v9 ≤ (path_0.length : Int)))), .bad, .bad, (vI v9), strV path_0, .sc (.int .i64 (path_0.length : Int)), (vB false), (vB false), .tup [], .tup [], .tup [], .tup [], (vB false), (vI v9), (vI v8), (vB false), (vB false), Ty.own tS 0 v6 v7, .sc (.int .i64 (v7.length : Int)), .sc (.bool ((v7.length : Int) == 7)), .sc (.bool ((v7.length : Int) == 7)), .bad, .bad, .bad, .bad, .bad, .bad, .bad, .bad, .bad, .bad] [Ty.arr tS 9 v6 v7] (by kernel_rfl) ?_
                  refine JK_sq ?_
                  refine J_ret ?_
                  refine JK_sq_ret ?_
                  refine JK_bl_ret ?_
                  refine JK_sq_ret ?_
                  refine JK_nil ?_
                  obtain rfl := Option.some.inj h
                  exact turn_ret (tm' := [.bad, .bad, Ty.sl tS [], (vB false), Ty.own tS 0 v6 v7, .bad, .bad, .bad, .bad, .bad, .bad, .bad, .bad, .bad, .bad, .bad, .bad, .bad, .bad, .bad, .bad, .bad, .bad, .bad, .bad, .bad, .bad, .bad, .bad, .bad, .bad, .bad, .bad, .bad, .bad, .bad, .bad, .bad, .bad, .bad, .bad, .bad, .bad, .bad, .bad, .bad, .bad, .bad, .bad, .bad]) (st' := [Ty.arr tS 9 v6 v7]) v6 (kill_go (mid := [.bad, .bad, .sc (.slice none 0 0), (vB false), Ty.own tS 0 v6 v7, .bad, .bad, .bad, .bad, .bad, .bad, .bad, .bad, .bad, .bad, .bad, .bad, .bad, .bad, .bad, .bad, .bad, .bad, .bad, .bad, .bad, .bad, .bad, .bad, .bad, .bad, .bad, .bad, .bad, .bad, .bad, .bad, .bad, .bad, .bad, .bad, .bad, .bad, .bad, .bad, .bad, .bad, .bad, .bad, .bad]) (by kernel_rfl) (mB (mB (mC (by kernel_rfl) (mC (by kernel_rfl) (mC (own_scrub tS rfl) (mB (mB (mB (mB (mB (mB (mB (mB (mB (mB (mB (mB (mB (mB (mB (mB (mB (mB (mB (mB (mB (mB (mB (mB (mB (mB (mB (mB (mB (mB (mB (mB (mB (mB (mB (mB (mB (mB (mB (mB (mB (mB (mB (mB (mB mN))))))))))))))))))))))))))))))))))))))))))))))))))) (cut_go (mid := [Ty.arr tS 9 v6 v7]) (by kernel_rfl) (oC (arr_scrub tS) oN)) (by kernel_rfl)
                · rw [if_neg (ne_true h22)] at h
                  refine J_condF (v := ((v7.length : Int) == 7)) (by kernel_rfl) h22 ?_
                  refine J_skip ?_
                  refine JK_sq ?_
                  refine J_seq ?_
                  refine J_region ?_
                  refine JS_seg 4 [strV path_0, .bad, .bad, .bad, Ty.own tS 0 v6 v7, (vI v8), (vI v9), .bad, .bad, .bad, .bad, .bad, .bad, .bad, .bad, .bad, (vI v9), strV path_0, .sc (.int .i64 (path_0.length : Int)), .sc (.bool (decide (v9 ≤ (path_0.length : Int)))), .bad, .bad, (vI v9), strV path_0, .sc (.int .i64 (path_0.length : Int)), (vB false), (vB false), .tup [], .tup [], .tup [], .tup [], (vB false), (vI v9), (vI v8), (vB false), (vB false), Ty.own tS 0 v6 v7, .sc (.int .i64 (v7.length : Int)), .sc (.bool ((v7.length : Int) == 7)), .sc (.bool ((v7.length : Int) == 7)), Ty.own tS 0 v6 v7, strV path_0, (vI v8), (vI v9), .bad, .bad, .bad, .bad, .bad, .bad] [Ty.arr tS 9 v6 v7] (by kernel_rfl) ?_
                  obtain ⟨s23, h24, h⟩ := Option.bind_eq_some_iff.1 h
                  refine JS_val (fun s => aslice E0.tb s 9 (strV path_0) (some ((vI v8))) (some ((vI v9)))) (by kernel_rfl) (str_sub tb_9 rfl loV_some hiV_some h24) ?_
                  refine JS_seg 6 [strV path_0, .bad, .bad, .bad, Ty.own tS 0 v6 v7, (vI v8), (vI v9), .bad, .bad, .bad, .bad, .bad, .bad, .bad, .bad, .bad, (vI v9), strV path_0, .sc (.int .i64 (path_0.length : Int)), .sc (.bool (decide (v9 ≤ (path_0.length : Int)))), .bad, .bad, (vI v9), strV path_0, .sc (.int .i64 (path_0.length : Int)), (vB false), (vB false), .tup [], .tup [], .tup [], .tup [], (vB false), (vI v9), (vI v8), (vB false), (vB false), Ty.own tS 0 v6 v7, .sc (.int .i64 (v7.length : Int)), .sc (.bool ((v7.length : Int) == 7)), .sc (.bool ((v7.length : Int) == 7)), Ty.own tS 0 v6 v7, strV path_0, (vI v8), (vI v9), strV s23, Ty.sl tS [s23], .bad, .bad, .bad, .bad] [Ty.arr tS 9 v6 v7] (by kernel_rfl) ?_
                  obtain ⟨l25, h26, h⟩ := Option.bind_eq_some_iff.1 h
                  refine JS_upd (fun s => abuiltin E0.tb s .append [37, 37] [Ty.own tS 0 v6 v7, Ty.sl tS [s23]]) (by kernel_rfl) (app_own tS (y := [s23]) tb_37 rfl tb_37 rfl tb_9 rfl rfl (by decide) (by decide) rfl (sl_slice tS [s23]) h26) ?_
                  refine JS_end [strV path_0, .bad, .bad, .bad, Ty.own tS 0 (v6 + 1) l25, (vI v8), (vI v9), .bad, .bad, .bad, .bad, .bad, .bad, .bad, .bad, .bad, (vI v9), strV path_0, .sc (.int .i64 (path_0.length : Int)), .sc (.bool (decide (v9 ≤ (path_0.length : Int)))), .bad, .bad, (vI v9), strV path_0, .sc (.int .i64 (path_0.length : Int)), (vB false), (vB false), .tup [], .tup [], .tup [], .tup [], (vB false), (vI v9), (vI v8), (vB false), (vB false), Ty.own tS 0 v6 v7, .sc (.int .i64 (v7.length : Int)), .sc (.bool ((v7.length : Int) == 7)), .sc (.bool ((v7.length : Int) == 7)), Ty.own tS 0 v6 v7, strV path_0, (vI v8), (vI v9), strV s23, Ty.sl tS [s23], Ty.own tS 0 (v6 + 1) l25, .bad, .bad, .bad] [Ty.arr tS 9 (v6 + 1) l25] (by kernel_rfl) ?_
                  refine JK_sq ?_
                  refine J_region ?_
                  refine JS_end [strV path_0, .bad, .bad, .bad, Ty.own tS 0 (v6 + 1) l25, .sc (.int .i64 (IntKind.wrap .i64 (v9 + 1))), (vI v9), .bad, .bad, .bad, .bad, .bad, .bad, .bad, .bad, .bad, (vI v9), strV path_0, .sc (.int .i64 (path_0.length : Int)), .sc (.bool (decide (v9 ≤ (path_0.length : Int)))), .bad, .bad, (vI v9), strV path_0, .sc (.int .i64 (path_0.length : Int)), (vB false), (vB false), .tup [], .tup [], .tup [], .tup [], (vB false), (vI v9), (vI v8), (vB false), (vB false), Ty.own tS 0 v6 v7, .sc (.int .i64 (v7.length : Int)), .sc (.bool ((v7.length : Int) == 7)), .sc (.bool ((v7.length : Int) == 7)), Ty.own tS 0 v6 v7, strV path_0, (vI v8), (vI v9), strV s23, Ty.sl tS [s23], Ty.own tS 0 (v6 + 1) l25, (vI v9), .sc (.int .i64 (IntKind.wrap .i64 (v9 + 1))), .bad] [Ty.arr tS 9 (v6 + 1) l25] (by kernel_rfl) ?_
                  refine JK_bl ?_
                  refine JK_sq ?_
                  refine J_region ?_
                  refine JS_end [strV path_0, .bad, .bad, .bad, Ty.own tS 0 (v6 + 1) l25, .sc (.int .i64 (IntKind.wrap .i64 (v9 + 1))), .sc (.int .i64 (IntKind.wrap .i64 (v9 + 1))), .bad, .bad, .bad, .bad, .bad, .bad, .bad, .bad, .bad, (vI v9), strV path_0, .sc (.int .i64 (path_0.length : Int)), .sc (.bool (decide (v9 ≤ (path_0.length : Int)))), (vI v9), .sc (.int .i64 (IntKind.wrap .i64 (v9 + 1))), (vI v9), strV path_0, .sc (.int .i64 (path_0.length : Int)), (vB false), (vB false), .tup [], .tup [], .tup [], .tup [], (vB false), (vI v9), (vI v8), (vB false), (vB false), Ty.own tS 0 v6 v7, .sc (.int .i64 (v7.length : Int)), .sc (.bool ((v7.length : Int) == 7)), .sc (.bool ((v7.length : Int) == 7)), Ty.own tS 0 v6 v7, strV path_0, (vI v8), (vI v9), strV s23, Ty.sl tS [s23], Ty.own tS 0 (v6 + 1) l25, (vI v9), .sc (.int .i64 (IntKind.wrap .i64 (v9 + 1))), .bad] [Ty.arr tS 9 (v6 + 1) l25] (by kernel_rfl) ?_
                  refine JK_nil ?_
                  obtain rfl := Option.some.inj h
                  exact turn_next (v6 + 1) (kill_go (mid := [strV path_0, .bad, .bad, .bad, Ty.own tS 0 (v6 + 1) l25, .sc (.int .i64 (IntKind.wrap .i64 (v9 + 1))), .sc (.int .i64 (IntKind.wrap .i64 (v9 + 1))), .bad, .bad, .bad, .bad, .bad, .bad, .bad, .bad, .bad, .bad, .bad, .bad, .bad, .bad, .bad, .bad, .bad, .bad, .bad, .bad, .bad, .bad, .bad, .bad, .bad, .bad, .bad, .bad, .bad, .bad, .bad, .bad, .bad, .bad, .bad, .bad, .bad, .bad, .bad, .bad, .bad, .bad, .bad]) (by kernel_rfl) (mC (by kernel_rfl) (mB (mB (mB (mC (own_scrub tS rfl) (mC (by kernel_rfl) (mC (by kernel_rfl) (mB (mB (mB (mB (mB (mB (mB (mB (mB (mB (mB (mB (mB (mB (mB (mB (mB (mB (mB (mB (mB (mB (mB (mB (mB (mB (mB (mB (mB (mB (mB (mB (mB (mB (mB (mB (mB (mB (mB (mB (mB (mB (mB mN))))))))))))))))))))))))))))))))))))))))))))))))))) (cut_go (mid := [Ty.arr tS 9 (v6 + 1) l25]) (by kernel_rfl) (oC (arr_scrub tS) oN))
          · rw [if_neg (ne_true h10)] at h
            refine J_condF (v := (decide (v9 ≤ (path_0.length : Int)))) (by kernel_rfl) h10 ?_
            refine J_exit ?_
            refine JK_sq_exit ?_
            refine JK_nil ?_
            obtain rfl := Option.some.inj h
            exact turn_exit (tm' := [.bad, .bad, .bad, .bad, Ty.own tS 0 v6 v7, .bad, .bad, .bad, .bad, .bad, .bad, .bad, .bad, .bad, .bad, .bad, .bad, .bad, .bad, .bad, .bad, .bad, .bad, .bad, .bad, .bad, .bad, .bad, .bad, .bad, .bad, .bad, .bad, .bad, .bad, .bad, .bad, .bad, .bad, .bad, .bad, .bad, .bad, .bad, .bad, .bad, .bad, .bad, .bad, .bad]) (st' := [Ty.arr tS 9 v6 v7]) v6 (kill_go (mid := [.bad, .bad, .bad, .bad, Ty.own tS 0 v6 v7, .bad, .bad, .bad, .bad, .bad, .bad, .bad, .bad, .bad, .bad, .bad, .bad, .bad, .bad, .bad, .bad, .bad, .bad, .bad, .bad, .bad, .bad, .bad, .bad, .bad, .bad, .bad, .bad, .bad, .bad, .bad, .bad, .bad, .bad, .bad, .bad, .bad, .bad, .bad, .bad, .bad, .bad, .bad, .bad, .bad]) (by kernel_rfl) (mB (mB (mB (mB (mC (own_scrub tS rfl) (mB (mB (mB (mB (mB (mB (mB (mB (mB (mB (mB (mB (mB (mB (mB (mB (mB (mB (mB (mB (mB (mB (mB (mB (mB (mB (mB (mB (mB (mB (mB (mB (mB (mB (mB (mB (mB (mB (mB (mB (mB (mB (mB (mB (mB mN))))))))))))))))))))))))))))))))))))))))))))))))))) (cut_go (mid := [Ty.arr tS 9 v6 v7]) (by kernel_rfl) (oC (arr_scrub tS) oN)) (by kernel_rfl)
        · intro g29
          rcases r27 with r30 | r31
          · dsimp only at h
            refine (show JK _ _ _ _ (.exit 0, [.bad, .bad, .bad, .bad, Ty.own tS 0 g29 r30, .bad, .bad, .bad, .bad, .bad, .bad, .bad, .bad, .bad, .bad, .bad, .bad, .bad, .bad, .bad, .bad, .bad, .bad, .bad, .bad, .bad, .bad, .bad, .bad, .bad, .bad, .bad, .bad, .bad, .bad, .bad, .bad, .bad, .bad, .bad, .bad, .bad, .bad, .bad, .bad, .bad, .bad, .bad, .bad, .bad], [Ty.arr tS 9 g29 r30]) from ?_)
            refine JK_bl_hit ?_
            refine JK_sq ?_
            refine J_seq ?_
            refine J_region ?_
            refine JS_end [.bad, .bad, Ty.own tS 0 g29 r30, (vB true), Ty.own tS 0 g29 r30, .bad, .bad, .bad, .bad, .bad, .bad, .bad, .bad, .bad, .bad, .bad, .bad, .bad, .bad, .bad, .bad, .bad, .bad, .bad, .bad, .bad, .bad, .bad, .bad, .bad, .bad, .bad, .bad, .bad, .bad, .bad, .bad, .bad, .bad, .bad, .bad, .bad, .bad, .bad, .bad, .bad, .bad, .bad, .bad, Ty.own tS 0 g29 r30] [Ty.arr tS 9 g29 r30] (by kernel_rfl) ?_
            refine JK_sq ?_
            refine J_ret ?_
            refine JK_nil ?_
            obtain rfl := Option.some.inj h
            exact ret_A (r := .tup [Ty.own tS 0 g29 r30, (vB true)]) (r' := .tup [Ty.sl tS r30, (vB true)]) (.inl rfl) (by kernel_rfl) (fTup (fC (own_frz tS rfl rfl) (fC (by kernel_rfl) fN))) (pTup (pC (sl_pure tS _) (pC rfl pN))) ⟨by kernel_rfl, rfl⟩
          · dsimp only at h
            refine (show JK _ _ _ _ (.ret, [.bad, .bad, Ty.sl tS [], (vB false), Ty.own tS 0 g29 r31, .bad, .bad, .bad, .bad, .bad, .bad, .bad, .bad, .bad, .bad, .bad, .bad, .bad, .bad, .bad, .bad, .bad, .bad, .bad, .bad, .bad, .bad, .bad, .bad, .bad, .bad, .bad, .bad, .bad, .bad, .bad, .bad, .bad, .bad, .bad, .bad, .bad, .bad, .bad, .bad, .bad, .bad, .bad, .bad, .bad], [Ty.arr tS 9 g29 r31]) from ?_)
            refine JK_bl_ret ?_
            refine JK_sq_ret ?_
            refine JK_nil ?_
            obtain rfl := Option.some.inj h
            exact ret_A (r := .tup [Ty.sl tS [], (vB false)]) (r' := .tup [Ty.sl tS [], (vB false)]) (.inl rfl) (by kernel_rfl) (fTup (fC (sl_frz tS _ _ _ _) (fC (by kernel_rfl) fN))) (pTup (pC (sl_pure tS _) (pC rfl pN))) ⟨by kernel_rfl, rfl⟩

theorem ref16_Kid_C (n_0 : GNode) (name_1 : Str) (r : GNode × Bool) (st : Store) (h : ref16_Kid n_0 name_1 = some r) : fcall E0 14 [.agg (cNode n_0), strV name_1] st = some (.tup [.agg (cNode r.1), .sc (.bool r.2)], st) := by
  unfold ref16_Kid at h
  refine fn_alone (fn := Tryd.f14) (av' := [.agg (cNode n_0), strV name_1, .bad, .bad, .bad, .bad, .bad, .bad, .bad, .bad, .bad, .bad, .bad, .bad, .bad, .bad, .bad, .bad, .bad, .bad, .bad, .bad, .bad, .bad, .bad, .bad, .bad, .bad]) rfl fn_14 rfl (pC (pAgg (pC rfl (pC (sl_pure tProp _) (pC (sl_pure tNode _) pN)))) (pC rfl pN)) rfl rfl rfl (has_go (as1 := [.agg (cNode n_0), strV name_1]) (lC (sAgg (lC (by kernel_rfl) (lC (sl_scrub tProp _ _) (lC (sl_scrub tNode _ _) lN)))) (lC (by kernel_rfl) lN)) (by kernel_rfl)) ?_
  refine J_seq ?_
  refine J_region ?_
  refine JS_end [.agg (cNode n_0), strV name_1, .ref 0 0 0, .bad, .ref 1 0 0, (vB false), .bad, .bad, .bad, .bad, .bad, .bad, .bad, .bad, .bad, .bad, .bad, .bad, .bad, .bad, .bad, .bad, .bad, .bad, .bad, .bad, .bad, .bad] [.box 25 (cNode n_0), .box 25 [strV [], .sc (.slice none 0 0), .sc (.slice none 0 0)]] (by kernel_rfl) ?_
  refine JK_sq ?_
  refine J_seq ?_
  refine J_seq ?_
  refine J_region ?_
  refine JS_end [.agg (cNode n_0), strV name_1, .ref 0 0 0, .bad, .ref 1 0 0, (vB false), (vI 0), .bad, .bad, .bad, .bad, .bad, .bad, .bad, .bad, .bad, .bad, .bad, .bad, .bad, .bad, .bad, .bad, .bad, .bad, .bad, .bad, .bad] [.box 25 (cNode n_0), .box 25 [strV [], .sc (.slice none 0 0), .sc (.slice none 0 0)]] (by kernel_rfl) ?_
  refine JK_sq ?_
  refine J_block ?_
  obtain ⟨r8, h9, h⟩ := Option.bind_eq_some_iff.1 h
  refine J_loop (γ := Unit) h9 2 [.agg (cNode n_0), strV name_1, .ref 0 0 0, .bad, .ref 1 0 0, (vB false), (vI 0), .bad, .bad, .bad, .bad, .bad, .bad, .bad, .bad, .bad, .bad, .bad, .bad, .bad, .bad, .bad, .bad, .bad, .bad, .bad, .bad, .bad] [.box 25 (cNode n_0), .box 25 [strV [], .sc (.slice none 0 0), .sc (.slice none 0 0)]] (fun s g => [.bad, strV name_1, .ref 0 0 0, .bad, .ref 1 0 0, .bad, (vI s), .bad, .bad, .bad, .bad, .bad, .bad, .bad, .bad, .bad, .bad, .bad, .bad, .bad, .bad, .bad, .bad, .bad, .bad, .bad, .bad, .bad]) (fun s g => [.box 25 (cNode n_0), .box 25 [strV [], Ty.sl tProp [], Ty.sl tNode []]]) (fun r g => match r with | (.inl r) => (.exit 0, [.bad, .bad, .bad, .bad, .ref 1 0 0, .bad, .bad, .bad, .bad, .bad, .bad, .bad, .bad, .bad, .bad, .bad, .bad, .bad, .bad, .bad, .bad, .bad, .bad, .bad, .bad, .bad, .bad, .bad], [.box 25 (cNode n_0), .box 25 [strV [], Ty.sl tProp [], Ty.sl tNode []]]) | (.inr r) => (.ret, [.bad, .bad, .bad, .bad, .ref 1 0 0, (vB true), .bad, .bad, .bad, .bad, .bad, .bad, .bad, .bad, .bad, .bad, .bad, .bad, .bad, .bad, .bad, .bad, .bad, .bad, .bad, .bad, .bad, .bad], [.box 25 (cNode n_0), .box 25 [strV r.1, Ty.sl tProp r.2.1, Ty.sl tNode r.2.2]])) () (by kernel_rfl) (by kernel_rfl) (kill_go (mid := [.bad, strV name_1, .ref 0 0 0, .bad, .ref 1 0 0, .bad, (vI 0), .bad, .bad, .bad, .bad, .bad, .bad, .bad, .bad, .bad, .bad, .bad, .bad, .bad, .bad, .bad, .bad, .bad, .bad, .bad, .bad, .bad]) (by kernel_rfl) (mB (mC (by kernel_rfl) (mC (by kernel_rfl) (mB (mC (by kernel_rfl) (mB (mC (by kernel_rfl) (mB (mB (mB (mB (mB (mB (mB (mB (mB (mB (mB (mB (mB (mB (mB (mB (mB (mB (mB (mB (mB mN))))))))))))))))))))))))))))) (cut_go (mid := [.box 25 (cNode n_0), .box 25 [strV [], .sc (.slice none 0 0), .sc (.slice none 0 0)]]) (by kernel_rfl) (oC (oB (lC (by kernel_rfl) (lC (sl_scrub tProp _ _) (lC (sl_scrub tNode _ _) lN)))) (oC (oB (lC (by kernel_rfl) (lC (by kernel_rfl) (lC (by kernel_rfl) lN)))) oN))) ?_ ?_
  · rintro v1 _ y h
    unfold ref16_Kid_l1 at h
    refine J_seq ?_
    refine J_seq ?_
    refine J_region ?_
    refine JS_end [.bad, strV name_1, .ref 0 0 0, .bad, .ref 1 0 0, .bad, (vI v1), (vI v1), .ref 0 0 2, Ty.sl tNode n_0.kids, .sc (.int .i64 (n_0.kids.length : Int)), .sc (.bool (decide (v1 < (n_0.kids.length : Int)))), .bad, .bad, .bad, .bad, .bad, .bad, .bad, .bad, .bad, .bad, .bad, .bad, .bad, .bad, .bad, .bad] [.box 25 (cNode n_0), .box 25 [strV [], Ty.sl tProp [], Ty.sl tNode []]] (by kernel_rfl) ?_
    refine JK_sq ?_
    rcases bool_cases (decide (v1 < (n_0.kids.length : Int))) with h2 | h2
    · rw [if_pos h2] at h
      refine J_condT (v := (decide (v1 < (n_0.kids.length : Int)))) (by kernel_rfl) h2 ?_
      refine J_skip ?_
      refine JK_sq ?_
      refine J_seq ?_
      refine J_block ?_
      refine J_seq ?_
      refine J_region ?_
      refine JS_seg 3 [.bad, strV name_1, .ref 0 0 0, .bad, .ref 1 0 0, .bad, (vI v1), (vI v1), .ref 0 0 2, Ty.sl tNode n_0.kids, .sc (.int .i64 (n_0.kids.length : Int)), .sc (.bool (decide (v1 < (n_0.kids.length : Int)))), .bad, .bad, .ref 0 0 2, Ty.sl tNode n_0.kids, (vI v1), .bad, .bad, .bad, .bad, .bad, .bad, .bad, .bad, .bad, .bad, .bad] [.box 25 (cNode n_0), .box 25 [strV [], Ty.sl tProp [], Ty.sl tNode []]] (by kernel_rfl) ?_
      obtain ⟨x3, h4, h⟩ := Option.bind_eq_some_iff.1 h
      refine JS_val (fun s => aindexAddr E0.tb s 23 (Ty.sl tNode n_0.kids) ((vI v1))) (by kernel_rfl) (sl_addr tNode tb_23 rfl tb_25 rfl h4) ?_
      refine JS_seg 5 [.bad, strV name_1, .ref 0 0 0, .bad, .ref 1 0 0, .bad, (vI v1), (vI v1), .ref 0 0 2, Ty.sl tNode n_0.kids, .sc (.int .i64 (n_0.kids.length : Int)), .sc (.bool (decide (v1 < (n_0.kids.length : Int)))), .bad, .bad, .ref 0 0 2, Ty.sl tNode n_0.kids, (vI v1), .fp (List.flatMap (Ty.cells tNode) n_0.kids) (v1.toNat * Ty.size tNode), .fp (List.flatMap (Ty.cells tNode) n_0.kids) (v1.toNat * Ty.size tNode + 0), .bad, .bad, .bad, .bad, .bad, .bad, .bad, .bad, .bad] [.box 25 (cNode n_0), .box 25 [strV [], Ty.sl tProp [], Ty.sl tNode []]] (by kernel_rfl) ?_
      refine JS_val (fun s => aload E0.tb s 9 (.fp (List.flatMap (Ty.cells tNode) n_0.kids) (v1.toNat * Ty.size tNode + 0))) (by kernel_rfl) (fp_load1 tNode (o := 0) tb_9 rfl h4 (by rw [tNode_cells]; rfl)) ?_
      refine JS_seg 7 [.bad, strV name_1, .ref 0 0 0, .bad, .ref 1 0 0, .bad, (vI v1), (vI v1), .ref 0 0 2, Ty.sl tNode n_0.kids, .sc (.int .i64 (n_0.kids.length : Int)), .sc (.bool (decide (v1 < (n_0.kids.length : Int)))), .bad, .bad, .ref 0 0 2, Ty.sl tNode n_0.kids, (vI v1), .fp (List.flatMap (Ty.cells tNode) n_0.kids) (v1.toNat * Ty.size tNode), .fp (List.flatMap (Ty.cells tNode) n_0.kids) (v1.toNat * Ty.size tNode + 0), strV x3.name, strV name_1, .bad, .bad, .bad, .bad, .bad, .bad, .bad] [.box 25 (cNode n_0), .box 25 [strV [], Ty.sl tProp [], Ty.sl tNode []]] (by kernel_rfl) ?_
      refine JS_val (fun s => abin E0.tb s .eql 9 (strV x3.name) (strV name_1)) (by kernel_rfl) (str_eq x3.name name_1) ?_
      refine JS_end [.bad, strV name_1, .ref 0 0 0, .bad, .ref 1 0 0, .bad, (vI v1), (vI v1), .ref 0 0 2, Ty.sl tNode n_0.kids, .sc (.int .i64 (n_0.kids.length : Int)), .sc (.bool (decide (v1 < (n_0.kids.length : Int)))), .bad, .bad, .ref 0 0 2, Ty.sl tNode n_0.kids, (vI v1), .fp (List.flatMap (Ty.cells tNode) n_0.kids) (v1.toNat * Ty.size tNode), .fp (List.flatMap (Ty.cells tNode) n_0.kids) (v1.toNat * Ty.size tNode + 0), strV x3.name, strV name_1, .sc (.bool (x3.name == name_1)), .bad, .bad, .bad, .bad, .bad, .bad] [.box 25 (cNode n_0), .box 25 [strV [], Ty.sl tProp [], Ty.sl tNode []]] (by kernel_rfl) ?_
      refine JK_sq ?_
      rcases bool_cases (x3.name == name_1) with h5 | h5
      · rw [if_pos h5] at h
        refine J_condT (v := (x3.name == name_1)) (by kernel_rfl) h5 ?_
        refine J_seq ?_
        refine J_region ?_
        refine JS_seg 3 [.bad, strV name_1, .ref 0 0 0, .bad, .ref 1 0 0, .bad, (vI v1), (vI v1), .ref 0 0 2, Ty.sl tNode n_0.kids, .sc (.int .i64 (n_0.kids.length : Int)), .sc (.bool (decide (v1 < (n_0.kids.length : Int)))), .bad, .bad, .ref 0 0 2, Ty.sl tNode n_0.kids, (vI v1), .fp (List.flatMap (Ty.cells tNode) n_0.kids) (v1.toNat * Ty.size tNode), .fp (List.flatMap (Ty.cells tNode) n_0.kids) (v1.toNat * Ty.size tNode + 0), strV x3.name, strV name_1, .sc (.bool (x3.name == name_1)), .ref 0 0 2, Ty.sl tNode n_0.kids, (vI v1), .bad, .bad, .bad] [.box 25 (cNode n_0), .box 25 [strV [], Ty.sl tProp [], Ty.sl tNode []]] (by kernel_rfl) ?_
        obtain ⟨x6, h7, h⟩ := Option.bind_eq_some_iff.1 h
        refine JS_val (fun s => aindexAddr E0.tb s 23 (Ty.sl tNode n_0.kids) ((vI v1))) (by kernel_rfl) (sl_addr tNode tb_23 rfl tb_25 rfl h7) ?_
        refine JS_seg 4 [.bad, strV name_1, .ref 0 0 0, .bad, .ref 1 0 0, .bad, (vI v1), (vI v1), .ref 0 0 2, Ty.sl tNode n_0.kids, .sc (.int .i64 (n_0.kids.length : Int)), .sc (.bool (decide (v1 < (n_0.kids.length : Int)))), .bad, .bad, .ref 0 0 2, Ty.sl tNode n_0.kids, (vI v1), .fp (List.flatMap (Ty.cells tNode) n_0.kids) (v1.toNat * Ty.size tNode), .fp (List.flatMap (Ty.cells tNode) n_0.kids) (v1.toNat * Ty.size tNode + 0), strV x3.name, strV name_1, .sc (.bool (x3.name == name_1)), .ref 0 0 2, Ty.sl tNode n_0.kids, (vI v1), .fp (List.flatMap (Ty.cells tNode) n_0.kids) (v1.toNat * Ty.size tNode), .bad, .bad] [.box 25 (cNode n_0), .box 25 [strV [], Ty.sl tProp [], Ty.sl tNode []]] (by kernel_rfl) ?_
        refine JS_val (fun s => aload E0.tb s 25 (.fp (List.flatMap (Ty.cells tNode) n_0.kids) (v1.toNat * Ty.size tNode))) (by kernel_rfl) (fp_loadN tNode (o := 0) (vs := (cNode x6)) tb_25 rfl h7 (by decide) (by rw [tNode_cells]; rfl)) ?_
        refine JS_end [.bad, strV name_1, .ref 0 0 0, .bad, .ref 1 0 0, (vB true), (vI v1), (vI v1), .ref 0 0 2, Ty.sl tNode n_0.kids, .sc (.int .i64 (n_0.kids.length : Int)), .sc (.bool (decide (v1 < (n_0.kids.length : Int)))), .bad, .bad, .ref 0 0 2, Ty.sl tNode n_0.kids, (vI v1), .fp (List.flatMap (Ty.cells tNode) n_0.kids) (v1.toNat * Ty.size tNode), .fp (List.flatMap (Ty.cells tNode) n_0.kids) (v1.toNat * Ty.size tNode + 0), strV x3.name, strV name_1, .sc (.bool (x3.name == name_1)), .ref 0 0 2, Ty.sl tNode n_0.kids, (vI v1), .fp (List.flatMap (Ty.cells tNode) n_0.kids) (v1.toNat * Ty.size tNode), .agg (cNode x6), .bad] [.box 25 (cNode n_0), .box 25 (cNode x6)] (by kernel_rfl) ?_
        refine JK_sq ?_
        refine J_ret ?_
        refine JK_bl_ret ?_
        refine JK_sq_ret ?_
        refine JK_nil ?_
        obtain rfl := Option.some.inj h
        exact turn_ret (tm' := [.bad, .bad, .bad, .bad, .ref 1 0 0, (vB true), .bad, .bad, .bad, .bad, .bad, .bad, .bad, .bad, .bad, .bad, .bad, .bad, .bad, .bad, .bad, .bad, .bad, .bad, .bad, .bad, .bad, .bad]) (st' := [.box 25 (cNode n_0), .box 25 (cNode x6)]) () (kill_go (mid := [.bad, .bad, .bad, .bad, .ref 1 0 0, (vB true), .bad, .bad, .bad, .bad, .bad, .bad, .bad, .bad, .bad, .bad, .bad, .bad, .bad, .bad, .bad, .bad, .bad, .bad, .bad, .bad, .bad, .bad]) (by kernel_rfl) (mB (mB (mB (mB (mC (by kernel_rfl) (mC (by kernel_rfl) (mB (mB (mB (mB (mB (mB (mB (mB (mB (mB (mB (mB (mB (mB (mB (mB (mB (mB (mB (mB (mB (mB mN))))))))))))))))))))))))))))) (cut_go (mid := [.box 25 (cNode n_0), .box 25 (cNode x6)]) (by kernel_rfl) (oC (oB (lC (by kernel_rfl) (lC (sl_scrub tProp _ _) (lC (sl_scrub tNode _ _) lN)))) (oC (oB (lC (by kernel_rfl) (lC (sl_scrub tProp _ _) (lC (sl_scrub tNode _ _) lN)))) oN))) (by kernel_rfl)
      · rw [if_neg (ne_true h5)] at h
        refine J_condF (v := (x3.name == name_1)) (by kernel_rfl) h5 ?_
        refine J_skip ?_
        refine JK_bl ?_
        refine JK_sq ?_
        refine J_region ?_
        refine JS_end [.bad, strV name_1, .ref 0 0 0, .bad, .ref 1 0 0, .bad, .sc (.int .i64 (IntKind.wrap .i64 (v1 + 1))), (vI v1), .ref 0 0 2, Ty.sl tNode n_0.kids, .sc (.int .i64 (n_0.kids.length : Int)), .sc (.bool (decide (v1 < (n_0.kids.length : Int)))), (vI v1), .sc (.int .i64 (IntKind.wrap .i64 (v1 + 1))), .ref 0 0 2, Ty.sl tNode n_0.kids, (vI v1), .fp (List.flatMap (Ty.cells tNode) n_0.kids) (v1.toNat * Ty.size tNode), .fp (List.flatMap (Ty.cells tNode) n_0.kids) (v1.toNat * Ty.size tNode + 0), strV x3.name, strV name_1, .sc (.bool (x3.name == name_1)), .bad, .bad, .bad, .bad, .bad, .bad] [.box 25 (cNode n_0), .box 25 [strV [], Ty.sl tProp [], Ty.sl tNode []]] (by kernel_rfl) ?_
        refine JK_nil ?_
        obtain rfl := Option.some.inj h
        exact turn_next () (kill_go (mid := [.bad, strV name_1, .ref 0 0 0, .bad, .ref 1 0 0, .bad, .sc (.int .i64 (IntKind.wrap .i64 (v1 + 1))), .bad, .bad, .bad, .bad, .bad, .bad, .bad, .bad, .bad, .bad, .bad, .bad, .bad, .bad, .bad, .bad, .bad, .bad, .bad, .bad, .bad]) (by kernel_rfl) (mB (mC (by kernel_rfl) (mC (by kernel_rfl) (mB (mC (by kernel_rfl) (mB (mC (by kernel_rfl) (mB (mB (mB (mB (mB (mB (mB (mB (mB (mB (mB (mB (mB (mB (mB (mB (mB (mB (mB (mB (mB mN))))))))))))))))))))))))))))) (cut_go (mid := [.box 25 (cNode n_0), .box 25 [strV [], Ty.sl tProp [], Ty.sl tNode []]]) (by kernel_rfl) (oC (oB (lC (by kernel_rfl) (lC (sl_scrub tProp _ _) (lC (sl_scrub tNode _ _) lN)))) (oC (oB (lC (by kernel_rfl) (lC (sl_scrub tProp _ _) (lC (sl_scrub tNode _ _) lN)))) oN)))
    · rw [if_neg (ne_true h2)] at h
      refine J_condF (v := (decide (v1 < (n_0.kids.length : Int)))) (by kernel_rfl) h2 ?_
      refine J_exit ?_
      refine JK_sq_exit ?_
      refine JK_nil ?_
      obtain rfl := Option.some.inj h
      exact turn_exit (tm' := [.bad, .bad, .bad, .bad, .ref 1 0 0, .bad, .bad, .bad, .bad, .bad, .bad, .bad, .bad, .bad, .bad, .bad, .bad, .bad, .bad, .bad, .bad, .bad, .bad, .bad, .bad, .bad, .bad, .bad]) (st' := [.box 25 (cNode n_0), .box 25 [strV [], Ty.sl tProp [], Ty.sl tNode []]]) () (kill_go (mid := [.bad, .bad, .bad, .bad, .ref 1 0 0, .bad, .bad, .bad, .bad, .bad, .bad, .bad, .bad, .bad, .bad, .bad, .bad, .bad, .bad, .bad, .bad, .bad, .bad, .bad, .bad, .bad, .bad, .bad]) (by kernel_rfl) (mB (mB (mB (mB (mC (by kernel_rfl) (mB (mB (mB (mB (mB (mB (mB (mB (mB (mB (mB (mB (mB (mB (mB (mB (mB (mB (mB (mB (mB (mB (mB mN))))))))))))))))))))))))))))) (cut_go (mid := [.box 25 (cNode n_0), .box 25 [strV [], Ty.sl tProp [], Ty.sl tNode []]]) (by kernel_rfl) (oC (oB (lC (by kernel_rfl) (lC (sl_scrub tProp _ _) (lC (sl_scrub tNode _ _) lN)))) (oC (oB (lC (by kernel_rfl) (lC (sl_scrub tProp _ _) (lC (sl_scrub tNode _ _) lN)))) oN))) (by kernel_rfl)
  · intro g_
    rcases r8 with r10 | r11
    · dsimp only at h
      refine (show JK _ _ _ _ (.exit 0, [.bad, .bad, .bad, .bad, .ref 1 0 0, .bad, .bad, .bad, .bad, .bad, .bad, .bad, .bad, .bad, .bad, .bad, .bad, .bad, .bad, .bad, .bad, .bad, .bad, .bad, .bad, .bad, .bad, .bad], [.box 25 (cNode n_0), .box 25 [strV [], Ty.sl tProp [], Ty.sl tNode []]]) from ?_)
      refine JK_bl_hit ?_
      refine JK_sq ?_
      refine J_seq ?_
      refine J_region ?_
      refine JS_end [.bad, .bad, .bad, .bad, .ref 1 0 0, (vB false), .bad, .bad, .bad, .bad, .bad, .bad, .bad, .bad, .bad, .bad, .bad, .bad, .bad, .bad, .bad, .bad, .bad, .bad, .bad, .bad, .bad, .agg [strV [], .sc (.slice none 0 0), .sc (.slice none 0 0)]] [.box 25 (cNode n_0), .box 25 [strV [], .sc (.slice none 0 0), .sc (.slice none 0 0)]] (by kernel_rfl) ?_
      refine JK_sq ?_
      refine J_ret ?_
      refine JK_nil ?_
      obtain rfl := Option.some.inj h
      exact ret_A (r := .tup [.agg [strV [], .sc (.slice none 0 0), .sc (.slice none 0 0)], (vB false)]) (r' := .tup [.agg [strV [], Ty.sl tProp [], Ty.sl tNode []], (vB false)]) (.inl rfl) (by kernel_rfl) (fTup (fC (fAgg (fC (by kernel_rfl) (fC (by kernel_rfl) (fC (by kernel_rfl) fN)))) (fC (by kernel_rfl) fN))) (pTup (pC (pAgg (pC rfl (pC (sl_pure tProp _) (pC (sl_pure tNode _) pN)))) (pC rfl pN))) ⟨by kernel_rfl, rfl⟩
    · dsimp only at h
      refine (show JK _ _ _ _ (.ret, [.bad, .bad, .bad, .bad, .ref 1 0 0, (vB true), .bad, .bad, .bad, .bad, .bad, .bad, .bad, .bad, .bad, .bad, .bad, .bad, .bad, .bad, .bad, .bad, .bad, .bad, .bad, .bad, .bad, .bad], [.box 25 (cNode n_0), .box 25 [strV r11.1, Ty.sl tProp r11.2.1, Ty.sl tNode r11.2.2]]) from ?_)
      refine JK_bl_ret ?_
      refine JK_sq_ret ?_
      refine JK_nil ?_
      obtain rfl := Option.some.inj h
      exact ret_A (r := .tup [.agg [strV r11.1, Ty.sl tProp r11.2.1, Ty.sl tNode r11.2.2], (vB true)]) (r' := .tup [.agg [strV r11.1, Ty.sl tProp r11.2.1, Ty.sl tNode r11.2.2], (vB true)]) (.inl rfl) (by kernel_rfl) (fTup (fC (fAgg (fC (by kernel_rfl) (fC (sl_frz tProp _ _ _ _) (fC (sl_frz tNode _ _ _ _) fN)))) (fC (by kernel_rfl) fN))) (pTup (pC (pAgg (pC rfl (pC (sl_pure tProp _) (pC (sl_pure tNode _) pN)))) (pC rfl pN))) ⟨by kernel_rfl, rfl⟩

theorem ref16_Find_C (n_0 : GNode) (path_1 : Str) (r : GNode × Bool) (st : Store) (h : ref16_Find n_0 path_1 = some r) : fcall E0 12 [.agg (cNode n_0), strV path_1] st = some (.tup [.agg (cNode r.1), .sc (.bool r.2)], st) := by
  unfold ref16_Find at h
  refine fn_alone (fn := Tryd.f12) (av' := [.agg (cNode n_0), strV path_1, .bad, .bad, .bad, .bad, .bad, .bad, .bad, .bad, .bad, .bad, .bad, .bad, .bad, .bad, .bad, .bad, .bad, .bad, .bad, .bad, .bad, .bad, .bad, .bad, .bad, .bad, .bad, .bad, .bad, .bad, .bad, .bad, .bad, .bad, .bad, .bad, .bad]) rfl fn_12 rfl (pC (pAgg (pC rfl (pC (sl_pure tProp _) (pC (sl_pure tNode _) pN)))) (pC rfl pN)) rfl rfl rfl (has_go (as1 := [.agg (cNode n_0), strV path_1]) (lC (sAgg (lC (by kernel_rfl) (lC (sl_scrub tProp _ _) (lC (sl_scrub tNode _ _) lN)))) (lC (by kernel_rfl) lN)) (by kernel_rfl)) ?_
  refine J_seq ?_
  refine J_region ?_
  refine JS_end [.agg (cNode n_0), strV path_1, .ref 0 0 0, .bad, .ref 1 0 0, (vB false), .bad, .bad, .bad, .bad, .bad, .bad, .bad, .bad, .bad, .bad, .bad, .bad, .bad, .bad, .bad, .bad, .bad, .bad, .bad, .bad, .bad, .bad, .bad, .bad, .bad, .bad, .bad, .bad, .bad, .bad, .bad, .bad, .bad] [.box 25 (cNode n_0), .box 25 [strV [], .sc (.slice none 0 0), .sc (.slice none 0 0)]] (by kernel_rfl) ?_
  refine JK_sq ?_
  refine J_seq ?_
  refine J_region ?_
  refine JS_seg 1 [.agg (cNode n_0), strV path_1, .ref 0 0 0, .bad, .ref 1 0 0, (vB false), .bad, .bad, .bad, .bad, .bad, .bad, strV path_1, .bad, .bad, .bad, .bad, .bad, .bad, .bad, .bad, .bad, .bad, .bad, .bad, .bad, .bad, .bad, .bad, .bad, .bad, .bad, .bad, .bad, .bad, .bad, .bad, .bad, .bad] [.box 25 (cNode n_0), .box 25 [strV [], .sc (.slice none 0 0), .sc (.slice none 0 0)]] (by kernel_rfl) ?_
  obtain ⟨r1, h2, h⟩ := Option.bind_eq_some_iff.1 h
  refine JS_upd (fun s => fcall E0 49 [strV path_1] s) (by kernel_rfl) (ref16_Parts_C path_1 _ _ h2) ?_
  refine JS_end [.agg (cNode n_0), strV path_1, .ref 0 0 0, .bad, .ref 1 0 0, (vB false), Ty.sl tS r1.1, .sc (.bool r1.2), .bad, .bad, .bad, .tup [Ty.sl tS r1.1, .sc (.bool r1.2)], strV path_1, .tup [Ty.sl tS r1.1, .sc (.bool r1.2)], Ty.sl tS r1.1, .sc (.bool r1.2), .bad, .bad, .bad, .bad, .bad, .bad, .bad, .bad, .bad, .bad, .bad, .bad, .bad, .bad, .bad, .bad, .bad, .bad, .bad, .bad, .bad, .bad, .bad] [.box 25 (cNode n_0), .box 25 [strV [], .sc (.slice none 0 0), .sc (.slice none 0 0)]] (by kernel_rfl) ?_
  refine JK_sq ?_
  refine J_seq ?_
  refine J_seq ?_
  refine J_region ?_
  refine JS_end [.agg (cNode n_0), strV path_1, .ref 0 0 0, .bad, .ref 1 0 0, (vB false), Ty.sl tS r1.1, .sc (.bool r1.2), .bad, .bad, .bad, .tup [Ty.sl tS r1.1, .sc (.bool r1.2)], strV path_1, .tup [Ty.sl tS r1.1, .sc (.bool r1.2)], Ty.sl tS r1.1, .sc (.bool r1.2), .sc (.bool r1.2), .sc (.bool (!r1.2)), .bad, .bad, .bad, .bad, .bad, .bad, .bad, .bad, .bad, .bad, .bad, .bad, .bad, .bad, .bad, .bad, .bad, .bad, .bad, .bad, .bad] [.box 25 (cNode n_0), .box 25 [strV [], .sc (.slice none 0 0), .sc (.slice none 0 0)]] (by kernel_rfl) ?_
  refine JK_sq ?_
  rcases bool_cases (!r1.2) with h3 | h3
  · rw [if_pos h3] at h
    refine J_condT (v := (!r1.2)) (by kernel_rfl) h3 ?_
    refine J_seq ?_
    refine J_region ?_
    refine JS_end [.agg (cNode n_0), strV path_1, .ref 0 0 0, .bad, .ref 1 0 0, (vB false), Ty.sl tS r1.1, .sc (.bool r1.2), .bad, .bad, .bad, .tup [Ty.sl tS r1.1, .sc (.bool r1.2)], strV path_1, .tup [Ty.sl tS r1.1, .sc (.bool r1.2)], Ty.sl tS r1.1, .sc (.bool r1.2), .sc (.bool r1.2), .sc (.bool (!r1.2)), .agg [strV [], .sc (.slice none 0 0), .sc (.slice none 0 0)], .bad, .bad, .bad, .bad, .bad, .bad, .bad, .bad, .bad, .bad, .bad, .bad, .bad, .bad, .bad, .bad, .bad, .bad, .bad, .bad] [.box 25 (cNode n_0), .box 25 [strV [], .sc (.slice none 0 0), .sc (.slice none 0 0)]] (by kernel_rfl) ?_
    refine JK_sq ?_
    refine J_ret ?_
    refine JK_sq_ret ?_
    refine JK_nil ?_
    obtain rfl := Option.some.inj h
    exact ret_A (r := .tup [.agg [strV [], .sc (.slice none 0 0), .sc (.slice none 0 0)], (vB false)]) (r' := .tup [.agg [strV [], Ty.sl tProp [], Ty.sl tNode []], (vB false)]) (.inl rfl) (by kernel_rfl) (fTup (fC (fAgg (fC (by kernel_rfl) (fC (by kernel_rfl) (fC (by kernel_rfl) fN)))) (fC (by kernel_rfl) fN))) (pTup (pC (pAgg (pC rfl (pC (sl_pure tProp _) (pC (sl_pure tNode _) pN)))) (pC rfl pN))) ⟨by kernel_rfl, rfl⟩
  · rw [if_neg (ne_true h3)] at h
    refine J_condF (v := (!r1.2)) (by kernel_rfl) h3 ?_
    refine J_skip ?_
    refine JK_sq ?_
    refine J_seq ?_
    refine J_seq ?_
    refine J_region ?_
    refine JS_end [.agg (cNode n_0), strV path_1, .ref 0 0 0, .bad, .ref 1 0 0, (vB false), Ty.sl tS r1.1, .sc (.bool r1.2), (vI 0), .bad, .bad, .tup [Ty.sl tS r1.1, .sc (.bool r1.2)], strV path_1, .tup [Ty.sl tS r1.1, .sc (.bool r1.2)], Ty.sl tS r1.1, .sc (.bool r1.2), .sc (.bool r1.2), .sc (.bool (!r1.2)), .bad, .bad, .bad, .bad, .bad, .bad, .bad, .bad, .bad, .bad, .bad, .bad, .bad, .bad, .bad, .bad, .bad, .bad, .bad, .bad, .bad] [.box 25 (cNode n_0), .box 25 [strV [], .sc (.slice none 0 0), .sc (.slice none 0 0)]] (by kernel_rfl) ?_
    refine JK_sq ?_
    refine J_block ?_
    obtain ⟨r14, h15, h⟩ := Option.bind_eq_some_iff.1 h
    refine J_loop (γ := Unit) h15 2 [.agg (cNode n_0), strV path_1, .ref 0 0 0, .bad, .ref 1 0 0, (vB false), Ty.sl tS r1.1, .sc (.bool r1.2), (vI 0), .bad, .bad, .tup [Ty.sl tS r1.1, .sc (.bool r1.2)], strV path_1, .tup [Ty.sl tS r1.1, .sc (.bool r1.2)], Ty.sl tS r1.1, .sc (.bool r1.2), .sc (.bool r1.2), .sc (.bool (!r1.2)), .bad, .bad, .bad, .bad, .bad, .bad, .bad, .bad, .bad, .bad, .bad, .bad, .bad, .bad, .bad, .bad, .bad, .bad, .bad, .bad, .bad] [.box 25 (cNode n_0), .box 25 [strV [], .sc (.slice none 0 0), .sc (.slice none 0 0)]] (fun s g => [.bad, .bad, .ref 0 0 0, .bad, .ref 1 0 0, .bad, Ty.sl tS r1.1, .bad, .sc (.int .i64 s.1), .bad, .bad, .bad, .bad, .bad, .bad, .bad, .bad, .bad, .bad, .bad, .bad, .bad, .bad, .bad, .bad, .bad, .bad, .bad, .bad, .bad, .bad, .bad, .bad, .bad, .bad, .bad, .bad, .bad, .bad]) (fun s g => [.box 25 [strV s.2.1, Ty.sl tProp s.2.2.1, Ty.sl tNode s.2.2.2], .box 25 [strV [], Ty.sl tProp [], Ty.sl tNode []]]) (fun r g => match r with | (.inl r) => (.exit 0, [.bad, .bad, .ref 0 0 0, .bad, .ref 1 0 0, .bad, .bad, .bad, .bad, .bad, .bad, .bad, .bad, .bad, .bad, .bad, .bad, .bad, .bad, .bad, .bad, .bad, .bad, .bad, .bad, .bad, .bad, .bad, .bad, .bad, .bad, .bad, .bad, .bad, .bad, .bad, .bad, .bad, .bad], [.box 25 [strV r.1, Ty.sl tProp r.2.1, Ty.sl tNode r.2.2], .box 25 [strV [], Ty.sl tProp [], Ty.sl tNode []]]) | (.inr r) => (.ret, [.bad, .bad, .ref 0 0 0, .bad, .ref 1 0 0, (vB false), .bad, .bad, .bad, .bad, .bad, .bad, .bad, .bad, .bad, .bad, .bad, .bad, .bad, .bad, .bad, .bad, .bad, .bad, .bad, .bad, .bad, .bad, .bad, .bad, .bad, .bad, .bad, .bad, .bad, .bad, .bad, .bad, .bad], [.box 25 [strV r.1, Ty.sl tProp r.2.1, Ty.sl tNode r.2.2], .box 25 [strV [], Ty.sl tProp [], Ty.sl tNode []]])) () (by kernel_rfl) (by kernel_rfl) (kill_go (mid := [.bad, .bad, .ref 0 0 0, .bad, .ref 1 0 0, .bad, Ty.sl tS r1.1, .bad, (vI 0), .bad, .bad, .bad, .bad, .bad, .bad, .bad, .bad, .bad, .bad, .bad, .bad, .bad, .bad, .bad, .bad, .bad, .bad, .bad, .bad, .bad, .bad, .bad, .bad, .bad, .bad, .bad, .bad, .bad, .bad]) (by kernel_rfl) (mB (mB (mC (by kernel_rfl) (mB (mC (by kernel_rfl) (mB (mC (sl_scrub tS _ _) (mB (mC (by kernel_rfl) (mB (mB (mB (mB (mB (mB (mB (mB (mB (mB (mB (mB (mB (mB (mB (mB (mB (mB (mB (mB (mB (mB (mB (mB (mB (mB (mB (mB (mB (mB mN)))))))))))))))))))))))))))))))))))))))) (cut_go (mid := [.box 25 (cNode n_0), .box 25 [strV [], .sc (.slice none 0 0), .sc (.slice none 0 0)]]) (by kernel_rfl) (oC (oB (lC (by kernel_rfl) (lC (sl_scrub tProp _ _) (lC (sl_scrub tNode _ _) lN)))) (oC (oB (lC (by kernel_rfl) (lC (by kernel_rfl) (lC (by kernel_rfl) lN)))) oN))) ?_ ?_
    · rintro ⟨v4, v5, v6, v7⟩ _ y h
      unfold ref16_Find_l1 at h
      dsimp only at h
      refine J_seq ?_
      refine J_seq ?_
      refine J_region ?_
      refine JS_end [.bad, .bad, .ref 0 0 0, .bad, .ref 1 0 0, .bad, Ty.sl tS r1.1, .bad, (vI v4), .bad, .bad, .bad, .bad, .bad, .bad, .bad, .bad, .bad, .bad, (vI v4), Ty.sl tS r1.1, .sc (.int .i64 (r1.1.length : Int)), .sc (.bool (decide (v4 < (r1.1.length : Int)))), .bad, .bad, .bad, .bad, .bad, .bad, .bad, .bad, .bad, .bad, .bad, .bad, .bad, .bad, .bad, .bad] [.box 25 [strV v5, Ty.sl tProp v6, Ty.sl tNode v7], .box 25 [strV [], Ty.sl tProp [], Ty.sl tNode []]] (by kernel_rfl) ?_
      refine JK_sq ?_
      rcases bool_cases (decide (v4 < (r1.1.length : Int))) with h8 | h8
      · rw [if_pos h8] at h
        refine J_condT (v := (decide (v4 < (r1.1.length : Int)))) (by kernel_rfl) h8 ?_
        refine J_skip ?_
        refine JK_sq ?_
        refine J_seq ?_
        refine J_block ?_
        refine J_seq ?_
        refine J_draw ?_
        refine JD_seg [] [.bad, .bad, .ref 0 0 0, .bad, .ref 1 0 0, .bad, Ty.sl tS r1.1, .bad, (vI v4), .bad, .bad, .bad, .bad, .bad, .bad, .bad, .bad, .bad, .bad, (vI v4), Ty.sl tS r1.1, .sc (.int .i64 (r1.1.length : Int)), .sc (.bool (decide (v4 < (r1.1.length : Int)))), .bad, .bad, .bad, .bad, .bad, .bad, .bad, .bad, .bad, .bad, .bad, .bad, .bad, .bad, .bad, .bad] [.box 25 [strV v5, Ty.sl tProp v6, Ty.sl tNode v7], .box 25 [strV [], Ty.sl tProp [], Ty.sl tNode []]] (by kernel_rfl) (by kernel_rfl) (by kernel_rfl) ?_
        refine JD_upd (c := .reads) (fun s => some (.agg [strV v5, Ty.sl tProp v6, Ty.sl tNode v7], [.box 25 [strV v5, Ty.sl tProp v6, Ty.sl tNode v7], .box 25 [strV [], Ty.sl tProp [], Ty.sl tNode []]])) (by kernel_rfl) rfl (by kernel_rfl) ?_
        refine JD_upd (c := .free) (fun s => some (Ty.sl tS r1.1, [.box 25 [strV v5, Ty.sl tProp v6, Ty.sl tNode v7], .box 25 [strV [], Ty.sl tProp [], Ty.sl tNode []]])) (by kernel_rfl) rfl (by kernel_rfl) ?_
        refine JD_upd (c := .free) (fun s => some ((vI v4), [.box 25 [strV v5, Ty.sl tProp v6, Ty.sl tNode v7], .box 25 [strV [], Ty.sl tProp [], Ty.sl tNode []]])) (by kernel_rfl) rfl (by kernel_rfl) ?_
        refine JD_seg [.reads, .free, .free] [.bad, .bad, .ref 0 0 0, .bad, .ref 1 0 0, .bad, Ty.sl tS r1.1, .bad, (vI v4), .bad, .bad, .bad, .bad, .bad, .bad, .bad, .bad, .bad, .bad, (vI v4), Ty.sl tS r1.1, .sc (.int .i64 (r1.1.length : Int)), .sc (.bool (decide (v4 < (r1.1.length : Int)))), .bad, .bad, .bad, .agg [strV v5, Ty.sl tProp v6, Ty.sl tNode v7], Ty.sl tS r1.1, (vI v4), .bad, .bad, .bad, .bad, .bad, .bad, .bad, .bad, .bad, .bad] [.box 25 [strV v5, Ty.sl tProp v6, Ty.sl tNode v7], .box 25 [strV [], Ty.sl tProp [], Ty.sl tNode []]] (by kernel_rfl) (by kernel_rfl) (by kernel_rfl) ?_
        obtain ⟨x9, h10, h⟩ := Option.bind_eq_some_iff.1 h
        refine JD_val (c := .reads) (fun s => aindexAddr E0.tb s 37 (Ty.sl tS r1.1) ((vI v4))) (by kernel_rfl) (sl_addr tS tb_37 rfl tb_9 rfl h10) (by kernel_rfl) ?_
        refine JD_seg [.reads, .free, .free, .reads] [.bad, .bad, .ref 0 0 0, .bad, .ref 1 0 0, .bad, Ty.sl tS r1.1, .bad, (vI v4), .bad, .bad, .bad, .bad, .bad, .bad, .bad, .bad, .bad, .bad, (vI v4), Ty.sl tS r1.1, .sc (.int .i64 (r1.1.length : Int)), .sc (.bool (decide (v4 < (r1.1.length : Int)))), .bad, .bad, .bad, .agg [strV v5, Ty.sl tProp v6, Ty.sl tNode v7], Ty.sl tS r1.1, (vI v4), .fp (List.flatMap (Ty.cells tS) r1.1) (v4.toNat * Ty.size tS), .bad, .bad, .bad, .bad, .bad, .bad, .bad, .bad, .bad] [.box 25 [strV v5, Ty.sl tProp v6, Ty.sl tNode v7], .box 25 [strV [], Ty.sl tProp [], Ty.sl tNode []]] (by kernel_rfl) (by kernel_rfl) (by kernel_rfl) ?_
        refine JD_val (c := .reads) (fun s => aload E0.tb s 9 (.fp (List.flatMap (Ty.cells tS) r1.1) (v4.toNat * Ty.size tS))) (by kernel_rfl) (fp_load1 tS (o := 0) tb_9 rfl h10 (rfl)) (by kernel_rfl) ?_
        refine JD_seg [.reads, .free, .free, .reads, .reads] [.bad, .bad, .ref 0 0 0, .bad, .ref 1 0 0, .bad, Ty.sl tS r1.1, .bad, (vI v4), .bad, .bad, .bad, .bad, .bad, .bad, .bad, .bad, .bad, .bad, (vI v4), Ty.sl tS r1.1, .sc (.int .i64 (r1.1.length : Int)), .sc (.bool (decide (v4 < (r1.1.length : Int)))), .bad, .bad, .bad, .agg [strV v5, Ty.sl tProp v6, Ty.sl tNode v7], Ty.sl tS r1.1, (vI v4), .fp (List.flatMap (Ty.cells tS) r1.1) (v4.toNat * Ty.size tS), strV x9, .bad, .bad, .bad, .bad, .bad, .bad, .bad, .bad] [.box 25 [strV v5, Ty.sl tProp v6, Ty.sl tNode v7], .box 25 [strV [], Ty.sl tProp [], Ty.sl tNode []]] (by kernel_rfl) (by kernel_rfl) (by kernel_rfl) ?_
        obtain ⟨r11, h12, h⟩ := Option.bind_eq_some_iff.1 h
        refine JD_upd (c := .free) (fun s => fcall E0 14 [.agg [strV v5, Ty.sl tProp v6, Ty.sl tNode v7], strV x9] s) (by kernel_rfl) (ref16_Kid_C (GNode.mk v5 v6 v7) x9 _ _ h12) (Eq.trans (b := if pureL [.agg [strV v5, Ty.sl tProp v6, Ty.sl tNode v7], strV x9] = true then Cls.free else Cls.writes) (by kernel_rfl) (cls_if (pC (pAgg (pC rfl (pC (sl_pure tProp _) (pC (sl_pure tNode _) pN)))) (pC rfl pN)))) ?_
        refine JD_upd (c := .free) (fun s => some (.tup [.agg (cNode r11.1), .sc (.bool r11.2)], [.box 25 [strV v5, Ty.sl tProp v6, Ty.sl tNode v7], .box 25 [strV [], Ty.sl tProp [], Ty.sl tNode []]])) (by kernel_rfl) rfl (by kernel_rfl) ?_
        refine JD_upd (c := .free) (fun s => some (.agg (cNode r11.1), [.box 25 [strV v5, Ty.sl tProp v6, Ty.sl tNode v7], .box 25 [strV [], Ty.sl tProp [], Ty.sl tNode []]])) (by kernel_rfl) rfl (by kernel_rfl) ?_
        refine JD_upd (c := .free) (fun s => some (.sc (.bool r11.2), [.box 25 [strV v5, Ty.sl tProp v6, Ty.sl tNode v7], .box 25 [strV [], Ty.sl tProp [], Ty.sl tNode []]])) (by kernel_rfl) rfl (by kernel_rfl) ?_
        refine JD_upd (c := .allocs) (fun s => some (.ref 2 0 0, [.box 25 [strV v5, Ty.sl tProp v6, Ty.sl tNode v7], .box 25 [strV [], Ty.sl tProp [], Ty.sl tNode []], .box 25 [strV [], .sc (.slice none 0 0), .sc (.slice none 0 0)]])) (by kernel_rfl) rfl (by kernel_rfl) ?_
        refine JD_upd (c := .writes) (fun s => some (.bad, [.box 25 [strV v5, Ty.sl tProp v6, Ty.sl tNode v7], .box 25 [strV [], Ty.sl tProp [], Ty.sl tNode []], .box 25 (cNode r11.1)])) (by kernel_rfl) rfl (by kernel_rfl) ?_
        refine JD_upd (c := .free) (fun s => some (.sc (.bool r11.2), [.box 25 [strV v5, Ty.sl tProp v6, Ty.sl tNode v7], .box 25 [strV [], Ty.sl tProp [], Ty.sl tNode []], .box 25 (cNode r11.1)])) (by kernel_rfl) rfl (by kernel_rfl) ?_
        refine JD_seg [.reads, .free, .free, .reads, .reads, .free, .free, .free, .free, .allocs, .writes, .free] [.bad, .bad, .ref 0 0 0, .bad, .ref 1 0 0, .bad, Ty.sl tS r1.1, .bad, (vI v4), .ref 2 0 0, .sc (.bool r11.2), .bad, .bad, .bad, .bad, .bad, .bad, .bad, .bad, (vI v4), Ty.sl tS r1.1, .sc (.int .i64 (r1.1.length : Int)), .sc (.bool (decide (v4 < (r1.1.length : Int)))), .bad, .bad, .tup [.agg (cNode r11.1), .sc (.bool r11.2)], .agg [strV v5, Ty.sl tProp v6, Ty.sl tNode v7], Ty.sl tS r1.1, (vI v4), .fp (List.flatMap (Ty.cells tS) r1.1) (v4.toNat * Ty.size tS), strV x9, .tup [.agg (cNode r11.1), .sc (.bool r11.2)], .agg (cNode r11.1), .sc (.bool r11.2), .bad, .bad, .bad, .bad, .bad] [.box 25 [strV v5, Ty.sl tProp v6, Ty.sl tNode v7], .box 25 [strV [], Ty.sl tProp [], Ty.sl tNode []], .box 25 (cNode r11.1)] (by kernel_rfl) (by kernel_rfl) (by kernel_rfl) ?_
        refine JD_end (by kernel_rfl) (by kernel_rfl) ?_
        refine JK_sq ?_
        refine J_seq ?_
        refine J_seq ?_
        refine J_region ?_
        refine JS_end [.bad, .bad, .ref 0 0 0, .bad, .ref 1 0 0, .bad, Ty.sl tS r1.1, .bad, (vI v4), .ref 2 0 0, .sc (.bool r11.2), .bad, .bad, .bad, .bad, .bad, .bad, .bad, .bad, (vI v4), Ty.sl tS r1.1, .sc (.int .i64 (r1.1.length : Int)), .sc (.bool (decide (v4 < (r1.1.length : Int)))), .bad, .bad, .tup [.agg (cNode r11.1), .sc (.bool r11.2)], .agg [strV v5, Ty.sl tProp v6, Ty.sl tNode v7], Ty.sl tS r1.1, (vI v4), .fp (List.flatMap (Ty.cells tS) r1.1) (v4.toNat * Ty.size tS), strV x9, .tup [.agg (cNode r11.1), .sc (.bool r11.2)], .agg (cNode r11.1), .sc (.bool r11.2), .sc (.bool r11.2), .sc (.bool (!r11.2)), .bad, .bad, .bad] [.box 25 [strV v5, Ty.sl tProp v6, Ty.sl tNode v7], .box 25 [strV [], Ty.sl tProp [], Ty.sl tNode []], .box 25 (cNode r11.1)] (by kernel_rfl) ?_
        refine JK_sq ?_
        rcases bool_cases (!r11.2) with h13 | h13
        · rw [if_pos h13] at h
          refine J_condT (v := (!r11.2)) (by kernel_rfl) h13 ?_
          refine J_seq ?_
          refine J_region ?_
          refine JS_end [.bad, .bad, .ref 0 0 0, .bad, .ref 1 0 0, (vB false), Ty.sl tS r1.1, .bad, (vI v4), .ref 2 0 0, .sc (.bool r11.2), .bad, .bad, .bad, .bad, .bad, .bad, .bad, .bad, (vI v4), Ty.sl tS r1.1, .sc (.int .i64 (r1.1.length : Int)), .sc (.bool (decide (v4 < (r1.1.length : Int)))), .bad, .bad, .tup [.agg (cNode r11.1), .sc (.bool r11.2)], .agg [strV v5, Ty.sl tProp v6, Ty.sl tNode v7], Ty.sl tS r1.1, (vI v4), .fp (List.flatMap (Ty.cells tS) r1.1) (v4.toNat * Ty.size tS), strV x9, .tup [.agg (cNode r11.1), .sc (.bool r11.2)], .agg (cNode r11.1), .sc (.bool r11.2), .sc (.bool r11.2), .sc (.bool (!r11.2)), .agg [strV [], .sc (.slice none 0 0), .sc (.slice none 0 0)], .bad, .bad] [.box 25 [strV v5, Ty.sl tProp v6, Ty.sl tNode v7], .box 25 [strV [], .sc (.slice none 0 0), .sc (.slice none 0 0)], .box 25 (cNode r11.1)] (by kernel_rfl) ?_
          refine JK_sq ?_
          refine J_ret ?_
          refine JK_sq_ret ?_
          refine JK_bl_ret ?_
          refine JK_sq_ret ?_
          refine JK_nil ?_
          obtain rfl := Option.some.inj h
          exact turn_ret (tm' := [.bad, .bad, .ref 0 0 0, .bad, .ref 1 0 0, (vB false), .bad, .bad, .bad, .bad, .bad, .bad, .bad, .bad, .bad, .bad, .bad, .bad, .bad, .bad, .bad, .bad, .bad, .bad, .bad, .bad, .bad, .bad, .bad, .bad, .bad, .bad, .bad, .bad, .bad, .bad, .bad, .bad, .bad]) (st' := [.box 25 [strV v5, Ty.sl tProp v6, Ty.sl tNode v7], .box 25 [strV [], Ty.sl tProp [], Ty.sl tNode []]]) () (kill_go (mid := [.bad, .bad, .ref 0 0 0, .bad, .ref 1 0 0, (vB false), .bad, .bad, .bad, .bad, .bad, .bad, .bad, .bad, .bad, .bad, .bad, .bad, .bad, .bad, .bad, .bad, .bad, .bad, .bad, .bad, .bad, .bad, .bad, .bad, .bad, .bad, .bad, .bad, .bad, .bad, .bad, .bad, .bad]) (by kernel_rfl) (mB (mB (mC (by kernel_rfl) (mB (mC (by kernel_rfl) (mC (by kernel_rfl) (mB (mB (mB (mB (mB (mB (mB (mB (mB (mB (mB (mB (mB (mB (mB (mB (mB (mB (mB (mB (mB (mB (mB (mB (mB (mB (mB (mB (mB (mB (mB (mB (mB mN)))))))))))))))))))))))))))))))))))))))) (cut_go (mid := [.box 25 [strV v5, Ty.sl tProp v6, Ty.sl tNode v7], .box 25 [strV [], .sc (.slice none 0 0), .sc (.slice none 0 0)]]) (by kernel_rfl) (oC (oB (lC (by kernel_rfl) (lC (sl_scrub tProp _ _) (lC (sl_scrub tNode _ _) lN)))) (oC (oB (lC (by kernel_rfl) (lC (by kernel_rfl) (lC (by kernel_rfl) lN)))) oN))) (by kernel_rfl)
        · rw [if_neg (ne_true h13)] at h
          refine J_condF (v := (!r11.2)) (by kernel_rfl) h13 ?_
          refine J_skip ?_
          refine JK_sq ?_
          refine J_region ?_
          refine JS_end [.bad, .bad, .ref 0 0 0, .bad, .ref 1 0 0, .bad, Ty.sl tS r1.1, .bad, (vI v4), .ref 2 0 0, .sc (.bool r11.2), .bad, .bad, .bad, .bad, .bad, .bad, .bad, .bad, (vI v4), Ty.sl tS r1.1, .sc (.int .i64 (r1.1.length : Int)), .sc (.bool (decide (v4 < (r1.1.length : Int)))), .bad, .bad, .tup [.agg (cNode r11.1), .sc (.bool r11.2)], .agg [strV v5, Ty.sl tProp v6, Ty.sl tNode v7], Ty.sl tS r1.1, (vI v4), .fp (List.flatMap (Ty.cells tS) r1.1) (v4.toNat * Ty.size tS), strV x9, .tup [.agg (cNode r11.1), .sc (.bool r11.2)], .agg (cNode r11.1), .sc (.bool r11.2), .sc (.bool r11.2), .sc (.bool (!r11.2)), .bad, .agg (cNode r11.1), .bad] [.box 25 (cNode r11.1), .box 25 [strV [], Ty.sl tProp [], Ty.sl tNode []], .box 25 (cNode r11.1)] (by kernel_rfl) ?_
          refine JK_bl ?_
          refine JK_sq ?_
          refine J_region ?_
          refine JS_end [.bad, .bad, .ref 0 0 0, .bad, .ref 1 0 0, .bad, Ty.sl tS r1.1, .bad, .sc (.int .i64 (IntKind.wrap .i64 (v4 + 1))), .ref 2 0 0, .sc (.bool r11.2), .bad, .bad, .bad, .bad, .bad, .bad, .bad, .bad, (vI v4), Ty.sl tS r1.1, .sc (.int .i64 (r1.1.length : Int)), .sc (.bool (decide (v4 < (r1.1.length : Int)))), (vI v4), .sc (.int .i64 (IntKind.wrap .i64 (v4 + 1))), .tup [.agg (cNode r11.1), .sc (.bool r11.2)], .agg [strV v5, Ty.sl tProp v6, Ty.sl tNode v7], Ty.sl tS r1.1, (vI v4), .fp (List.flatMap (Ty.cells tS) r1.1) (v4.toNat * Ty.size tS), strV x9, .tup [.agg (cNode r11.1), .sc (.bool r11.2)], .agg (cNode r11.1), .sc (.bool r11.2), .sc (.bool r11.2), .sc (.bool (!r11.2)), .bad, .agg (cNode r11.1), .bad] [.box 25 (cNode r11.1), .box 25 [strV [], Ty.sl tProp [], Ty.sl tNode []], .box 25 (cNode r11.1)] (by kernel_rfl) ?_
          refine JK_nil ?_
          obtain rfl := Option.some.inj h
          exact turn_next () (kill_go (mid := [.bad, .bad, .ref 0 0 0, .bad, .ref 1 0 0, .bad, Ty.sl tS r1.1, .bad, .sc (.int .i64 (IntKind.wrap .i64 (v4 + 1))), .bad, .bad, .bad, .bad, .bad, .bad, .bad, .bad, .bad, .bad, .bad, .bad, .bad, .bad, .bad, .bad, .bad, .bad, .bad, .bad, .bad, .bad, .bad, .bad, .bad, .bad, .bad, .bad, .bad, .bad]) (by kernel_rfl) (mB (mB (mC (by kernel_rfl) (mB (mC (by kernel_rfl) (mB (mC (sl_scrub tS _ _) (mB (mC (by kernel_rfl) (mB (mB (mB (mB (mB (mB (mB (mB (mB (mB (mB (mB (mB (mB (mB (mB (mB (mB (mB (mB (mB (mB (mB (mB (mB (mB (mB (mB (mB (mB mN)))))))))))))))))))))))))))))))))))))))) (cut_go (mid := [.box 25 (cNode r11.1), .box 25 [strV [], Ty.sl tProp [], Ty.sl tNode []]]) (by kernel_rfl) (oC (oB (lC (by kernel_rfl) (lC (sl_scrub tProp _ _) (lC (sl_scrub tNode _ _) lN)))) (oC (oB (lC (by kernel_rfl) (lC (sl_scrub tProp _ _) (lC (sl_scrub tNode _ _) lN)))) oN)))
      · rw [if_neg (ne_true h8)] at h
        refine J_condF (v := (decide (v4 < (r1.1.length : Int)))) (by kernel_rfl) h8 ?_
        refine J_exit ?_
        refine JK_sq_exit ?_
        refine JK_nil ?_
        obtain rfl := Option.some.inj h
        exact turn_exit (tm' := [.bad, .bad, .ref 0 0 0, .bad, .ref 1 0 0, .bad, .bad, .bad, .bad, .bad, .bad, .bad, .bad, .bad, .bad, .bad, .bad, .bad, .bad, .bad, .bad, .bad, .bad, .bad, .bad, .bad, .bad, .bad, .bad, .bad, .bad, .bad, .bad, .bad, .bad, .bad, .bad, .bad, .bad]) (st' := [.box 25 [strV v5, Ty.sl tProp v6, Ty.sl tNode v7], .box 25 [strV [], Ty.sl tProp [], Ty.sl tNode []]]) () (kill_go (mid := [.bad, .bad, .ref 0 0 0, .bad, .ref 1 0 0, .bad, .bad, .bad, .bad, .bad, .bad, .bad, .bad, .bad, .bad, .bad, .bad, .bad, .bad, .bad, .bad, .bad, .bad, .bad, .bad, .bad, .bad, .bad, .bad, .bad, .bad, .bad, .bad, .bad, .bad, .bad, .bad, .bad, .bad]) (by kernel_rfl) (mB (mB (mC (by kernel_rfl) (mB (mC (by kernel_rfl) (mB (mB (mB (mB (mB (mB (mB (mB (mB (mB (mB (mB (mB (mB (mB (mB (mB (mB (mB (mB (mB (mB (mB (mB (mB (mB (mB (mB (mB (mB (mB (mB (mB (mB mN)))))))))))))))))))))))))))))))))))))))) (cut_go (mid := [.box 25 [strV v5, Ty.sl tProp v6, Ty.sl tNode v7], .box 25 [strV [], Ty.sl tProp [], Ty.sl tNode []]]) (by kernel_rfl) (oC (oB (lC (by kernel_rfl) (lC (sl_scrub tProp _ _) (lC (sl_scrub tNode _ _) lN)))) (oC (oB (lC (by kernel_rfl) (lC (sl_scrub tProp _ _) (lC (sl_scrub tNode _ _) lN)))) oN))) (by kernel_rfl)
    · intro g_
      rcases r14 with r16 | r17
      · dsimp only at h
        refine (show JK _ _ _ _ (.exit 0, [.bad, .bad, .ref 0 0 0, .bad, .ref 1 0 0, .bad, .bad, .bad, .bad, .bad, .bad, .bad, .bad, .bad, .bad, .bad, .bad, .bad, .bad, .bad, .bad, .bad, .bad, .bad, .bad, .bad, .bad, .bad, .bad, .bad, .bad, .bad, .bad, .bad, .bad, .bad, .bad, .bad, .bad], [.box 25 [strV r16.1, Ty.sl tProp r16.2.1, Ty.sl tNode r16.2.2], .box 25 [strV [], Ty.sl tProp [], Ty.sl tNode []]]) from ?_)
        refine JK_bl_hit ?_
        refine JK_sq ?_
        refine J_seq ?_
        refine J_region ?_
        refine JS_end [.bad, .bad, .ref 0 0 0, .bad, .ref 1 0 0, (vB true), .bad, .bad, .bad, .bad, .bad, .bad, .bad, .bad, .bad, .bad, .bad, .bad, .bad, .bad, .bad, .bad, .bad, .bad, .bad, .bad, .bad, .bad, .bad, .bad, .bad, .bad, .bad, .bad, .bad, .bad, .bad, .bad, .agg [strV r16.1, Ty.sl tProp r16.2.1, Ty.sl tNode r16.2.2]] [.box 25 [strV r16.1, Ty.sl tProp r16.2.1, Ty.sl tNode r16.2.2], .box 25 [strV r16.1, Ty.sl tProp r16.2.1, Ty.sl tNode r16.2.2]] (by kernel_rfl) ?_
        refine JK_sq ?_
        refine J_ret ?_
        refine JK_nil ?_
        obtain rfl := Option.some.inj h
        exact ret_A (r := .tup [.agg [strV r16.1, Ty.sl tProp r16.2.1, Ty.sl tNode r16.2.2], (vB true)]) (r' := .tup [.agg [strV r16.1, Ty.sl tProp r16.2.1, Ty.sl tNode r16.2.2], (vB true)]) (.inl rfl) (by kernel_rfl) (fTup (fC (fAgg (fC (by kernel_rfl) (fC (sl_frz tProp _ _ _ _) (fC (sl_frz tNode _ _ _ _) fN)))) (fC (by kernel_rfl) fN))) (pTup (pC (pAgg (pC rfl (pC (sl_pure tProp _) (pC (sl_pure tNode _) pN)))) (pC rfl pN))) ⟨by kernel_rfl, rfl⟩
      · dsimp only at h
        refine (show JK _ _ _ _ (.ret, [.bad, .bad, .ref 0 0 0, .bad, .ref 1 0 0, (vB false), .bad, .bad, .bad, .bad, .bad, .bad, .bad, .bad, .bad, .bad, .bad, .bad, .bad, .bad, .bad, .bad, .bad, .bad, .bad, .bad, .bad, .bad, .bad, .bad, .bad, .bad, .bad, .bad, .bad, .bad, .bad, .bad, .bad], [.box 25 [strV r17.1, Ty.sl tProp r17.2.1, Ty.sl tNode r17.2.2], .box 25 [strV [], Ty.sl tProp [], Ty.sl tNode []]]) from ?_)
        refine JK_bl_ret ?_
        refine JK_sq_ret ?_
        refine JK_nil ?_
        obtain rfl := Option.some.inj h
        exact ret_A (r := .tup [.agg [strV [], Ty.sl tProp [], Ty.sl tNode []], (vB false)]) (r' := .tup [.agg [strV [], Ty.sl tProp [], Ty.sl tNode []], (vB false)]) (.inl rfl) (by kernel_rfl) (fTup (fC (fAgg (fC (by kernel_rfl) (fC (sl_frz tProp _ _ _ _) (fC (sl_frz tNode _ _ _ _) fN)))) (fC (by kernel_rfl) fN))) (pTup (pC (pAgg (pC rfl (pC (sl_pure tProp _) (pC (sl_pure tNode _) pN)))) (pC rfl pN))) ⟨by kernel_rfl, rfl⟩

theorem ref12_SameProps_C (a_0 : List GProp) (b_1 : List GProp) (r : Bool) (st : Store) (h : ref12_SameProps a_0 b_1 = some r) : fcall E0 95 [Ty.sl tProp a_0, Ty.sl tProp b_1] st = some ((vB r), st) := by
  unfold ref12_SameProps at h
  refine fn_alone (fn := Tryd.f95) (av' := [Ty.sl tProp a_0, Ty.sl tProp b_1, .bad, .bad, .bad, .bad, .bad, .bad, .bad, .bad, .bad, .bad, .bad, .bad, .bad, .bad, .bad, .bad, .bad, .bad, .bad, .bad, .bad, .bad, .bad, .bad, .bad, .bad, .bad, .bad, .bad, .bad]) rfl fn_95 rfl (pC (sl_pure tProp _) (pC (sl_pure tProp _) pN)) rfl rfl rfl (has_go (as1 := [Ty.sl tProp a_0, Ty.sl tProp b_1]) (lC (sl_scrub tProp _ _) (lC (sl_scrub tProp _ _) lN)) (by kernel_rfl)) ?_
  refine J_seq ?_
  refine J_region ?_
  refine JS_end [Ty.sl tProp a_0, Ty.sl tProp b_1, .bad, .bad, (vB false), .bad, .bad, .bad, .bad, .bad, .bad, .bad, .bad, .bad, .bad, .bad, .bad, .bad, .bad, .bad, .bad, .bad, .bad, .bad, .bad, .bad, .bad, .bad, .bad, .bad, .bad, .bad] [] (by kernel_rfl) ?_
  refine JK_sq ?_
  refine J_seq ?_
  refine J_seq ?_
  refine J_region ?_
  refine JS_end [Ty.sl tProp a_0, Ty.sl tProp b_1, .bad, .bad, (vB false), .bad, Ty.sl tProp a_0, .sc (.int .i64 (a_0.length : Int)), Ty.sl tProp b_1, .sc (.int .i64 (b_1.length : Int)), .sc (.bool ((a_0.length : Int) != (b_1.length : Int))), .bad, .bad, .bad, .bad, .bad, .bad, .bad, .bad, .bad, .bad, .bad, .bad, .bad, .bad, .bad, .bad, .bad, .bad, .bad, .bad, .bad] [] (by kernel_rfl) ?_
  refine JK_sq ?_
  rcases bool_cases ((a_0.length : Int) != (b_1.length : Int)) with h1 | h1
  · rw [if_pos h1] at h
    refine J_condT (v := ((a_0.length : Int) != (b_1.length : Int))) (by kernel_rfl) h1 ?_
    refine J_seq ?_
    refine J_region ?_
    refine JS_end [Ty.sl tProp a_0, Ty.sl tProp b_1, .bad, .bad, (vB false), .bad, Ty.sl tProp a_0, .sc (.int .i64 (a_0.length : Int)), Ty.sl tProp b_1, .sc (.int .i64 (b_1.length : Int)), .sc (.bool ((a_0.length : Int) != (b_1.length : Int))), .bad, .bad, .bad, .bad, .bad, .bad, .bad, .bad, .bad, .bad, .bad, .bad, .bad, .bad, .bad, .bad, .bad, .bad, .bad, .bad, .bad] [] (by kernel_rfl) ?_
    refine JK_sq ?_
    refine J_ret ?_
    refine JK_sq_ret ?_
    refine JK_nil ?_
    obtain rfl := Option.some.inj h
    exact ret_A (r := (vB false)) (r' := (vB false)) (.inl rfl) (by kernel_rfl) (by kernel_rfl) rfl ⟨by kernel_rfl, rfl⟩
  · rw [if_neg (ne_true h1)] at h
    refine J_condF (v := ((a_0.length : Int) != (b_1.length : Int))) (by kernel_rfl) h1 ?_
    refine J_skip ?_
    refine JK_sq ?_
    refine J_seq ?_
    refine J_seq ?_
    refine J_region ?_
    refine JS_end [Ty.sl tProp a_0, Ty.sl tProp b_1, .bad, .bad, (vB false), (vI 0), Ty.sl tProp a_0, .sc (.int .i64 (a_0.length : Int)), Ty.sl tProp b_1, .sc (.int .i64 (b_1.length : Int)), .sc (.bool ((a_0.length : Int) != (b_1.length : Int))), .bad, .bad, .bad, .bad, .bad, .bad, .bad, .bad, .bad, .bad, .bad, .bad, .bad, .bad, .bad, .bad, .bad, .bad, .bad, .bad, .bad] [] (by kernel_rfl) ?_
    refine JK_sq ?_
    refine J_block ?_
    obtain ⟨r10, h11, h⟩ := Option.bind_eq_some_iff.1 h
    refine J_loop (γ := Unit) h11 0 [Ty.sl tProp a_0, Ty.sl tProp b_1, .bad, .bad, (vB false), (vI 0), Ty.sl tProp a_0, .sc (.int .i64 (a_0.length : Int)), Ty.sl tProp b_1, .sc (.int .i64 (b_1.length : Int)), .sc (.bool ((a_0.length : Int) != (b_1.length : Int))), .bad, .bad, .bad, .bad, .bad, .bad, .bad, .bad, .bad, .bad, .bad, .bad, .bad, .bad, .bad, .bad, .bad, .bad, .bad, .bad, .bad] [] (fun s g => [Ty.sl tProp a_0, Ty.sl tProp b_1, .bad, .bad, .bad, (vI s), .bad, .bad, .bad, .bad, .bad, .bad, .bad, .bad, .bad, .bad, .bad, .bad, .bad, .bad, .bad, .bad, .bad, .bad, .bad, .bad, .bad, .bad, .bad, .bad, .bad, .bad]) (fun s g => []) (fun r g => match r with | (.inl r) => (.exit 0, [.bad, .bad, .bad, .bad, .bad, .bad, .bad, .bad, .bad, .bad, .bad, .bad, .bad, .bad, .bad, .bad, .bad, .bad, .bad, .bad, .bad, .bad, .bad, .bad, .bad, .bad, .bad, .bad, .bad, .bad, .bad, .bad], []) | (.inr r) => (.ret, [.bad, .bad, .bad, .bad, (vB false), .bad, .bad, .bad, .bad, .bad, .bad, .bad, .bad, .bad, .bad, .bad, .bad, .bad, .bad, .bad, .bad, .bad, .bad, .bad, .bad, .bad, .bad, .bad, .bad, .bad, .bad, .bad], [])) () (by kernel_rfl) (by kernel_rfl) (kill_go (mid := [Ty.sl tProp a_0, Ty.sl tProp b_1, .bad, .bad, .bad, (vI 0), .bad, .bad, .bad, .bad, .bad, .bad, .bad, .bad, .bad, .bad, .bad, .bad, .bad, .bad, .bad, .bad, .bad, .bad, .bad, .bad, .bad, .bad, .bad, .bad, .bad, .bad]) (by kernel_rfl) (mC (sl_scrub tProp _ _) (mC (sl_scrub tProp _ _) (mB (mB (mB (mC (by kernel_rfl) (mB (mB (mB (mB (mB (mB (mB (mB (mB (mB (mB (mB (mB (mB (mB (mB (mB (mB (mB (mB (mB (mB (mB (mB (mB (mB mN))))))))))))))))))))))))))))))))) (cut_go (mid := []) (by kernel_rfl) oN) ?_ ?_
    · rintro v2 _ y h
      unfold ref12_SameProps_l1 at h
      refine J_seq ?_
      refine J_seq ?_
      refine J_region ?_
      refine JS_seg 5 [Ty.sl tProp a_0, Ty.sl tProp b_1, .bad, .bad, .bad, (vI v2), .bad, .bad, .bad, .bad, .bad, (vI v2), Ty.sl tProp a_0, .sc (.int .i64 (a_0.length : Int)), .sc (.bool (decide (v2 < (a_0.length : Int)))), .sc (.bool (decide (v2 < (a_0.length : Int)))), .bad, .bad, .bad, .bad, .bad, .bad, .bad, .bad, .bad, .bad, .bad, .bad, .bad, .bad, .bad, .bad] [] (by kernel_rfl) ?_
      rcases bool_cases (decide (v2 < (a_0.length : Int))) with h3 | h3
      · rw [if_pos h3] at h
        refine JS_cast (tm' := [Ty.sl tProp a_0, Ty.sl tProp b_1, .bad, .bad, .bad, (vI v2), .bad, .bad, .bad, .bad, .bad, (vI v2), Ty.sl tProp a_0, .sc (.int .i64 (a_0.length : Int)), (vB true), (vB true), .bad, .bad, .bad, .bad, .bad, .bad, .bad, .bad, .bad, .bad, .bad, .bad, .bad, .bad, .bad, .bad]) (by rw [h3]) rfl ?_
        refine JS_end [Ty.sl tProp a_0, Ty.sl tProp b_1, .bad, .bad, .bad, (vI v2), .bad, .bad, .bad, .bad, .bad, (vI v2), Ty.sl tProp a_0, .sc (.int .i64 (a_0.length : Int)), (vB true), (vB true), (vI v2), Ty.sl tProp b_1, .sc (.int .i64 (b_1.length : Int)), .sc (.bool (decide (v2 < (b_1.length : Int)))), .sc (.bool (decide (v2 < (b_1.length : Int)))), .bad, .bad, .bad, .bad, .bad, .bad, .bad, .bad, .bad, .bad, .bad] [] (by kernel_rfl) ?_
        refine JK_sq ?_
        rcases bool_cases (decide (v2 < (b_1.length : Int))) with h4 | h4
        · rw [if_pos h4] at h
          refine J_condT (v := (decide (v2 < (b_1.length : Int)))) (by kernel_rfl) h4 ?_
          refine J_skip ?_
          refine JK_sq ?_
          refine J_seq ?_
          refine J_block ?_
          refine J_seq ?_
          refine J_draw ?_
          refine JD_seg [] [Ty.sl tProp a_0, Ty.sl tProp b_1, .bad, .bad, .bad, (vI v2), .bad, .bad, .bad, .bad, .bad, (vI v2), Ty.sl tProp a_0, .sc (.int .i64 (a_0.length : Int)), (vB true), (vB true), (vI v2), Ty.sl tProp b_1, .sc (.int .i64 (b_1.length : Int)), .sc (.bool (decide (v2 < (b_1.length : Int)))), .sc (.bool (decide (v2 < (b_1.length : Int)))), .bad, .bad, .bad, .bad, .bad, .bad, .bad, .bad, .bad, .bad, .bad] [] (by kernel_rfl) (by kernel_rfl) (by kernel_rfl) ?_
          refine JD_upd (c := .free) (fun s => some (Ty.sl tProp a_0, [])) (by kernel_rfl) rfl (by kernel_rfl) ?_
          refine JD_upd (c := .free) (fun s => some ((vI v2), [])) (by kernel_rfl) rfl (by kernel_rfl) ?_
          refine JD_seg [.free, .free] [Ty.sl tProp a_0, Ty.sl tProp b_1, .bad, .bad, .bad, (vI v2), .bad, .bad, .bad, .bad, .bad, (vI v2), Ty.sl tProp a_0, .sc (.int .i64 (a_0.length : Int)), (vB true), (vB true), (vI v2), Ty.sl tProp b_1, .sc (.int .i64 (b_1.length : Int)), .sc (.bool (decide (v2 < (b_1.length : Int)))), .sc (.bool (decide (v2 < (b_1.length : Int)))), .bad, .bad, Ty.sl tProp a_0, (vI v2), .bad, .bad, .bad, .bad, .bad, .bad, .bad] [] (by kernel_rfl) (by kernel_rfl) (by kernel_rfl) ?_
          obtain ⟨x5, h6, h⟩ := Option.bind_eq_some_iff.1 h
          refine JD_val (c := .reads) (fun s => aindexAddr E0.tb s 22 (Ty.sl tProp a_0) ((vI v2))) (by kernel_rfl) (sl_addr tProp tb_22 rfl tb_78 rfl h6) (by kernel_rfl) ?_
          refine JD_seg [.free, .free, .reads] [Ty.sl tProp a_0, Ty.sl tProp b_1, .bad, .bad, .bad, (vI v2), .bad, .bad, .bad, .bad, .bad, (vI v2), Ty.sl tProp a_0, .sc (.int .i64 (a_0.length : Int)), (vB true), (vB true), (vI v2), Ty.sl tProp b_1, .sc (.int .i64 (b_1.length : Int)), .sc (.bool (decide (v2 < (b_1.length : Int)))), .sc (.bool (decide (v2 < (b_1.length : Int)))), .bad, .bad, Ty.sl tProp a_0, (vI v2), .fp (List.flatMap (Ty.cells tProp) a_0) (v2.toNat * Ty.size tProp), .bad, .bad, .bad, .bad, .bad, .bad] [] (by kernel_rfl) (by kernel_rfl) (by kernel_rfl) ?_
          refine JD_val (c := .reads) (fun s => aload E0.tb s 78 (.fp (List.flatMap (Ty.cells tProp) a_0) (v2.toNat * Ty.size tProp))) (by kernel_rfl) (fp_loadN tProp (o := 0) (vs := (cProp x5)) tb_78 rfl h6 (by decide) (by rw [tProp_cells]; rfl)) (by kernel_rfl) ?_
          refine JD_upd (c := .free) (fun s => some (Ty.sl tProp b_1, [])) (by kernel_rfl) rfl (by kernel_rfl) ?_
          refine JD_upd (c := .free) (fun s => some ((vI v2), [])) (by kernel_rfl) rfl (by kernel_rfl) ?_
          refine JD_seg [.free, .free, .reads, .reads, .free, .free] [Ty.sl tProp a_0, Ty.sl tProp b_1, .bad, .bad, .bad, (vI v2), .bad, .bad, .bad, .bad, .bad, (vI v2), Ty.sl tProp a_0, .sc (.int .i64 (a_0.length : Int)), (vB true), (vB true), (vI v2), Ty.sl tProp b_1, .sc (.int .i64 (b_1.length : Int)), .sc (.bool (decide (v2 < (b_1.length : Int)))), .sc (.bool (decide (v2 < (b_1.length : Int)))), .bad, .bad, Ty.sl tProp a_0, (vI v2), .fp (List.flatMap (Ty.cells tProp) a_0) (v2.toNat * Ty.size tProp), .agg (cProp x5), Ty.sl tProp b_1, (vI v2), .bad, .bad, .bad] [] (by kernel_rfl) (by kernel_rfl) (by kernel_rfl) ?_
          obtain ⟨x7, h8, h⟩ := Option.bind_eq_some_iff.1 h
          refine JD_val (c := .reads) (fun s => aindexAddr E0.tb s 22 (Ty.sl tProp b_1) ((vI v2))) (by kernel_rfl) (sl_addr tProp tb_22 rfl tb_78 rfl h8) (by kernel_rfl) ?_
          refine JD_seg [.free, .free, .reads, .reads, .free, .free, .reads] [Ty.sl tProp a_0, Ty.sl tProp b_1, .bad, .bad, .bad, (vI v2), .bad, .bad, .bad, .bad, .bad, (vI v2), Ty.sl tProp a_0, .sc (.int .i64 (a_0.length : Int)), (vB true), (vB true), (vI v2), Ty.sl tProp b_1, .sc (.int .i64 (b_1.length : Int)), .sc (.bool (decide (v2 < (b_1.length : Int)))), .sc (.bool (decide (v2 < (b_1.length : Int)))), .bad, .bad, Ty.sl tProp a_0, (vI v2), .fp (List.flatMap (Ty.cells tProp) a_0) (v2.toNat * Ty.size tProp), .agg (cProp x5), Ty.sl tProp b_1, (vI v2), .fp (List.flatMap (Ty.cells tProp) b_1) (v2.toNat * Ty.size tProp), .bad, .bad] [] (by kernel_rfl) (by kernel_rfl) (by kernel_rfl) ?_
          refine JD_val (c := .reads) (fun s => aload E0.tb s 78 (.fp (List.flatMap (Ty.cells tProp) b_1) (v2.toNat * Ty.size tProp))) (by kernel_rfl) (fp_loadN tProp (o := 0) (vs := (cProp x7)) tb_78 rfl h8 (by decide) (by rw [tProp_cells]; rfl)) (by kernel_rfl) ?_
          refine JD_seg [.free, .free, .reads, .reads, .free, .free, .reads, .reads] [Ty.sl tProp a_0, Ty.sl tProp b_1, .bad, .bad, .bad, (vI v2), .bad, .bad, .bad, .bad, .bad, (vI v2), Ty.sl tProp a_0, .sc (.int .i64 (a_0.length : Int)), (vB true), (vB true), (vI v2), Ty.sl tProp b_1, .sc (.int .i64 (b_1.length : Int)), .sc (.bool (decide (v2 < (b_1.length : Int)))), .sc (.bool (decide (v2 < (b_1.length : Int)))), .bad, .bad, Ty.sl tProp a_0, (vI v2), .fp (List.flatMap (Ty.cells tProp) a_0) (v2.toNat * Ty.size tProp), .agg (cProp x5), Ty.sl tProp b_1, (vI v2), .fp (List.flatMap (Ty.cells tProp) b_1) (v2.toNat * Ty.size tProp), .agg (cProp x7), .bad] [] (by kernel_rfl) (by kernel_rfl) (by kernel_rfl) ?_
          refine JD_val (c := .reads) (fun s => abin E0.tb s .neq 78 (.agg (cProp x5)) (.agg (cProp x7))) (by kernel_rfl) (tProp_neq_78 _ x5 x7) (by kernel_rfl) ?_
          refine JD_seg [.free, .free, .reads, .reads, .free, .free, .reads, .reads, .reads] [Ty.sl tProp a_0, Ty.sl tProp b_1, .bad, .bad, .bad, (vI v2), .bad, .bad, .bad, .bad, .bad, (vI v2), Ty.sl tProp a_0, .sc (.int .i64 (a_0.length : Int)), (vB true), (vB true), (vI v2), Ty.sl tProp b_1, .sc (.int .i64 (b_1.length : Int)), .sc (.bool (decide (v2 < (b_1.length : Int)))), .sc (.bool (decide (v2 < (b_1.length : Int)))), .bad, .bad, Ty.sl tProp a_0, (vI v2), .fp (List.flatMap (Ty.cells tProp) a_0) (v2.toNat * Ty.size tProp), .agg (cProp x5), Ty.sl tProp b_1, (vI v2), .fp (List.flatMap (Ty.cells tProp) b_1) (v2.toNat * Ty.size tProp), .agg (cProp x7), .sc (.bool (!(x5 == x7)))] [] (by kernel_rfl) (by kernel_rfl) (by kernel_rfl) ?_
          refine JD_end (by kernel_rfl) (by kernel_rfl) ?_
          refine JK_sq ?_
          rcases bool_cases (!(x5 == x7)) with h9 | h9
          · rw [if_pos h9] at h
            refine J_condT (v := (!(x5 == x7))) (by kernel_rfl) h9 ?_
            refine J_seq ?_
            refine J_region ?_
            refine JS_end [Ty.sl tProp a_0, Ty.sl tProp b_1, .bad, .bad, (vB false), (vI v2), .bad, .bad, .bad, .bad, .bad, (vI v2), Ty.sl tProp a_0, .sc (.int .i64 (a_0.length : Int)), (vB true), (vB true), (vI v2), Ty.sl tProp b_1, .sc (.int .i64 (b_1.length : Int)), .sc (.bool (decide (v2 < (b_1.length : Int)))), .sc (.bool (decide (v2 < (b_1.length : Int)))), .bad, .bad, Ty.sl tProp a_0, (vI v2), .fp (List.flatMap (Ty.cells tProp) a_0) (v2.toNat * Ty.size tProp), .agg (cProp x5), Ty.sl tProp b_1, (vI v2), .fp (List.flatMap (Ty.cells tProp) b_1) (v2.toNat * Ty.size tProp), .agg (cProp x7), .sc (.bool (!(x5 == x7)))] [] (by kernel_rfl) ?_
            refine JK_sq ?_
            refine J_ret ?_
            refine JK_bl_ret ?_
            refine JK_sq_ret ?_
            refine JK_nil ?_
            obtain rfl := Option.some.inj h
            exact turn_ret (tm' := [.bad, .bad, .bad, .bad, (vB false), .bad, .bad, .bad, .bad, .bad, .bad, .bad, .bad, .bad, .bad, .bad, .bad, .bad, .bad, .bad, .bad, .bad, .bad, .bad, .bad, .bad, .bad, .bad, .bad, .bad, .bad, .bad]) (st' := []) () (kill_go (mid := [.bad, .bad, .bad, .bad, (vB false), .bad, .bad, .bad, .bad, .bad, .bad, .bad, .bad, .bad, .bad, .bad, .bad, .bad, .bad, .bad, .bad, .bad, .bad, .bad, .bad, .bad, .bad, .bad, .bad, .bad, .bad, .bad]) (by kernel_rfl) (mB (mB (mB (mB (mC (by kernel_rfl) (mB (mB (mB (mB (mB (mB (mB (mB (mB (mB (mB (mB (mB (mB (mB (mB (mB (mB (mB (mB (mB (mB (mB (mB (mB (mB (mB mN))))))))))))))))))))))))))))))))) (cut_go (mid := []) (by kernel_rfl) oN) (by kernel_rfl)
          · rw [if_neg (ne_true h9)] at h
            refine J_condF (v := (!(x5 == x7))) (by kernel_rfl) h9 ?_
            refine J_skip ?_
            refine JK_bl ?_
            refine JK_sq ?_
            refine J_region ?_
            refine JS_end [Ty.sl tProp a_0, Ty.sl tProp b_1, .bad, .bad, .bad, .sc (.int .i64 (IntKind.wrap .i64 (v2 + 1))), .bad, .bad, .bad, .bad, .bad, (vI v2), Ty.sl tProp a_0, .sc (.int .i64 (a_0.length : Int)), (vB true), (vB true), (vI v2), Ty.sl tProp b_1, .sc (.int .i64 (b_1.length : Int)), .sc (.bool (decide (v2 < (b_1.length : Int)))), .sc (.bool (decide (v2 < (b_1.length : Int)))), (vI v2), .sc (.int .i64 (IntKind.wrap .i64 (v2 + 1))), Ty.sl tProp a_0, (vI v2), .fp (List.flatMap (Ty.cells tProp) a_0) (v2.toNat * Ty.size tProp), .agg (cProp x5), Ty.sl tProp b_1, (vI v2), .fp (List.flatMap (Ty.cells tProp) b_1) (v2.toNat * Ty.size tProp), .agg (cProp x7), .sc (.bool (!(x5 == x7)))] [] (by kernel_rfl) ?_
            refine JK_nil ?_
            obtain rfl := Option.some.inj h
            exact turn_next () (kill_go (mid := [Ty.sl tProp a_0, Ty.sl tProp b_1, .bad, .bad, .bad, .sc (.int .i64 (IntKind.wrap .i64 (v2 + 1))), .bad, .bad, .bad, .bad, .bad, .bad, .bad, .bad, .bad, .bad, .bad, .bad, .bad, .bad, .bad, .bad, .bad, .bad, .bad, .bad, .bad, .bad, .bad, .bad, .bad, .bad]) (by kernel_rfl) (mC (sl_scrub tProp _ _) (mC (sl_scrub tProp _ _) (mB (mB (mB (mC (by kernel_rfl) (mB (mB (mB (mB (mB (mB (mB (mB (mB (mB (mB (mB (mB (mB (mB (mB (mB (mB (mB (mB (mB (mB (mB (mB (mB (mB mN))))))))))))))))))))))))))))))))) (cut_go (mid := []) (by kernel_rfl) oN)
        · rw [if_neg (ne_true h4)] at h
          refine J_condF (v := (decide (v2 < (b_1.length : Int)))) (by kernel_rfl) h4 ?_
          refine J_exit ?_
          refine JK_sq_exit ?_
          refine JK_nil ?_
          obtain rfl := Option.some.inj h
          exact turn_exit (tm' := [.bad, .bad, .bad, .bad, .bad, .bad, .bad, .bad, .bad, .bad, .bad, .bad, .bad, .bad, .bad, .bad, .bad, .bad, .bad, .bad, .bad, .bad, .bad, .bad, .bad, .bad, .bad, .bad, .bad, .bad, .bad, .bad]) (st' := []) () (kill_go (mid := [.bad, .bad, .bad, .bad, .bad, .bad, .bad, .bad, .bad, .bad, .bad, .bad, .bad, .bad, .bad, .bad, .bad, .bad, .bad, .bad, .bad, .bad, .bad, .bad, .bad, .bad, .bad, .bad, .bad, .bad, .bad, .bad]) (by kernel_rfl) (mB (mB (mB (mB (mB (mB (mB (mB (mB (mB (mB (mB (mB (mB (mB (mB (mB (mB (mB (mB (mB (mB (mB (mB (mB (mB (mB (mB (mB (mB (mB (mB mN))))))))))))))))))))))))))))))))) (cut_go (mid := []) (by kernel_rfl) oN) (by kernel_rfl)
      · rw [if_neg (ne_true h3)] at h
        refine JS_cast (tm' := [Ty.sl tProp a_0, Ty.sl tProp b_1, .bad, .bad, .bad, (vI v2), .bad, .bad, .bad, .bad, .bad, (vI v2), Ty.sl tProp a_0, .sc (.int .i64 (a_0.length : Int)), (vB false), (vB false), .bad, .bad, .bad, .bad, .bad, .bad, .bad, .bad, .bad, .bad, .bad, .bad, .bad, .bad, .bad, .bad]) (by rw [h3]) rfl ?_
        refine JS_end [Ty.sl tProp a_0, Ty.sl tProp b_1, .bad, .bad, .bad, (vI v2), .bad, .bad, .bad, .bad, .bad, (vI v2), Ty.sl tProp a_0, .sc (.int .i64 (a_0.length : Int)), (vB false), (vB false), .tup [], .tup [], .tup [], .tup [], (vB false), .bad, .bad, .bad, .bad, .bad, .bad, .bad, .bad, .bad, .bad, .bad] [] (by kernel_rfl) ?_
        refine JK_sq ?_
        refine J_condF (v := false) (by kernel_rfl) rfl ?_
        refine J_exit ?_
        refine JK_sq_exit ?_
        refine JK_nil ?_
        obtain rfl := Option.some.inj h
        exact turn_exit (tm' := [.bad, .bad, .bad, .bad, .bad, .bad, .bad, .bad, .bad, .bad, .bad, .bad, .bad, .bad, .bad, .bad, .bad, .bad, .bad, .bad, .bad, .bad, .bad, .bad, .bad, .bad, .bad, .bad, .bad, .bad, .bad, .bad]) (st' := []) () (kill_go (mid := [.bad, .bad, .bad, .bad, .bad, .bad, .bad, .bad, .bad, .bad, .bad, .bad, .bad, .bad, .bad, .bad, .bad, .bad, .bad, .bad, .bad, .bad, .bad, .bad, .bad, .bad, .bad, .bad, .bad, .bad, .bad, .bad]) (by kernel_rfl) (mB (mB (mB (mB (mB (mB (mB (mB (mB (mB (mB (mB (mB (mB (mB (mB (mB (mB (mB (mB (mB (mB (mB (mB (mB (mB (mB (mB (mB (mB (mB (mB mN))))))))))))))))))))))))))))))))) (cut_go (mid := []) (by kernel_rfl) oN) (by kernel_rfl)
    · intro g_
      rcases r10 with r12 | r13
      · dsimp only at h
        refine (show JK _ _ _ _ (.exit 0, [.bad, .bad, .bad, .bad, .bad, .bad, .bad, .bad, .bad, .bad, .bad, .bad, .bad, .bad, .bad, .bad, .bad, .bad, .bad, .bad, .bad, .bad, .bad, .bad, .bad, .bad, .bad, .bad, .bad, .bad, .bad, .bad], []) from ?_)
        refine JK_bl_hit ?_
        refine JK_sq ?_
        refine J_seq ?_
        refine J_region ?_
        refine JS_end [.bad, .bad, .bad, .bad, (vB true), .bad, .bad, .bad, .bad, .bad, .bad, .bad, .bad, .bad, .bad, .bad, .bad, .bad, .bad, .bad, .bad, .bad, .bad, .bad, .bad, .bad, .bad, .bad, .bad, .bad, .bad, .bad] [] (by kernel_rfl) ?_
        refine JK_sq ?_
        refine J_ret ?_
        refine JK_nil ?_
        obtain rfl := Option.some.inj h
        exact ret_A (r := (vB true)) (r' := (vB true)) (.inl rfl) (by kernel_rfl) (by kernel_rfl) rfl ⟨by kernel_rfl, rfl⟩
      · dsimp only at h
        refine (show JK _ _ _ _ (.ret, [.bad, .bad, .bad, .bad, (vB false), .bad, .bad, .bad, .bad, .bad, .bad, .bad, .bad, .bad, .bad, .bad, .bad, .bad, .bad, .bad, .bad, .bad, .bad, .bad, .bad, .bad, .bad, .bad, .bad, .bad, .bad, .bad], []) from ?_)
        refine JK_bl_ret ?_
        refine JK_sq_ret ?_
        refine JK_nil ?_
        obtain rfl := Option.some.inj h
        exact ret_A (r := (vB false)) (r' := (vB false)) (.inl rfl) (by kernel_rfl) (by kernel_rfl) rfl ⟨by kernel_rfl, rfl⟩

end Go.Proofs.YticlelmlnadclaaDoor
