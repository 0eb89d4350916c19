/-
  What the evaluator's calls come to. Printed by program. No condition.
-/
import Derived.Test.YticlelmlnadclaaDoorKQ
import Derived.Test.YticlelmlnadclaaDoorKS1
import Derived.Test.YticlelmlnadclaaDoorKS2
set_option linter.unusedVariables false
set_option linter.unusedSimpArgs false
set_option linter.unusedSectionVars false
set_option linter.unnecessarySimpa false
set_option linter.deprecated false
namespace Go.Proofs.YticlelmlnadclaaDoor
open Go.P
open Go Go.Abs

set_option maxRecDepth 100000
set_option maxHeartbeats 4000000

theorem num_FromBig_C (s_0 : Str) (r : Int × Bool) (st : Store) (h : num_FromBig s_0 = some r) : fcall E0 96 [strV s_0] st = some (.tup [.sc (.int .i64 r.1), .sc (.bool r.2)], st) := by
  unfold num_FromBig at h
  refine fn_alone (fn := Tryd.f96) (av' := [strV s_0, .bad, .bad, .bad, .bad, .bad, .bad, .bad, .bad, .bad, .bad, .bad, .bad, .bad, .bad, .bad, .bad, .bad, .bad, .bad, .bad, .bad, .bad, .bad, .bad]) rfl fn_96 rfl (pC rfl pN) rfl rfl rfl (has_go (as1 := [strV s_0]) (lC (by kernel_rfl) lN) (by kernel_rfl)) ?_
  refine J_seq ?_
  refine J_region ?_
  refine JS_end [strV s_0, .bad, (vI 0), (vB false), .bad, .bad, .bad, .bad, .bad, .bad, .bad, .bad, .bad, .bad, .bad, .bad, .bad, .bad, .bad, .bad, .bad, .bad, .bad, .bad, .bad] [] (by kernel_rfl) ?_
  refine JK_sq ?_
  refine J_seq ?_
  refine J_seq ?_
  refine J_region ?_
  refine JS_end [strV s_0, .bad, (vI 0), (vB false), .bad, .bad, .bad, strV s_0, .sc (.int .i64 (s_0.length : Int)), .sc (.bool (decide ((s_0.length : Int) < 4))), .bad, .bad, .bad, .bad, .bad, .bad, .bad, .bad, .bad, .bad, .bad, .bad, .bad, .bad, .bad] [] (by kernel_rfl) ?_
  refine JK_sq ?_
  rcases bool_cases (decide ((s_0.length : Int) < 4)) with h1 | h1
  · rw [if_pos h1] at h
    refine J_condT (v := (decide ((s_0.length : Int) < 4))) (by kernel_rfl) h1 ?_
    refine J_seq ?_
    refine J_region ?_
    refine JS_end [strV s_0, .bad, (vI 0), (vB false), .bad, .bad, .bad, strV s_0, .sc (.int .i64 (s_0.length : Int)), .sc (.bool (decide ((s_0.length : Int) < 4))), .bad, .bad, .bad, .bad, .bad, .bad, .bad, .bad, .bad, .bad, .bad, .bad, .bad, .bad, .bad] [] (by kernel_rfl) ?_
    refine JK_sq ?_
    refine J_ret ?_
    refine JK_sq_ret ?_
    refine JK_nil ?_
    obtain rfl := Option.some.inj h
    exact ret_A (r := .tup [(vI 0), (vB false)]) (r' := .tup [(vI 0), (vB false)]) (.inl rfl) (by kernel_rfl) (fTup (fC (by kernel_rfl) (fC (by kernel_rfl) fN))) (pTup (pC rfl (pC rfl pN))) ⟨by kernel_rfl, rfl⟩
  · rw [if_neg (ne_true h1)] at h
    refine J_condF (v := (decide ((s_0.length : Int) < 4))) (by kernel_rfl) h1 ?_
    refine J_skip ?_
    refine JK_sq ?_
    refine J_seq ?_
    refine J_region ?_
    refine JS_end [strV s_0, .bad, (vI 0), (vB false), (vI 0), .bad, .bad, strV s_0, .sc (.int .i64 (s_0.length : Int)), .sc (.bool (decide ((s_0.length : Int) < 4))), .bad, .bad, .bad, .bad, .bad, .bad, .bad, .bad, .bad, .bad, .bad, .bad, .bad, .bad, .bad] [] (by kernel_rfl) ?_
    refine JK_sq ?_
    refine J_seq ?_
    refine J_seq ?_
    refine J_region ?_
    refine JS_seg 1 [strV s_0, .bad, (vI 0), (vB false), (vI 0), .bad, .bad, strV s_0, .sc (.int .i64 (s_0.length : Int)), .sc (.bool (decide ((s_0.length : Int) < 4))), strV s_0, .bad, .bad, .bad, .bad, .bad, .bad, .bad, .bad, .bad, .bad, .bad, .bad, .bad, .bad] [] (by kernel_rfl) ?_
    obtain ⟨s2, h3, h⟩ := Option.bind_eq_some_iff.1 h
    refine JS_val (fun s => aslice E0.tb s 9 (strV s_0) none (some ((vI 4)))) (by kernel_rfl) (str_sub tb_9 rfl loV_none hiV_some h3) ?_
    refine JS_seg 2 [strV s_0, .bad, (vI 0), (vB false), (vI 0), .bad, .bad, strV s_0, .sc (.int .i64 (s_0.length : Int)), .sc (.bool (decide ((s_0.length : Int) < 4))), strV s_0, strV s2, .bad, .bad, .bad, .bad, .bad, .bad, .bad, .bad, .bad, .bad, .bad, .bad, .bad] [] (by kernel_rfl) ?_
    obtain ⟨l4, h5, h⟩ := Option.bind_eq_some_iff.1 h
    refine JS_val (fun s => aconvert E0.tb 9 113 (strV s2)) (by kernel_rfl) (to_bytes tb_9 rfl tb_113 rfl tb_5 rfl h5) ?_
    refine JS_end [strV s_0, .bad, (vI 0), (vB false), (vI 0), .bad, .bad, strV s_0, .sc (.int .i64 (s_0.length : Int)), .sc (.bool (decide ((s_0.length : Int) < 4))), strV s_0, strV s2, Ty.sl (tI .u8) l4, .sc (.int .i64 (l4.length : Int)), (vI 0), .bad, .bad, .bad, .bad, .bad, .bad, .bad, .bad, .bad, .bad] [] (by kernel_rfl) ?_
    refine JK_sq ?_
    refine J_block ?_
    obtain ⟨r11, h12, h⟩ := Option.bind_eq_some_iff.1 h
    refine J_loop (γ := Unit) h12 0 [strV s_0, .bad, (vI 0), (vB false), (vI 0), .bad, .bad, strV s_0, .sc (.int .i64 (s_0.length : Int)), .sc (.bool (decide ((s_0.length : Int) < 4))), strV s_0, strV s2, Ty.sl (tI .u8) l4, .sc (.int .i64 (l4.length : Int)), (vI 0), .bad, .bad, .bad, .bad, .bad, .bad, .bad, .bad, .bad, .bad] [] (fun s g => [.bad, .bad, .bad, .bad, .sc (.int .i64 s.1), .bad, .bad, .bad, .bad, .bad, .bad, .bad, Ty.sl (tI .u8) l4, .sc (.int .i64 (l4.length : Int)), .sc (.int .i64 s.2), .bad, .bad, .bad, .bad, .bad, .bad, .bad, .bad, .bad, .bad]) (fun s g => []) (fun r g => (.exit 0, [.bad, .bad, .bad, .bad, (vI r), .bad, .bad, .bad, .bad, .bad, .bad, .bad, .bad, .bad, .bad, .bad, .bad, .bad, .bad, .bad, .bad, .bad, .bad, .bad, .bad], [])) () (by kernel_rfl) (by kernel_rfl) (kill_go (mid := [.bad, .bad, .bad, .bad, (vI 0), .bad, .bad, .bad, .bad, .bad, .bad, .bad, Ty.sl (tI .u8) l4, .sc (.int .i64 (l4.length : Int)), (vI 0), .bad, .bad, .bad, .bad, .bad, .bad, .bad, .bad, .bad, .bad]) (by kernel_rfl) (mB (mB (mB (mB (mC (by kernel_rfl) (mB (mB (mB (mB (mB (mB (mB (mC (sl_scrub (tI .u8) _ _) (mC (by kernel_rfl) (mC (by kernel_rfl) (mB (mB (mB (mB (mB (mB (mB (mB (mB (mB mN)))))))))))))))))))))))))) (cut_go (mid := []) (by kernel_rfl) oN) ?_ ?_
    · rintro ⟨v6, v7⟩ _ y h
      unfold num_FromBig_l1 at h
      dsimp only at h
      refine J_seq ?_
      refine J_region ?_
      refine JS_end [.bad, .bad, .bad, .bad, (vI v6), .bad, .bad, .bad, .bad, .bad, .bad, .bad, Ty.sl (tI .u8) l4, .sc (.int .i64 (l4.length : Int)), (vI v7), .sc (.bool (decide (v7 < (l4.length : Int)))), .bad, .bad, .bad, .bad, .bad, .bad, .bad, .bad, .bad] [] (by kernel_rfl) ?_
      refine JK_sq ?_
      refine J_seq ?_
      rcases bool_cases (decide (v7 < (l4.length : Int))) with h8 | h8
      · rw [if_pos h8] at h
        refine J_condT (v := (decide (v7 < (l4.length : Int)))) (by kernel_rfl) h8 ?_
        refine J_skip ?_
        refine JK_sq ?_
        refine J_seq ?_
        refine J_block ?_
        refine J_seq ?_
        refine J_region ?_
        refine JS_seg 0 [.bad, .bad, .bad, .bad, (vI v6), .bad, .bad, .bad, .bad, .bad, .bad, .bad, Ty.sl (tI .u8) l4, .sc (.int .i64 (l4.length : Int)), (vI v7), .sc (.bool (decide (v7 < (l4.length : Int)))), .bad, .bad, .bad, .bad, .bad, .bad, .bad, .bad, .bad] [] (by kernel_rfl) ?_
        obtain ⟨x9, h10, h⟩ := Option.bind_eq_some_iff.1 h
        refine JS_val (fun s => aindexAddr E0.tb s 113 (Ty.sl (tI .u8) l4) ((vI v7))) (by kernel_rfl) (sl_addr (tI .u8) tb_113 rfl tb_5 rfl h10) ?_
        refine JS_seg 1 [.bad, .bad, .bad, .bad, (vI v6), .bad, .bad, .bad, .bad, .bad, .bad, .bad, Ty.sl (tI .u8) l4, .sc (.int .i64 (l4.length : Int)), (vI v7), .sc (.bool (decide (v7 < (l4.length : Int)))), .fp (List.flatMap (Ty.cells (tI .u8)) l4) (v7.toNat * Ty.size (tI .u8)), .bad, .bad, .bad, .bad, .bad, .bad, .bad, .bad] [] (by kernel_rfl) ?_
        refine JS_val (fun s => aload E0.tb s 5 (.fp (List.flatMap (Ty.cells (tI .u8)) l4) (v7.toNat * Ty.size (tI .u8)))) (by kernel_rfl) (fp_load1 (tI .u8) (o := 0) tb_5 rfl h10 (rfl)) ?_
        refine JS_end [.bad, .bad, .bad, .bad, (vI v6), .bad, .sc (.int .u8 x9), .bad, .bad, .bad, .bad, .bad, Ty.sl (tI .u8) l4, .sc (.int .i64 (l4.length : Int)), (vI v7), .sc (.bool (decide (v7 < (l4.length : Int)))), .fp (List.flatMap (Ty.cells (tI .u8)) l4) (v7.toNat * Ty.size (tI .u8)), .sc (.int .u8 x9), .bad, .bad, .bad, .bad, .bad, .bad, .bad] [] (by kernel_rfl) ?_
        refine JK_sq ?_
        refine J_region ?_
        refine JS_end [.bad, .bad, .bad, .bad, .sc (.int .i64 (IntKind.wrap .i64 (BitVec.ofInt 64 (IntKind.wrap .i64 (v6 * 2 ^ 8)) ||| BitVec.ofInt 64 (IntKind.wrap .i64 x9)).toNat)), .bad, .sc (.int .u8 x9), .bad, .bad, .bad, .bad, .bad, Ty.sl (tI .u8) l4, .sc (.int .i64 (l4.length : Int)), (vI v7), .sc (.bool (decide (v7 < (l4.length : Int)))), .fp (List.flatMap (Ty.cells (tI .u8)) l4) (v7.toNat * Ty.size (tI .u8)), .sc (.int .u8 x9), (vI v6), .sc (.int .i64 (IntKind.wrap .i64 (v6 * 2 ^ 8))), .sc (.int .u8 x9), .sc (.int .i64 (IntKind.wrap .i64 x9)), .sc (.int .i64 (IntKind.wrap .i64 (BitVec.ofInt 64 (IntKind.wrap .i64 (v6 * 2 ^ 8)) ||| BitVec.ofInt 64 (IntKind.wrap .i64 x9)).toNat)), .bad, .bad] [] (by kernel_rfl) ?_
        refine JK_bl ?_
        refine JK_sq ?_
        refine J_region ?_
        refine JS_end [.bad, .bad, .bad, .bad, .sc (.int .i64 (IntKind.wrap .i64 (BitVec.ofInt 64 (IntKind.wrap .i64 (v6 * 2 ^ 8)) ||| BitVec.ofInt 64 (IntKind.wrap .i64 x9)).toNat)), .bad, .sc (.int .u8 x9), .bad, .bad, .bad, .bad, .bad, Ty.sl (tI .u8) l4, .sc (.int .i64 (l4.length : Int)), .sc (.int .i64 (IntKind.wrap .i64 (v7 + 1))), .sc (.bool (decide (v7 < (l4.length : Int)))), .fp (List.flatMap (Ty.cells (tI .u8)) l4) (v7.toNat * Ty.size (tI .u8)), .sc (.int .u8 x9), (vI v6), .sc (.int .i64 (IntKind.wrap .i64 (v6 * 2 ^ 8))), .sc (.int .u8 x9), .sc (.int .i64 (IntKind.wrap .i64 x9)), .sc (.int .i64 (IntKind.wrap .i64 (BitVec.ofInt 64 (IntKind.wrap .i64 (v6 * 2 ^ 8)) ||| BitVec.ofInt 64 (IntKind.wrap .i64 x9)).toNat)), .sc (.int .i64 (IntKind.wrap .i64 (v7 + 1))), .bad] [] (by kernel_rfl) ?_
        refine JK_nil ?_
        obtain rfl := Option.some.inj h
        exact turn_next () (kill_go (mid := [.bad, .bad, .bad, .bad, .sc (.int .i64 (IntKind.wrap .i64 (BitVec.ofInt 64 (IntKind.wrap .i64 (v6 * 2 ^ 8)) ||| BitVec.ofInt 64 (IntKind.wrap .i64 x9)).toNat)), .bad, .bad, .bad, .bad, .bad, .bad, .bad, Ty.sl (tI .u8) l4, .sc (.int .i64 (l4.length : Int)), .sc (.int .i64 (IntKind.wrap .i64 (v7 + 1))), .bad, .bad, .bad, .bad, .bad, .bad, .bad, .bad, .bad, .bad]) (by kernel_rfl) (mB (mB (mB (mB (mC (by kernel_rfl) (mB (mB (mB (mB (mB (mB (mB (mC (sl_scrub (tI .u8) _ _) (mC (by kernel_rfl) (mC (by kernel_rfl) (mB (mB (mB (mB (mB (mB (mB (mB (mB (mB mN)))))))))))))))))))))))))) (cut_go (mid := []) (by kernel_rfl) oN)
      · rw [if_neg (ne_true h8)] at h
        refine J_condF (v := (decide (v7 < (l4.length : Int)))) (by kernel_rfl) h8 ?_
        refine J_exit ?_
        refine JK_sq_exit ?_
        refine JK_nil ?_
        obtain rfl := Option.some.inj h
        exact turn_exit (tm' := [.bad, .bad, .bad, .bad, (vI v6), .bad, .bad, .bad, .bad, .bad, .bad, .bad, .bad, .bad, .bad, .bad, .bad, .bad, .bad, .bad, .bad, .bad, .bad, .bad, .bad]) (st' := []) () (kill_go (mid := [.bad, .bad, .bad, .bad, (vI v6), .bad, .bad, .bad, .bad, .bad, .bad, .bad, .bad, .bad, .bad, .bad, .bad, .bad, .bad, .bad, .bad, .bad, .bad, .bad, .bad]) (by kernel_rfl) (mB (mB (mB (mB (mC (by kernel_rfl) (mB (mB (mB (mB (mB (mB (mB (mB (mB (mB (mB (mB (mB (mB (mB (mB (mB (mB (mB (mB mN)))))))))))))))))))))))))) (cut_go (mid := []) (by kernel_rfl) oN) (by kernel_rfl)
    · intro g_
      refine (show JK _ _ _ _ (.exit 0, [.bad, .bad, .bad, .bad, (vI r11), .bad, .bad, .bad, .bad, .bad, .bad, .bad, .bad, .bad, .bad, .bad, .bad, .bad, .bad, .bad, .bad, .bad, .bad, .bad, .bad], []) from ?_)
      refine JK_bl_hit ?_
      refine JK_sq ?_
      refine J_seq ?_
      refine J_region ?_
      refine JS_end [.bad, .bad, (vI r11), (vB true), (vI r11), .bad, .bad, .bad, .bad, .bad, .bad, .bad, .bad, .bad, .bad, .bad, .bad, .bad, .bad, .bad, .bad, .bad, .bad, .bad, (vI r11)] [] (by kernel_rfl) ?_
      refine JK_sq ?_
      refine J_ret ?_
      refine JK_nil ?_
      obtain rfl := Option.some.inj h
      exact ret_A (r := .tup [(vI r11), (vB true)]) (r' := .tup [(vI r11), (vB true)]) (.inl rfl) (by kernel_rfl) (fTup (fC (by kernel_rfl) (fC (by kernel_rfl) fN))) (pTup (pC rfl (pC rfl pN))) ⟨by kernel_rfl, rfl⟩

theorem value_AsNumber_C (v_0 : Str) (r : Int × Bool) (st : Store) (h : value_AsNumber v_0 = some r) : fcall E0 58 [strV v_0] st = some (.tup [.sc (.int .i64 r.1), .sc (.bool r.2)], st) := by
  unfold value_AsNumber at h
  refine fn_alone (fn := Tryd.f58) (av' := [strV v_0, .bad, .bad, .bad, .bad, .bad, .bad, .bad, .bad, .bad, .bad]) rfl fn_58 rfl (pC rfl pN) rfl rfl rfl (has_go (as1 := [strV v_0]) (lC (by kernel_rfl) lN) (by kernel_rfl)) ?_
  refine J_seq ?_
  refine J_region ?_
  refine JS_end [strV v_0, .bad, (vI 0), (vB false), .bad, .bad, .bad, .bad, .bad, .bad, .bad] [] (by kernel_rfl) ?_
  refine JK_sq ?_
  refine J_seq ?_
  refine J_seq ?_
  refine J_region ?_
  refine JS_end [strV v_0, .bad, (vI 0), (vB false), strV v_0, .sc (.int .i64 (v_0.length : Int)), .sc (.bool ((v_0.length : Int) != 4)), .bad, .bad, .bad, .bad] [] (by kernel_rfl) ?_
  refine JK_sq ?_
  rcases bool_cases ((v_0.length : Int) != 4) with h1 | h1
  · rw [if_pos h1] at h
    refine J_condT (v := ((v_0.length : Int) != 4)) (by kernel_rfl) h1 ?_
    refine J_seq ?_
    refine J_region ?_
    refine JS_end [strV v_0, .bad, (vI 0), (vB false), strV v_0, .sc (.int .i64 (v_0.length : Int)), .sc (.bool ((v_0.length : Int) != 4)), .bad, .bad, .bad, .bad] [] (by kernel_rfl) ?_
    refine JK_sq ?_
    refine J_ret ?_
    refine JK_sq_ret ?_
    refine JK_nil ?_
    obtain rfl := Option.some.inj h
    exact ret_A (r := .tup [(vI 0), (vB false)]) (r' := .tup [(vI 0), (vB false)]) (.inl rfl) (by kernel_rfl) (fTup (fC (by kernel_rfl) (fC (by kernel_rfl) fN))) (pTup (pC rfl (pC rfl pN))) ⟨by kernel_rfl, rfl⟩
  · rw [if_neg (ne_true h1)] at h
    refine J_condF (v := ((v_0.length : Int) != 4)) (by kernel_rfl) h1 ?_
    refine J_skip ?_
    refine JK_sq ?_
    refine J_seq ?_
    refine J_region ?_
    refine JS_seg 1 [strV v_0, .bad, (vI 0), (vB false), strV v_0, .sc (.int .i64 (v_0.length : Int)), .sc (.bool ((v_0.length : Int) != 4)), strV v_0, .bad, .bad, .bad] [] (by kernel_rfl) ?_
    obtain ⟨r2, h3, h⟩ := Option.bind_eq_some_iff.1 h
    refine JS_upd (fun s => fcall E0 96 [strV v_0] s) (by kernel_rfl) (num_FromBig_C v_0 _ _ h3) ?_
    refine JS_end [strV v_0, .bad, .sc (.int .i64 r2.1), .sc (.bool r2.2), strV v_0, .sc (.int .i64 (v_0.length : Int)), .sc (.bool ((v_0.length : Int) != 4)), strV v_0, .tup [.sc (.int .i64 r2.1), .sc (.bool r2.2)], .sc (.int .i64 r2.1), .sc (.bool r2.2)] [] (by kernel_rfl) ?_
    refine JK_sq ?_
    refine J_ret ?_
    refine JK_nil ?_
    obtain rfl := Option.some.inj h
    exact ret_A (r := .tup [.sc (.int .i64 r2.1), .sc (.bool r2.2)]) (r' := .tup [.sc (.int .i64 r2.1), .sc (.bool r2.2)]) (.inl rfl) (by kernel_rfl) (fTup (fC (by kernel_rfl) (fC (by kernel_rfl) fN))) (pTup (pC rfl (pC rfl pN))) ⟨by kernel_rfl, rfl⟩

theorem path_Number_C (n_0 : GNode) (path_1 : Str) (name_2 : Str) (r : Int × Bool) (st : Store) (h : path_Number n_0 path_1 name_2 = some r) : fcall E0 20 [.agg (cNode n_0), strV path_1, strV name_2] st = some (.tup [.sc (.int .i64 r.1), .sc (.bool r.2)], st) := by
  unfold path_Number at h
  refine fn_alone (fn := Tryd.f20) (av' := [.agg (cNode n_0), strV path_1, strV name_2, .bad, .bad, .bad, .bad, .bad, .bad, .bad, .bad, .bad, .bad, .bad, .bad, .bad, .bad, .bad, .bad, .bad, .bad, .bad, .bad, .bad, .bad, .bad, .bad, .bad]) rfl fn_20 rfl (pC (pAgg (pC rfl (pC (sl_pure tProp _) (pC (sl_pure tNode _) pN)))) (pC rfl (pC rfl pN))) rfl rfl rfl (has_go (as1 := [.agg (cNode n_0), strV path_1, strV name_2]) (lC (sAgg (lC (by kernel_rfl) (lC (sl_scrub tProp _ _) (lC (sl_scrub tNode _ _) lN)))) (lC (by kernel_rfl) (lC (by kernel_rfl) lN))) (by kernel_rfl)) ?_
  refine J_seq ?_
  refine J_region ?_
  refine JS_end [.agg (cNode n_0), strV path_1, strV name_2, .ref 0 0 0, .bad, .bad, (vI 0), (vB false), .bad, .bad, .bad, .bad, .bad, .bad, .bad, .bad, .bad, .bad, .bad, .bad, .bad, .bad, .bad, .bad, .bad, .bad, .bad, .bad] [.box 25 (cNode n_0)] (by kernel_rfl) ?_
  refine JK_sq ?_
  refine J_seq ?_
  refine J_region ?_
  refine JS_seg 2 [.agg (cNode n_0), strV path_1, strV name_2, .ref 0 0 0, .bad, .bad, (vI 0), (vB false), .bad, .bad, .bad, .bad, .bad, .agg (cNode n_0), strV path_1, .bad, .bad, .bad, .bad, .bad, .bad, .bad, .bad, .bad, .bad, .bad, .bad, .bad] [.box 25 (cNode n_0)] (by kernel_rfl) ?_
  obtain ⟨r1, h2, h⟩ := Option.bind_eq_some_iff.1 h
  refine JS_upd (fun s => fcall E0 11 [.agg (cNode n_0), strV path_1] s) (by kernel_rfl) (path_Find_C n_0 path_1 _ _ h2) ?_
  refine JS_end [.agg (cNode n_0), strV path_1, strV name_2, .ref 0 0 0, .bad, .bad, (vI 0), (vB false), .ref 1 0 0, .sc (.bool r1.2), .bad, .bad, .tup [.agg (cNode r1.1), .sc (.bool r1.2)], .agg (cNode n_0), strV path_1, .tup [.agg (cNode r1.1), .sc (.bool r1.2)], .agg (cNode r1.1), .sc (.bool r1.2), .bad, .bad, .bad, .bad, .bad, .bad, .bad, .bad, .bad, .bad] [.box 25 (cNode n_0), .box 25 (cNode r1.1)] (by kernel_rfl) ?_
  refine JK_sq ?_
  refine J_seq ?_
  refine J_region ?_
  refine JS_seg 2 [.agg (cNode n_0), strV path_1, strV name_2, .ref 0 0 0, .bad, .bad, (vI 0), (vB false), .ref 1 0 0, .sc (.bool r1.2), .bad, .bad, .tup [.agg (cNode r1.1), .sc (.bool r1.2)], .agg (cNode n_0), strV path_1, .tup [.agg (cNode r1.1), .sc (.bool r1.2)], .agg (cNode r1.1), .sc (.bool r1.2), .bad, .agg (cNode r1.1), strV name_2, .bad, .bad, .bad, .bad, .bad, .bad, .bad] [.box 25 (cNode n_0), .box 25 (cNode r1.1)] (by kernel_rfl) ?_
  obtain ⟨r3, h4, h⟩ := Option.bind_eq_some_iff.1 h
  refine JS_upd (fun s => fcall E0 16 [.agg (cNode r1.1), strV name_2] s) (by kernel_rfl) (path_Value_C r1.1 name_2 _ _ h4) ?_
  refine JS_end [.agg (cNode n_0), strV path_1, strV name_2, .ref 0 0 0, .bad, .bad, (vI 0), (vB false), .ref 1 0 0, .sc (.bool r1.2), strV r3.1, .sc (.bool r3.2), .tup [.agg (cNode r1.1), .sc (.bool r1.2)], .agg (cNode n_0), strV path_1, .tup [.agg (cNode r1.1), .sc (.bool r1.2)], .agg (cNode r1.1), .sc (.bool r1.2), .tup [strV r3.1, .sc (.bool r3.2)], .agg (cNode r1.1), strV name_2, .tup [strV r3.1, .sc (.bool r3.2)], strV r3.1, .sc (.bool r3.2), .bad, .bad, .bad, .bad] [.box 25 (cNode n_0), .box 25 (cNode r1.1)] (by kernel_rfl) ?_
  refine JK_sq ?_
  refine J_seq ?_
  refine J_region ?_
  refine JS_seg 1 [.agg (cNode n_0), strV path_1, strV name_2, .ref 0 0 0, .bad, .bad, (vI 0), (vB false), .ref 1 0 0, .sc (.bool r1.2), strV r3.1, .sc (.bool r3.2), .tup [.agg (cNode r1.1), .sc (.bool r1.2)], .agg (cNode n_0), strV path_1, .tup [.agg (cNode r1.1), .sc (.bool r1.2)], .agg (cNode r1.1), .sc (.bool r1.2), .tup [strV r3.1, .sc (.bool r3.2)], .agg (cNode r1.1), strV name_2, .tup [strV r3.1, .sc (.bool r3.2)], strV r3.1, .sc (.bool r3.2), strV r3.1, .bad, .bad, .bad] [.box 25 (cNode n_0), .box 25 (cNode r1.1)] (by kernel_rfl) ?_
  obtain ⟨r5, h6, h⟩ := Option.bind_eq_some_iff.1 h
  refine JS_upd (fun s => fcall E0 58 [strV r3.1] s) (by kernel_rfl) (value_AsNumber_C r3.1 _ _ h6) ?_
  refine JS_end [.agg (cNode n_0), strV path_1, strV name_2, .ref 0 0 0, .bad, .bad, .sc (.int .i64 r5.1), .sc (.bool r5.2), .ref 1 0 0, .sc (.bool r1.2), strV r3.1, .sc (.bool r3.2), .tup [.agg (cNode r1.1), .sc (.bool r1.2)], .agg (cNode n_0), strV path_1, .tup [.agg (cNode r1.1), .sc (.bool r1.2)], .agg (cNode r1.1), .sc (.bool r1.2), .tup [strV r3.1, .sc (.bool r3.2)], .agg (cNode r1.1), strV name_2, .tup [strV r3.1, .sc (.bool r3.2)], strV r3.1, .sc (.bool r3.2), strV r3.1, .tup [.sc (.int .i64 r5.1), .sc (.bool r5.2)], .sc (.int .i64 r5.1), .sc (.bool r5.2)] [.box 25 (cNode n_0), .box 25 (cNode r1.1)] (by kernel_rfl) ?_
  refine JK_sq ?_
  refine J_ret ?_
  refine JK_nil ?_
  obtain rfl := Option.some.inj h
  exact ret_A (r := .tup [.sc (.int .i64 r5.1), .sc (.bool r5.2)]) (r' := .tup [.sc (.int .i64 r5.1), .sc (.bool r5.2)]) (.inl rfl) (by kernel_rfl) (fTup (fC (by kernel_rfl) (fC (by kernel_rfl) fN))) (pTup (pC rfl (pC rfl pN))) ⟨by kernel_rfl, rfl⟩

theorem ref01_FromBig_C (s_0 : Str) (r : Int × Bool) (st : Store) (h : ref01_FromBig s_0 = some r) : fcall E0 97 [strV s_0] st = some (.tup [.sc (.int .i64 r.1), .sc (.bool r.2)], st) := by
  unfold ref01_FromBig at h
  refine fn_alone (fn := Tryd.f97) (av' := [strV s_0, .bad, .bad, .bad, .bad, .bad, .bad, .bad, .bad, .bad, .bad, .bad, .bad, .bad, .bad, .bad, .bad, .bad, .bad, .bad, .bad, .bad, .bad, .bad, .bad]) rfl fn_97 rfl (pC rfl pN) rfl rfl rfl (has_go (as1 := [strV s_0]) (lC (by kernel_rfl) lN) (by kernel_rfl)) ?_
  refine J_seq ?_
  refine J_region ?_
  refine JS_end [strV s_0, .bad, (vI 0), (vB false), .bad, .bad, .bad, .bad, .bad, .bad, .bad, .bad, .bad, .bad, .bad, .bad, .bad, .bad, .bad, .bad, .bad, .bad, .bad, .bad, .bad] [] (by kernel_rfl) ?_
  refine JK_sq ?_
  refine J_seq ?_
  refine J_seq ?_
  refine J_region ?_
  refine JS_end [strV s_0, .bad, (vI 0), (vB false), strV s_0, .sc (.int .i64 (s_0.length : Int)), .sc (.bool (decide ((s_0.length : Int) < 4))), .bad, .bad, .bad, .bad, .bad, .bad, .bad, .bad, .bad, .bad, .bad, .bad, .bad, .bad, .bad, .bad, .bad, .bad] [] (by kernel_rfl) ?_
  refine JK_sq ?_
  rcases bool_cases (decide ((s_0.length : Int) < 4)) with h1 | h1
  · rw [if_pos h1] at h
    refine J_condT (v := (decide ((s_0.length : Int) < 4))) (by kernel_rfl) h1 ?_
    refine J_seq ?_
    refine J_region ?_
    refine JS_end [strV s_0, .bad, (vI 0), (vB false), strV s_0, .sc (.int .i64 (s_0.length : Int)), .sc (.bool (decide ((s_0.length : Int) < 4))), .bad, .bad, .bad, .bad, .bad, .bad, .bad, .bad, .bad, .bad, .bad, .bad, .bad, .bad, .bad, .bad, .bad, .bad] [] (by kernel_rfl) ?_
    refine JK_sq ?_
    refine J_ret ?_
    refine JK_sq_ret ?_
    refine JK_nil ?_
    obtain rfl := Option.some.inj h
    exact ret_A (r := .tup [(vI 0), (vB false)]) (r' := .tup [(vI 0), (vB false)]) (.inl rfl) (by kernel_rfl) (fTup (fC (by kernel_rfl) (fC (by kernel_rfl) fN))) (pTup (pC rfl (pC rfl pN))) ⟨by kernel_rfl, rfl⟩
  · rw [if_neg (ne_true h1)] at h
    refine J_condF (v := (decide ((s_0.length : Int) < 4))) (by kernel_rfl) h1 ?_
    refine J_skip ?_
    refine JK_sq ?_
    refine J_seq ?_
    refine J_draw ?_
    refine JD_seg [] [strV s_0, .bad, (vI 0), (vB false), strV s_0, .sc (.int .i64 (s_0.length : Int)), .sc (.bool (decide ((s_0.length : Int) < 4))), .bad, .bad, .bad, .bad, .bad, .bad, .bad, .bad, .bad, .bad, .bad, .bad, .bad, .bad, .bad, .bad, .bad, .bad] [] (by kernel_rfl) (by kernel_rfl) (by kernel_rfl) ?_
    refine JD_upd (c := .free) (fun s => some (strV s_0, [])) (by kernel_rfl) rfl (by kernel_rfl) ?_
    refine JD_seg [.free] [strV s_0, .bad, (vI 0), (vB false), strV s_0, .sc (.int .i64 (s_0.length : Int)), .sc (.bool (decide ((s_0.length : Int) < 4))), strV s_0, .bad, .bad, .bad, .bad, .bad, .bad, .bad, .bad, .bad, .bad, .bad, .bad, .bad, .bad, .bad, .bad, .bad] [] (by kernel_rfl) (by kernel_rfl) (by kernel_rfl) ?_
    obtain ⟨c2, h3, h⟩ := Option.bind_eq_some_iff.1 h
    refine JD_val (c := .free) (fun s => aindex E0.tb 9 (strV s_0) ((vI 0))) (by kernel_rfl) (str_at tb_9 rfl h3) (by kernel_rfl) ?_
    refine JD_upd (c := .reads) (fun s => some (.sc (.int .i64 (IntKind.wrap .i64 (c2.toNat : Int))), [])) (by kernel_rfl) rfl (by kernel_rfl) ?_
    refine JD_upd (c := .reads) (fun s => some (.sc (.int .i64 (IntKind.wrap .i64 ((IntKind.wrap .i64 (c2.toNat : Int)) * 16777216))), [])) (by kernel_rfl) rfl (by kernel_rfl) ?_
    refine JD_upd (c := .free) (fun s => some (strV s_0, [])) (by kernel_rfl) rfl (by kernel_rfl) ?_
    refine JD_seg [.free, .free, .reads, .reads, .free] [strV s_0, .bad, (vI 0), (vB false), strV s_0, .sc (.int .i64 (s_0.length : Int)), .sc (.bool (decide ((s_0.length : Int) < 4))), strV s_0, .sc (.int .u8 (c2.toNat : Int)), .sc (.int .i64 (IntKind.wrap .i64 (c2.toNat : Int))), .sc (.int .i64 (IntKind.wrap .i64 ((IntKind.wrap .i64 (c2.toNat : Int)) * 16777216))), strV s_0, .bad, .bad, .bad, .bad, .bad, .bad, .bad, .bad, .bad, .bad, .bad, .bad, .bad] [] (by kernel_rfl) (by kernel_rfl) (by kernel_rfl) ?_
    obtain ⟨c4, h5, h⟩ := Option.bind_eq_some_iff.1 h
    refine JD_val (c := .free) (fun s => aindex E0.tb 9 (strV s_0) ((vI 1))) (by kernel_rfl) (str_at tb_9 rfl h5) (by kernel_rfl) ?_
    refine JD_upd (c := .reads) (fun s => some (.sc (.int .i64 (IntKind.wrap .i64 (c4.toNat : Int))), [])) (by kernel_rfl) rfl (by kernel_rfl) ?_
    refine JD_upd (c := .reads) (fun s => some (.sc (.int .i64 (IntKind.wrap .i64 ((IntKind.wrap .i64 (c4.toNat : Int)) * 65536))), [])) (by kernel_rfl) rfl (by kernel_rfl) ?_
    refine JD_upd (c := .reads) (fun s => some (.sc (.int .i64 (IntKind.wrap .i64 ((IntKind.wrap .i64 ((IntKind.wrap .i64 (c2.toNat : Int)) * 16777216)) + (IntKind.wrap .i64 ((IntKind.wrap .i64 (c4.toNat : Int)) * 65536))))), [])) (by kernel_rfl) rfl (by kernel_rfl) ?_
    refine JD_upd (c := .free) (fun s => some (strV s_0, [])) (by kernel_rfl) rfl (by kernel_rfl) ?_
    refine JD_seg [.free, .free, .reads, .reads, .free, .free, .reads, .reads, .reads, .free] [strV s_0, .bad, (vI 0), (vB false), strV s_0, .sc (.int .i64 (s_0.length : Int)), .sc (.bool (decide ((s_0.length : Int) < 4))), strV s_0, .sc (.int .u8 (c2.toNat : Int)), .sc (.int .i64 (IntKind.wrap .i64 (c2.toNat : Int))), .sc (.int .i64 (IntKind.wrap .i64 ((IntKind.wrap .i64 (c2.toNat : Int)) * 16777216))), strV s_0, .sc (.int .u8 (c4.toNat : Int)), .sc (.int .i64 (IntKind.wrap .i64 (c4.toNat : Int))), .sc (.int .i64 (IntKind.wrap .i64 ((IntKind.wrap .i64 (c4.toNat : Int)) * 65536))), .sc (.int .i64 (IntKind.wrap .i64 ((IntKind.wrap .i64 ((IntKind.wrap .i64 (c2.toNat : Int)) * 16777216)) + (IntKind.wrap .i64 ((IntKind.wrap .i64 (c4.toNat : Int)) * 65536))))), strV s_0, .bad, .bad, .bad, .bad, .bad, .bad, .bad, .bad] [] (by kernel_rfl) (by kernel_rfl) (by kernel_rfl) ?_
    obtain ⟨c6, h7, h⟩ := Option.bind_eq_some_iff.1 h
    refine JD_val (c := .free) (fun s => aindex E0.tb 9 (strV s_0) ((vI 2))) (by kernel_rfl) (str_at tb_9 rfl h7) (by kernel_rfl) ?_
    refine JD_upd (c := .reads) (fun s => some (.sc (.int .i64 (IntKind.wrap .i64 (c6.toNat : Int))), [])) (by kernel_rfl) rfl (by kernel_rfl) ?_
    refine JD_upd (c := .reads) (fun s => some (.sc (.int .i64 (IntKind.wrap .i64 ((IntKind.wrap .i64 (c6.toNat : Int)) * 256))), [])) (by kernel_rfl) rfl (by kernel_rfl) ?_
    refine JD_upd (c := .reads) (fun s => some (.sc (.int .i64 (IntKind.wrap .i64 ((IntKind.wrap .i64 ((IntKind.wrap .i64 ((IntKind.wrap .i64 (c2.toNat : Int)) * 16777216)) + (IntKind.wrap .i64 ((IntKind.wrap .i64 (c4.toNat : Int)) * 65536)))) + (IntKind.wrap .i64 ((IntKind.wrap .i64 (c6.toNat : Int)) * 256))))), [])) (by kernel_rfl) rfl (by kernel_rfl) ?_
    refine JD_upd (c := .free) (fun s => some (strV s_0, [])) (by kernel_rfl) rfl (by kernel_rfl) ?_
    refine JD_seg [.free, .free, .reads, .reads, .free, .free, .reads, .reads, .reads, .free, .free, .reads, .reads, .reads, .free] [strV s_0, .bad, (vI 0), (vB false), strV s_0, .sc (.int .i64 (s_0.length : Int)), .sc (.bool (decide ((s_0.length : Int) < 4))), strV s_0, .sc (.int .u8 (c2.toNat : Int)), .sc (.int .i64 (IntKind.wrap .i64 (c2.toNat : Int))), .sc (.int .i64 (IntKind.wrap .i64 ((IntKind.wrap .i64 (c2.toNat : Int)) * 16777216))), strV s_0, .sc (.int .u8 (c4.toNat : Int)), .sc (.int .i64 (IntKind.wrap .i64 (c4.toNat : Int))), .sc (.int .i64 (IntKind.wrap .i64 ((IntKind.wrap .i64 (c4.toNat : Int)) * 65536))), .sc (.int .i64 (IntKind.wrap .i64 ((IntKind.wrap .i64 ((IntKind.wrap .i64 (c2.toNat : Int)) * 16777216)) + (IntKind.wrap .i64 ((IntKind.wrap .i64 (c4.toNat : Int)) * 65536))))), strV s_0, .sc (.int .u8 (c6.toNat : Int)), .sc (.int .i64 (IntKind.wrap .i64 (c6.toNat : Int))), .sc (.int .i64 (IntKind.wrap .i64 ((IntKind.wrap .i64 (c6.toNat : Int)) * 256))), .sc (.int .i64 (IntKind.wrap .i64 ((IntKind.wrap .i64 ((IntKind.wrap .i64 ((IntKind.wrap .i64 (c2.toNat : Int)) * 16777216)) + (IntKind.wrap .i64 ((IntKind.wrap .i64 (c4.toNat : Int)) * 65536)))) + (IntKind.wrap .i64 ((IntKind.wrap .i64 (c6.toNat : Int)) * 256))))), strV s_0, .bad, .bad, .bad] [] (by kernel_rfl) (by kernel_rfl) (by kernel_rfl) ?_
    obtain ⟨c8, h9, h⟩ := Option.bind_eq_some_iff.1 h
    refine JD_val (c := .free) (fun s => aindex E0.tb 9 (strV s_0) ((vI 3))) (by kernel_rfl) (str_at tb_9 rfl h9) (by kernel_rfl) ?_
    refine JD_upd (c := .reads) (fun s => some (.sc (.int .i64 (IntKind.wrap .i64 (c8.toNat : Int))), [])) (by kernel_rfl) rfl (by kernel_rfl) ?_
    refine JD_upd (c := .reads) (fun s => some (.sc (.int .i64 (IntKind.wrap .i64 ((IntKind.wrap .i64 ((IntKind.wrap .i64 ((IntKind.wrap .i64 ((IntKind.wrap .i64 (c2.toNat : Int)) * 16777216)) + (IntKind.wrap .i64 ((IntKind.wrap .i64 (c4.toNat : Int)) * 65536)))) + (IntKind.wrap .i64 ((IntKind.wrap .i64 (c6.toNat : Int)) * 256)))) + (IntKind.wrap .i64 (c8.toNat : Int))))), [])) (by kernel_rfl) rfl (by kernel_rfl) ?_
    refine JD_upd (c := .free) (fun s => some (.sc (.int .i64 (IntKind.wrap .i64 ((IntKind.wrap .i64 ((IntKind.wrap .i64 ((IntKind.wrap .i64 ((IntKind.wrap .i64 (c2.toNat : Int)) * 16777216)) + (IntKind.wrap .i64 ((IntKind.wrap .i64 (c4.toNat : Int)) * 65536)))) + (IntKind.wrap .i64 ((IntKind.wrap .i64 (c6.toNat : Int)) * 256)))) + (IntKind.wrap .i64 (c8.toNat : Int))))), [])) (by kernel_rfl) rfl (by kernel_rfl) ?_
    refine JD_upd (c := .free) (fun s => some ((vB true), [])) (by kernel_rfl) rfl (by kernel_rfl) ?_
    refine JD_seg [.free, .free, .reads, .reads, .free, .free, .reads, .reads, .reads, .free, .free, .reads, .reads, .reads, .free, .free, .reads, .reads, .free, .free] [strV s_0, .bad, .sc (.int .i64 (IntKind.wrap .i64 ((IntKind.wrap .i64 ((IntKind.wrap .i64 ((IntKind.wrap .i64 ((IntKind.wrap .i64 (c2.toNat : Int)) * 16777216)) + (IntKind.wrap .i64 ((IntKind.wrap .i64 (c4.toNat : Int)) * 65536)))) + (IntKind.wrap .i64 ((IntKind.wrap .i64 (c6.toNat : Int)) * 256)))) + (IntKind.wrap .i64 (c8.toNat : Int))))), (vB true), strV s_0, .sc (.int .i64 (s_0.length : Int)), .sc (.bool (decide ((s_0.length : Int) < 4))), strV s_0, .sc (.int .u8 (c2.toNat : Int)), .sc (.int .i64 (IntKind.wrap .i64 (c2.toNat : Int))), .sc (.int .i64 (IntKind.wrap .i64 ((IntKind.wrap .i64 (c2.toNat : Int)) * 16777216))), strV s_0, .sc (.int .u8 (c4.toNat : Int)), .sc (.int .i64 (IntKind.wrap .i64 (c4.toNat : Int))), .sc (.int .i64 (IntKind.wrap .i64 ((IntKind.wrap .i64 (c4.toNat : Int)) * 65536))), .sc (.int .i64 (IntKind.wrap .i64 ((IntKind.wrap .i64 ((IntKind.wrap .i64 (c2.toNat : Int)) * 16777216)) + (IntKind.wrap .i64 ((IntKind.wrap .i64 (c4.toNat : Int)) * 65536))))), strV s_0, .sc (.int .u8 (c6.toNat : Int)), .sc (.int .i64 (IntKind.wrap .i64 (c6.toNat : Int))), .sc (.int .i64 (IntKind.wrap .i64 ((IntKind.wrap .i64 (c6.toNat : Int)) * 256))), .sc (.int .i64 (IntKind.wrap .i64 ((IntKind.wrap .i64 ((IntKind.wrap .i64 ((IntKind.wrap .i64 (c2.toNat : Int)) * 16777216)) + (IntKind.wrap .i64 ((IntKind.wrap .i64 (c4.toNat : Int)) * 65536)))) + (IntKind.wrap .i64 ((IntKind.wrap .i64 (c6.toNat : Int)) * 256))))), strV s_0, .sc (.int .u8 (c8.toNat : Int)), .sc (.int .i64 (IntKind.wrap .i64 (c8.toNat : Int))), .sc (.int .i64 (IntKind.wrap .i64 ((IntKind.wrap .i64 ((IntKind.wrap .i64 ((IntKind.wrap .i64 ((IntKind.wrap .i64 (c2.toNat : Int)) * 16777216)) + (IntKind.wrap .i64 ((IntKind.wrap .i64 (c4.toNat : Int)) * 65536)))) + (IntKind.wrap .i64 ((IntKind.wrap .i64 (c6.toNat : Int)) * 256)))) + (IntKind.wrap .i64 (c8.toNat : Int)))))] [] (by kernel_rfl) (by kernel_rfl) (by kernel_rfl) ?_
    refine JD_end (by kernel_rfl) (by kernel_rfl) ?_
    refine JK_sq ?_
    refine J_ret ?_
    refine JK_nil ?_
    obtain rfl := Option.some.inj h
    exact ret_A (r := .tup [.sc (.int .i64 (IntKind.wrap .i64 ((IntKind.wrap .i64 ((IntKind.wrap .i64 ((IntKind.wrap .i64 ((IntKind.wrap .i64 (c2.toNat : Int)) * 16777216)) + (IntKind.wrap .i64 ((IntKind.wrap .i64 (c4.toNat : Int)) * 65536)))) + (IntKind.wrap .i64 ((IntKind.wrap .i64 (c6.toNat : Int)) * 256)))) + (IntKind.wrap .i64 (c8.toNat : Int))))), (vB true)]) (r' := .tup [.sc (.int .i64 (IntKind.wrap .i64 ((IntKind.wrap .i64 ((IntKind.wrap .i64 ((IntKind.wrap .i64 ((IntKind.wrap .i64 (c2.toNat : Int)) * 16777216)) + (IntKind.wrap .i64 ((IntKind.wrap .i64 (c4.toNat : Int)) * 65536)))) + (IntKind.wrap .i64 ((IntKind.wrap .i64 (c6.toNat : Int)) * 256)))) + (IntKind.wrap .i64 (c8.toNat : Int))))), (vB true)]) (.inl rfl) (by kernel_rfl) (fTup (fC (by kernel_rfl) (fC (by kernel_rfl) fN))) (pTup (pC rfl (pC rfl pN))) ⟨by kernel_rfl, rfl⟩

theorem ref13_AsNumber_C (v_0 : Str) (r : Int × Bool) (st : Store) (h : ref13_AsNumber v_0 = some r) : fcall E0 59 [strV v_0] st = some (.tup [.sc (.int .i64 r.1), .sc (.bool r.2)], st) := by
  unfold ref13_AsNumber at h
  refine fn_alone (fn := Tryd.f59) (av' := [strV v_0, .bad, .bad, .bad, .bad, .bad, .bad, .bad, .bad, .bad, .bad]) rfl fn_59 rfl (pC rfl pN) rfl rfl rfl (has_go (as1 := [strV v_0]) (lC (by kernel_rfl) lN) (by kernel_rfl)) ?_
  refine J_seq ?_
  refine J_region ?_
  refine JS_end [strV v_0, .bad, (vI 0), (vB false), .bad, .bad, .bad, .bad, .bad, .bad, .bad] [] (by kernel_rfl) ?_
  refine JK_sq ?_
  refine J_seq ?_
  refine J_seq ?_
  refine J_region ?_
  refine JS_end [strV v_0, .bad, (vI 0), (vB false), strV v_0, .sc (.int .i64 (v_0.length : Int)), .sc (.bool ((v_0.length : Int) != 4)), .bad, .bad, .bad, .bad] [] (by kernel_rfl) ?_
  refine JK_sq ?_
  rcases bool_cases ((v_0.length : Int) != 4) with h1 | h1
  · rw [if_pos h1] at h
    refine J_condT (v := ((v_0.length : Int) != 4)) (by kernel_rfl) h1 ?_
    refine J_seq ?_
    refine J_region ?_
    refine JS_end [strV v_0, .bad, (vI 0), (vB false), strV v_0, .sc (.int .i64 (v_0.length : Int)), .sc (.bool ((v_0.length : Int) != 4)), .bad, .bad, .bad, .bad] [] (by kernel_rfl) ?_
    refine JK_sq ?_
    refine J_ret ?_
    refine JK_sq_ret ?_
    refine JK_nil ?_
    obtain rfl := Option.some.inj h
    exact ret_A (r := .tup [(vI 0), (vB false)]) (r' := .tup [(vI 0), (vB false)]) (.inl rfl) (by kernel_rfl) (fTup (fC (by kernel_rfl) (fC (by kernel_rfl) fN))) (pTup (pC rfl (pC rfl pN))) ⟨by kernel_rfl, rfl⟩
  · rw [if_neg (ne_true h1)] at h
    refine J_condF (v := ((v_0.length : Int) != 4)) (by kernel_rfl) h1 ?_
    refine J_skip ?_
    refine JK_sq ?_
    refine J_seq ?_
    refine J_region ?_
    refine JS_seg 1 [strV v_0, .bad, (vI 0), (vB false), strV v_0, .sc (.int .i64 (v_0.length : Int)), .sc (.bool ((v_0.length : Int) != 4)), strV v_0, .bad, .bad, .bad] [] (by kernel_rfl) ?_
    obtain ⟨r2, h3, h⟩ := Option.bind_eq_some_iff.1 h
    refine JS_upd (fun s => fcall E0 97 [strV v_0] s) (by kernel_rfl) (ref01_FromBig_C v_0 _ _ h3) ?_
    refine JS_end [strV v_0, .bad, .sc (.int .i64 r2.1), .sc (.bool r2.2), strV v_0, .sc (.int .i64 (v_0.length : Int)), .sc (.bool ((v_0.length : Int) != 4)), strV v_0, .tup [.sc (.int .i64 r2.1), .sc (.bool r2.2)], .sc (.int .i64 r2.1), .sc (.bool r2.2)] [] (by kernel_rfl) ?_
    refine JK_sq ?_
    refine J_ret ?_
    refine JK_nil ?_
    obtain rfl := Option.some.inj h
    exact ret_A (r := .tup [.sc (.int .i64 r2.1), .sc (.bool r2.2)]) (r' := .tup [.sc (.int .i64 r2.1), .sc (.bool r2.2)]) (.inl rfl) (by kernel_rfl) (fTup (fC (by kernel_rfl) (fC (by kernel_rfl) fN))) (pTup (pC rfl (pC rfl pN))) ⟨by kernel_rfl, rfl⟩

theorem ref16_Number_C (n_0 : GNode) (path_1 : Str) (name_2 : Str) (r : Int × Bool) (st : Store) (h : ref16_Number n_0 path_1 name_2 = some r) : fcall E0 21 [.agg (cNode n_0), strV path_1, strV name_2] st = some (.tup [.sc (.int .i64 r.1), .sc (.bool r.2)], st) := by
  unfold ref16_Number at h
  refine fn_alone (fn := Tryd.f21) (av' := [.agg (cNode n_0), strV path_1, strV name_2, .bad, .bad, .bad, .bad, .bad, .bad, .bad, .bad, .bad, .bad, .bad, .bad, .bad, .bad, .bad, .bad, .bad, .bad, .bad, .bad]) rfl fn_21 rfl (pC (pAgg (pC rfl (pC (sl_pure tProp _) (pC (sl_pure tNode _) pN)))) (pC rfl (pC rfl pN))) rfl rfl rfl (has_go (as1 := [.agg (cNode n_0), strV path_1, strV name_2]) (lC (sAgg (lC (by kernel_rfl) (lC (sl_scrub tProp _ _) (lC (sl_scrub tNode _ _) lN)))) (lC (by kernel_rfl) (lC (by kernel_rfl) lN))) (by kernel_rfl)) ?_
  refine J_seq ?_
  refine J_region ?_
  refine JS_end [.agg (cNode n_0), strV path_1, strV name_2, .ref 0 0 0, .bad, .bad, (vI 0), (vB false), .bad, .bad, .bad, .bad, .bad, .bad, .bad, .bad, .bad, .bad, .bad, .bad, .bad, .bad, .bad] [.box 25 (cNode n_0)] (by kernel_rfl) ?_
  refine JK_sq ?_
  refine J_seq ?_
  refine J_region ?_
  refine JS_seg 3 [.agg (cNode n_0), strV path_1, strV name_2, .ref 0 0 0, .bad, .bad, (vI 0), (vB false), .bad, .bad, .bad, .agg (cNode n_0), strV path_1, strV name_2, .bad, .bad, .bad, .bad, .bad, .bad, .bad, .bad, .bad] [.box 25 (cNode n_0)] (by kernel_rfl) ?_
  obtain ⟨r1, h2, h⟩ := Option.bind_eq_some_iff.1 h
  refine JS_upd (fun s => fcall E0 56 [.agg (cNode n_0), strV path_1, strV name_2] s) (by kernel_rfl) (ref16_at_C n_0 path_1 name_2 _ _ h2) ?_
  refine JS_end [.agg (cNode n_0), strV path_1, strV name_2, .ref 0 0 0, .bad, .bad, (vI 0), (vB false), strV r1.1, .sc (.bool r1.2), .tup [strV r1.1, .sc (.bool r1.2)], .agg (cNode n_0), strV path_1, strV name_2, .tup [strV r1.1, .sc (.bool r1.2)], strV r1.1, .sc (.bool r1.2), .bad, .bad, .bad, .bad, .bad, .bad] [.box 25 (cNode n_0)] (by kernel_rfl) ?_
  refine JK_sq ?_
  refine J_seq ?_
  refine J_seq ?_
  refine J_region ?_
  refine JS_end [.agg (cNode n_0), strV path_1, strV name_2, .ref 0 0 0, .bad, .bad, (vI 0), (vB false), strV r1.1, .sc (.bool r1.2), .tup [strV r1.1, .sc (.bool r1.2)], .agg (cNode n_0), strV path_1, strV name_2, .tup [strV r1.1, .sc (.bool r1.2)], strV r1.1, .sc (.bool r1.2), .sc (.bool r1.2), .sc (.bool (!r1.2)), .bad, .bad, .bad, .bad] [.box 25 (cNode n_0)] (by kernel_rfl) ?_
  refine JK_sq ?_
  rcases bool_cases (!r1.2) with h3 | h3
  · rw [if_pos h3] at h
    refine J_condT (v := (!r1.2)) (by kernel_rfl) h3 ?_
    refine J_seq ?_
    refine J_region ?_
    refine JS_end [.agg (cNode n_0), strV path_1, strV name_2, .ref 0 0 0, .bad, .bad, (vI 0), (vB false), strV r1.1, .sc (.bool r1.2), .tup [strV r1.1, .sc (.bool r1.2)], .agg (cNode n_0), strV path_1, strV name_2, .tup [strV r1.1, .sc (.bool r1.2)], strV r1.1, .sc (.bool r1.2), .sc (.bool r1.2), .sc (.bool (!r1.2)), .bad, .bad, .bad, .bad] [.box 25 (cNode n_0)] (by kernel_rfl) ?_
    refine JK_sq ?_
    refine J_ret ?_
    refine JK_sq_ret ?_
    refine JK_nil ?_
    obtain rfl := Option.some.inj h
    exact ret_A (r := .tup [(vI 0), (vB false)]) (r' := .tup [(vI 0), (vB false)]) (.inl rfl) (by kernel_rfl) (fTup (fC (by kernel_rfl) (fC (by kernel_rfl) fN))) (pTup (pC rfl (pC rfl pN))) ⟨by kernel_rfl, rfl⟩
  · rw [if_neg (ne_true h3)] at h
    refine J_condF (v := (!r1.2)) (by kernel_rfl) h3 ?_
    refine J_skip ?_
    refine JK_sq ?_
    refine J_seq ?_
    refine J_region ?_
    refine JS_seg 1 [.agg (cNode n_0), strV path_1, strV name_2, .ref 0 0 0, .bad, .bad, (vI 0), (vB false), strV r1.1, .sc (.bool r1.2), .tup [strV r1.1, .sc (.bool r1.2)], .agg (cNode n_0), strV path_1, strV name_2, .tup [strV r1.1, .sc (.bool r1.2)], strV r1.1, .sc (.bool r1.2), .sc (.bool r1.2), .sc (.bool (!r1.2)), strV r1.1, .bad, .bad, .bad] [.box 25 (cNode n_0)] (by kernel_rfl) ?_
    obtain ⟨r4, h5, h⟩ := Option.bind_eq_some_iff.1 h
    refine JS_upd (fun s => fcall E0 59 [strV r1.1] s) (by kernel_rfl) (ref13_AsNumber_C r1.1 _ _ h5) ?_
    refine JS_end [.agg (cNode n_0), strV path_1, strV name_2, .ref 0 0 0, .bad, .bad, .sc (.int .i64 r4.1), .sc (.bool r4.2), strV r1.1, .sc (.bool r1.2), .tup [strV r1.1, .sc (.bool r1.2)], .agg (cNode n_0), strV path_1, strV name_2, .tup [strV r1.1, .sc (.bool r1.2)], strV r1.1, .sc (.bool r1.2), .sc (.bool r1.2), .sc (.bool (!r1.2)), strV r1.1, .tup [.sc (.int .i64 r4.1), .sc (.bool r4.2)], .sc (.int .i64 r4.1), .sc (.bool r4.2)] [.box 25 (cNode n_0)] (by kernel_rfl) ?_
    refine JK_sq ?_
    refine J_ret ?_
    refine JK_nil ?_
    obtain rfl := Option.some.inj h
    exact ret_A (r := .tup [.sc (.int .i64 r4.1), .sc (.bool r4.2)]) (r' := .tup [.sc (.int .i64 r4.1), .sc (.bool r4.2)]) (.inl rfl) (by kernel_rfl) (fTup (fC (by kernel_rfl) (fC (by kernel_rfl) fN))) (pTup (pC rfl (pC rfl pN))) ⟨by kernel_rfl, rfl⟩

end Go.Proofs.YticlelmlnadclaaDoor
