/-
  What the evaluator's calls come to. Printed by program. No condition.
-/
import Derived.Test.YticlelmlnadclaaDoorKQ
import Derived.Test.YticlelmlnadclaaDoorKS0
import Derived.Test.YticlelmlnadclaaDoorKS1
set_option linter.unusedVariables false
set_option linter.unusedSimpArgs false
set_option linter.unusedSectionVars false
set_option linter.unnecessarySimpa false
set_option linter.deprecated false
namespace Go.Proofs.YticlelmlnadclaaDoor
open Go.P
open Go Go.Abs

set_option maxRecDepth 100000
set_option maxHeartbeats 4000000

theorem law16_PathWalk_C (n_0 : GNode) (p_1 : Str) (r : Bool) (st : Store) (h : law16_PathWalk n_0 p_1 = some r) : fcall E0 4 [.agg (cNode n_0), strV p_1] st = some ((vB r), st) := by
  unfold law16_PathWalk at h
  refine fn_alone (fn := Tryd.f4) (av' := (.agg (cNode n_0) :: strV p_1 :: bz 120 [])) rfl fn_4 rfl (pC (pAgg (pC rfl (pC (sl_pure tProp _) (pC (sl_pure tNode _) pN)))) (pC rfl pN)) rfl rfl rfl (has_go (as1 := [.agg (cNode n_0), strV p_1]) (lC (sAgg (lC (by kernel_rfl) (lC (sl_scrub tProp _ _) (lC (sl_scrub tNode _ _) lN)))) (lC (by kernel_rfl) lN)) (by kernel_rfl)) ?_
  refine J_seq ?_
  refine J_region ?_
  refine JS_end (.agg (cNode n_0) :: strV p_1 :: .ref 0 0 0 :: .bad :: (vB false) :: bz 117 []) [.box 25 (cNode n_0)] (by kernel_rfl) ?_
  refine JK_sq ?_
  refine J_seq ?_
  refine J_seq ?_
  refine J_region ?_
  refine JS_seg 1 (.agg (cNode n_0) :: strV p_1 :: .ref 0 0 0 :: .bad :: (vB false) :: bz 12 (.agg (cNode n_0) :: bz 104 [])) [.box 25 (cNode n_0)] (by kernel_rfl) ?_
  obtain ⟨r1, h2, h⟩ := Option.bind_eq_some_iff.1 h
  refine JS_upd (fun s => fcall E0 9 [.agg (cNode n_0)] s) (by kernel_rfl) (ref12_Low_C n_0 _ _ h2) ?_
  refine JS_seg 4 (.agg (cNode n_0) :: strV p_1 :: .ref 0 0 0 :: .bad :: (vB false) :: bz 12 (.agg (cNode n_0) :: (vB r1) :: .sc (.bool (!r1)) :: .sc (.bool (!r1)) :: bz 101 [])) [.box 25 (cNode n_0)] (by kernel_rfl) ?_
  rcases bool_cases (!r1) with h3 | h3
  · rw [if_pos h3] at h
    refine JS_cast (tm' := (.agg (cNode n_0) :: strV p_1 :: .ref 0 0 0 :: .bad :: (vB false) :: bz 12 (.agg (cNode n_0) :: (vB r1) :: (vB true) :: (vB true) :: bz 101 []))) (by rw [h3]) rfl ?_
    refine JS_end (.agg (cNode n_0) :: strV p_1 :: .ref 0 0 0 :: .bad :: (vB false) :: bz 12 (.agg (cNode n_0) :: (vB r1) :: (vB true) :: (vB true) :: .tup [] :: .tup [] :: .tup [] :: (vB true) :: bz 97 [])) [.box 25 (cNode n_0)] (by kernel_rfl) ?_
    refine JK_sq ?_
    refine J_condT (v := true) (by kernel_rfl) rfl ?_
    refine J_seq ?_
    refine J_region ?_
    refine JS_seg 0 (.agg (cNode n_0) :: strV p_1 :: .ref 0 0 0 :: .bad :: (vB false) :: bz 12 (.agg (cNode n_0) :: (vB r1) :: (vB true) :: (vB true) :: .tup [] :: .tup [] :: .tup [] :: (vB true) :: bz 97 [])) [.box 25 (cNode n_0)] (by kernel_rfl) ?_
    obtain ⟨r4, h5, h⟩ := Option.bind_eq_some_iff.1 h
    refine JS_upd (fun s => fcall E0 10 [] s) (by kernel_rfl) (law16_awake_C _ _ h5) ?_
    refine JS_end (.agg (cNode n_0) :: strV p_1 :: .ref 0 0 0 :: .bad :: (vB r4) :: bz 12 (.agg (cNode n_0) :: (vB r1) :: (vB true) :: (vB true) :: .tup [] :: .tup [] :: .tup [] :: (vB true) :: (vB r4) :: bz 96 [])) [.box 25 (cNode n_0)] (by kernel_rfl) ?_
    refine JK_sq ?_
    refine J_ret ?_
    refine JK_sq_ret ?_
    refine JK_nil ?_
    obtain rfl := Option.some.inj h
    exact ret_A (r := (vB r4)) (r' := (vB r4)) (.inl rfl) (by kernel_rfl) (by kernel_rfl) rfl ⟨by kernel_rfl, rfl⟩
  · rw [if_neg (ne_true h3)] at h
    refine JS_cast (tm' := (.agg (cNode n_0) :: strV p_1 :: .ref 0 0 0 :: .bad :: (vB false) :: bz 12 (.agg (cNode n_0) :: (vB r1) :: (vB false) :: (vB false) :: bz 101 []))) (by rw [h3]) rfl ?_
    refine JS_end (.agg (cNode n_0) :: strV p_1 :: .ref 0 0 0 :: .bad :: (vB false) :: bz 12 (.agg (cNode n_0) :: (vB r1) :: (vB false) :: (vB false) :: strV p_1 :: .sc (.int .i64 (p_1.length : Int)) :: .sc (.bool (decide ((p_1.length : Int) > 200))) :: .sc (.bool (decide ((p_1.length : Int) > 200))) :: bz 97 [])) [.box 25 (cNode n_0)] (by kernel_rfl) ?_
    refine JK_sq ?_
    rcases bool_cases (decide ((p_1.length : Int) > 200)) with h6 | h6
    · rw [if_pos h6] at h
      refine J_condT (v := (decide ((p_1.length : Int) > 200))) (by kernel_rfl) h6 ?_
      refine J_seq ?_
      refine J_region ?_
      refine JS_seg 0 (.agg (cNode n_0) :: strV p_1 :: .ref 0 0 0 :: .bad :: (vB false) :: bz 12 (.agg (cNode n_0) :: (vB r1) :: (vB false) :: (vB false) :: strV p_1 :: .sc (.int .i64 (p_1.length : Int)) :: .sc (.bool (decide ((p_1.length : Int) > 200))) :: .sc (.bool (decide ((p_1.length : Int) > 200))) :: bz 97 [])) [.box 25 (cNode n_0)] (by kernel_rfl) ?_
      obtain ⟨r7, h8, h⟩ := Option.bind_eq_some_iff.1 h
      refine JS_upd (fun s => fcall E0 10 [] s) (by kernel_rfl) (law16_awake_C _ _ h8) ?_
      refine JS_end (.agg (cNode n_0) :: strV p_1 :: .ref 0 0 0 :: .bad :: (vB r7) :: bz 12 (.agg (cNode n_0) :: (vB r1) :: (vB false) :: (vB false) :: strV p_1 :: .sc (.int .i64 (p_1.length : Int)) :: .sc (.bool (decide ((p_1.length : Int) > 200))) :: .sc (.bool (decide ((p_1.length : Int) > 200))) :: (vB r7) :: bz 96 [])) [.box 25 (cNode n_0)] (by kernel_rfl) ?_
      refine JK_sq ?_
      refine J_ret ?_
      refine JK_sq_ret ?_
      refine JK_nil ?_
      obtain rfl := Option.some.inj h
      exact ret_A (r := (vB r7)) (r' := (vB r7)) (.inl rfl) (by kernel_rfl) (by kernel_rfl) rfl ⟨by kernel_rfl, rfl⟩
    · rw [if_neg (ne_true h6)] at h
      refine J_condF (v := (decide ((p_1.length : Int) > 200))) (by kernel_rfl) h6 ?_
      refine J_skip ?_
      refine JK_sq ?_
      refine J_seq ?_
      refine J_region ?_
      refine JS_seg 1 (.agg (cNode n_0) :: strV p_1 :: .ref 0 0 0 :: .bad :: (vB false) :: bz 12 (.agg (cNode n_0) :: (vB r1) :: (vB false) :: (vB false) :: strV p_1 :: .sc (.int .i64 (p_1.length : Int)) :: .sc (.bool (decide ((p_1.length : Int) > 200))) :: .sc (.bool (decide ((p_1.length : Int) > 200))) :: .bad :: .bad :: strV p_1 :: bz 94 [])) [.box 25 (cNode n_0)] (by kernel_rfl) ?_
      obtain ⟨r9, h10, h⟩ := Option.bind_eq_some_iff.1 h
      refine JS_upd (fun s => fcall E0 22 [strV p_1] s) (by kernel_rfl) (path_Parts_C p_1 _ _ h10) ?_
      refine JS_end (.agg (cNode n_0) :: strV p_1 :: .ref 0 0 0 :: .bad :: (vB false) :: Ty.sl tS r9.1 :: .sc (.bool r9.2) :: bz 10 (.agg (cNode n_0) :: (vB r1) :: (vB false) :: (vB false) :: strV p_1 :: .sc (.int .i64 (p_1.length : Int)) :: .sc (.bool (decide ((p_1.length : Int) > 200))) :: .sc (.bool (decide ((p_1.length : Int) > 200))) :: .bad :: .tup [Ty.sl tS r9.1, .sc (.bool r9.2)] :: strV p_1 :: .tup [Ty.sl tS r9.1, .sc (.bool r9.2)] :: Ty.sl tS r9.1 :: .sc (.bool r9.2) :: bz 91 [])) [.box 25 (cNode n_0)] (by kernel_rfl) ?_
      refine JK_sq ?_
      refine J_seq ?_
      refine J_seq ?_
      refine J_region ?_
      refine JS_seg 2 (.agg (cNode n_0) :: strV p_1 :: .ref 0 0 0 :: .bad :: (vB false) :: Ty.sl tS r9.1 :: .sc (.bool r9.2) :: bz 10 (.agg (cNode n_0) :: (vB r1) :: (vB false) :: (vB false) :: strV p_1 :: .sc (.int .i64 (p_1.length : Int)) :: .sc (.bool (decide ((p_1.length : Int) > 200))) :: .sc (.bool (decide ((p_1.length : Int) > 200))) :: .bad :: .tup [Ty.sl tS r9.1, .sc (.bool r9.2)] :: strV p_1 :: .tup [Ty.sl tS r9.1, .sc (.bool r9.2)] :: Ty.sl tS r9.1 :: .sc (.bool r9.2) :: .sc (.bool r9.2) :: .sc (.bool r9.2) :: bz 89 [])) [.box 25 (cNode n_0)] (by kernel_rfl) ?_
      rcases bool_cases r9.2 with h11 | h11
      · rw [if_pos h11] at h
        refine JS_cast (tm' := (.agg (cNode n_0) :: strV p_1 :: .ref 0 0 0 :: .bad :: (vB false) :: Ty.sl tS r9.1 :: (vB true) :: bz 10 (.agg (cNode n_0) :: (vB r1) :: (vB false) :: (vB false) :: strV p_1 :: .sc (.int .i64 (p_1.length : Int)) :: .sc (.bool (decide ((p_1.length : Int) > 200))) :: .sc (.bool (decide ((p_1.length : Int) > 200))) :: .bad :: .tup [Ty.sl tS r9.1, .sc (.bool r9.2)] :: strV p_1 :: .tup [Ty.sl tS r9.1, .sc (.bool r9.2)] :: Ty.sl tS r9.1 :: (vB true) :: (vB true) :: (vB true) :: bz 89 []))) (by rw [h11]) rfl ?_
        refine JS_seg 3 (.agg (cNode n_0) :: strV p_1 :: .ref 0 0 0 :: .bad :: (vB false) :: Ty.sl tS r9.1 :: (vB true) :: bz 10 (.agg (cNode n_0) :: (vB r1) :: (vB false) :: (vB false) :: strV p_1 :: .sc (.int .i64 (p_1.length : Int)) :: .sc (.bool (decide ((p_1.length : Int) > 200))) :: .sc (.bool (decide ((p_1.length : Int) > 200))) :: .bad :: .tup [Ty.sl tS r9.1, .sc (.bool r9.2)] :: strV p_1 :: .tup [Ty.sl tS r9.1, .sc (.bool r9.2)] :: Ty.sl tS r9.1 :: (vB true) :: (vB true) :: (vB true) :: Ty.sl tS r9.1 :: bz 88 [])) [.box 25 (cNode n_0)] (by kernel_rfl) ?_
        obtain ⟨r12, h13, h⟩ := Option.bind_eq_some_iff.1 h
        refine JS_upd (fun s => fcall E0 23 [Ty.sl tS r9.1] s) (by kernel_rfl) (path_Join_C r9.1 _ _ h13) ?_
        refine JS_seg 5 (.agg (cNode n_0) :: strV p_1 :: .ref 0 0 0 :: .bad :: (vB false) :: Ty.sl tS r9.1 :: (vB true) :: bz 10 (.agg (cNode n_0) :: (vB r1) :: (vB false) :: (vB false) :: strV p_1 :: .sc (.int .i64 (p_1.length : Int)) :: .sc (.bool (decide ((p_1.length : Int) > 200))) :: .sc (.bool (decide ((p_1.length : Int) > 200))) :: .bad :: .tup [Ty.sl tS r9.1, .sc (.bool r9.2)] :: strV p_1 :: .tup [Ty.sl tS r9.1, .sc (.bool r9.2)] :: Ty.sl tS r9.1 :: (vB true) :: (vB true) :: (vB true) :: Ty.sl tS r9.1 :: strV r12 :: strV p_1 :: bz 86 [])) [.box 25 (cNode n_0)] (by kernel_rfl) ?_
        refine JS_val (fun s => abin E0.tb s .neq 9 (strV r12) (strV p_1)) (by kernel_rfl) (str_ne r12 p_1) ?_
        refine JS_end (.agg (cNode n_0) :: strV p_1 :: .ref 0 0 0 :: .bad :: (vB false) :: Ty.sl tS r9.1 :: (vB true) :: bz 10 (.agg (cNode n_0) :: (vB r1) :: (vB false) :: (vB false) :: strV p_1 :: .sc (.int .i64 (p_1.length : Int)) :: .sc (.bool (decide ((p_1.length : Int) > 200))) :: .sc (.bool (decide ((p_1.length : Int) > 200))) :: .bad :: .tup [Ty.sl tS r9.1, .sc (.bool r9.2)] :: strV p_1 :: .tup [Ty.sl tS r9.1, .sc (.bool r9.2)] :: Ty.sl tS r9.1 :: (vB true) :: (vB true) :: (vB true) :: Ty.sl tS r9.1 :: strV r12 :: strV p_1 :: .sc (.bool (!(r12 == p_1))) :: .sc (.bool (!(r12 == p_1))) :: bz 84 [])) [.box 25 (cNode n_0)] (by kernel_rfl) ?_
        refine JK_sq ?_
        rcases bool_cases (!(r12 == p_1)) with h14 | h14
        · rw [if_pos h14] at h
          refine J_condT (v := (!(r12 == p_1))) (by kernel_rfl) h14 ?_
          refine J_seq ?_
          refine J_region ?_
          refine JS_end (.agg (cNode n_0) :: strV p_1 :: .ref 0 0 0 :: .bad :: (vB false) :: Ty.sl tS r9.1 :: (vB true) :: bz 10 (.agg (cNode n_0) :: (vB r1) :: (vB false) :: (vB false) :: strV p_1 :: .sc (.int .i64 (p_1.length : Int)) :: .sc (.bool (decide ((p_1.length : Int) > 200))) :: .sc (.bool (decide ((p_1.length : Int) > 200))) :: .bad :: .tup [Ty.sl tS r9.1, .sc (.bool r9.2)] :: strV p_1 :: .tup [Ty.sl tS r9.1, .sc (.bool r9.2)] :: Ty.sl tS r9.1 :: (vB true) :: (vB true) :: (vB true) :: Ty.sl tS r9.1 :: strV r12 :: strV p_1 :: .sc (.bool (!(r12 == p_1))) :: .sc (.bool (!(r12 == p_1))) :: bz 84 [])) [.box 25 (cNode n_0)] (by kernel_rfl) ?_
          refine JK_sq ?_
          refine J_ret ?_
          refine JK_sq_ret ?_
          refine JK_nil ?_
          obtain rfl := Option.some.inj h
          exact ret_A (r := (vB false)) (r' := (vB false)) (.inl rfl) (by kernel_rfl) (by kernel_rfl) rfl ⟨by kernel_rfl, rfl⟩
        · rw [if_neg (ne_true h14)] at h
          refine J_condF (v := (!(r12 == p_1))) (by kernel_rfl) h14 ?_
          refine J_skip ?_
          refine JK_sq ?_
          refine J_seq ?_
          refine J_region ?_
          refine JS_seg 1 (.agg (cNode n_0) :: strV p_1 :: .ref 0 0 0 :: .bad :: (vB false) :: Ty.sl tS r9.1 :: (vB true) :: bz 10 (.agg (cNode n_0) :: (vB r1) :: (vB false) :: (vB false) :: strV p_1 :: .sc (.int .i64 (p_1.length : Int)) :: .sc (.bool (decide ((p_1.length : Int) > 200))) :: .sc (.bool (decide ((p_1.length : Int) > 200))) :: .bad :: .tup [Ty.sl tS r9.1, .sc (.bool r9.2)] :: strV p_1 :: .tup [Ty.sl tS r9.1, .sc (.bool r9.2)] :: Ty.sl tS r9.1 :: (vB true) :: (vB true) :: (vB true) :: Ty.sl tS r9.1 :: strV r12 :: strV p_1 :: .sc (.bool (!(r12 == p_1))) :: .sc (.bool (!(r12 == p_1))) :: .agg (cNode n_0) :: bz 83 [])) [.box 25 (cNode n_0)] (by kernel_rfl) ?_
          obtain ⟨r15, h16, h⟩ := Option.bind_eq_some_iff.1 h
          refine JS_upd (fun s => fcall E0 24 [.agg (cNode n_0)] s) (by kernel_rfl) (ref12_Walk_C n_0 _ _ h16) ?_
          refine JS_end (.agg (cNode n_0) :: strV p_1 :: .ref 0 0 0 :: .bad :: (vB false) :: Ty.sl tS r9.1 :: (vB true) :: Ty.sl tSpot r15 :: bz 9 (.agg (cNode n_0) :: (vB r1) :: (vB false) :: (vB false) :: strV p_1 :: .sc (.int .i64 (p_1.length : Int)) :: .sc (.bool (decide ((p_1.length : Int) > 200))) :: .sc (.bool (decide ((p_1.length : Int) > 200))) :: .bad :: .tup [Ty.sl tS r9.1, .sc (.bool r9.2)] :: strV p_1 :: .tup [Ty.sl tS r9.1, .sc (.bool r9.2)] :: Ty.sl tS r9.1 :: (vB true) :: (vB true) :: (vB true) :: Ty.sl tS r9.1 :: strV r12 :: strV p_1 :: .sc (.bool (!(r12 == p_1))) :: .sc (.bool (!(r12 == p_1))) :: .agg (cNode n_0) :: Ty.sl tSpot r15 :: bz 82 [])) [.box 25 (cNode n_0)] (by kernel_rfl) ?_
          refine JK_sq ?_
          refine J_seq ?_
          refine J_seq ?_
          refine J_region ?_
          refine JS_end (.agg (cNode n_0) :: strV p_1 :: .ref 0 0 0 :: .bad :: (vB false) :: Ty.sl tS r9.1 :: (vB true) :: Ty.sl tSpot r15 :: (vI 0) :: bz 8 (.agg (cNode n_0) :: (vB r1) :: (vB false) :: (vB false) :: strV p_1 :: .sc (.int .i64 (p_1.length : Int)) :: .sc (.bool (decide ((p_1.length : Int) > 200))) :: .sc (.bool (decide ((p_1.length : Int) > 200))) :: .bad :: .tup [Ty.sl tS r9.1, .sc (.bool r9.2)] :: strV p_1 :: .tup [Ty.sl tS r9.1, .sc (.bool r9.2)] :: Ty.sl tS r9.1 :: (vB true) :: (vB true) :: (vB true) :: Ty.sl tS r9.1 :: strV r12 :: strV p_1 :: .sc (.bool (!(r12 == p_1))) :: .sc (.bool (!(r12 == p_1))) :: .agg (cNode n_0) :: Ty.sl tSpot r15 :: bz 82 [])) [.box 25 (cNode n_0)] (by kernel_rfl) ?_
          refine JK_sq ?_
          refine J_block ?_
          obtain ⟨r52, h53, h⟩ := Option.bind_eq_some_iff.1 h
          refine J_loop (γ := Unit) h53 1 (.agg (cNode n_0) :: strV p_1 :: .ref 0 0 0 :: .bad :: (vB false) :: Ty.sl tS r9.1 :: (vB true) :: Ty.sl tSpot r15 :: (vI 0) :: bz 8 (.agg (cNode n_0) :: (vB r1) :: (vB false) :: (vB false) :: strV p_1 :: .sc (.int .i64 (p_1.length : Int)) :: .sc (.bool (decide ((p_1.length : Int) > 200))) :: .sc (.bool (decide ((p_1.length : Int) > 200))) :: .bad :: .tup [Ty.sl tS r9.1, .sc (.bool r9.2)] :: strV p_1 :: .tup [Ty.sl tS r9.1, .sc (.bool r9.2)] :: Ty.sl tS r9.1 :: (vB true) :: (vB true) :: (vB true) :: Ty.sl tS r9.1 :: strV r12 :: strV p_1 :: .sc (.bool (!(r12 == p_1))) :: .sc (.bool (!(r12 == p_1))) :: .agg (cNode n_0) :: Ty.sl tSpot r15 :: bz 82 [])) [.box 25 (cNode n_0)] (fun s g => (.bad :: .bad :: .ref 0 0 0 :: bz 4 (Ty.sl tSpot r15 :: (vI s) :: bz 113 []))) (fun s g => [.box 25 (cNode n_0)]) (fun r g => match r with | (.inl r) => (.exit 0, (.bad :: .bad :: .ref 0 0 0 :: bz 4 (Ty.sl tSpot r15 :: bz 114 [])), [.box 25 (cNode n_0)]) | (.inr r) => (.ret, (.bad :: .bad :: .ref 0 0 0 :: .bad :: (vB r) :: .bad :: .bad :: Ty.sl tSpot r15 :: bz 114 []), [.box 25 (cNode n_0)])) () (by kernel_rfl) (by kernel_rfl) (kill_go (mid := (.bad :: .bad :: .ref 0 0 0 :: bz 4 (Ty.sl tSpot r15 :: (vI 0) :: bz 113 []))) (by kernel_rfl) (mB (mB (mC (by kernel_rfl) (mZ 4 (mC (sl_scrub tSpot _ _) (mC (by kernel_rfl) (mZ 113 mN)))))))) (cut_go (mid := [.box 25 (cNode n_0)]) (by kernel_rfl) (oC (oB (lC (by kernel_rfl) (lC (sl_scrub tProp _ _) (lC (sl_scrub tNode _ _) lN)))) oN)) ?_ ?_
          · rintro v17 _ y h
            unfold law16_PathWalk_l1 at h
            refine J_seq ?_
            refine J_seq ?_
            refine J_region ?_
            refine JS_end (.bad :: .bad :: .ref 0 0 0 :: bz 4 (Ty.sl tSpot r15 :: (vI v17) :: bz 31 ((vI v17) :: Ty.sl tSpot r15 :: .sc (.int .i64 (r15.length : Int)) :: .sc (.bool (decide (v17 < (r15.length : Int)))) :: bz 78 []))) [.box 25 (cNode n_0)] (by kernel_rfl) ?_
            refine JK_sq ?_
            rcases bool_cases (decide (v17 < (r15.length : Int))) with h18 | h18
            · rw [if_pos h18] at h
              refine J_condT (v := (decide (v17 < (r15.length : Int)))) (by kernel_rfl) h18 ?_
              refine J_skip ?_
              refine JK_sq ?_
              refine J_seq ?_
              refine J_block ?_
              refine J_seq ?_
              refine J_region ?_
              refine JS_seg 2 (.bad :: .bad :: .ref 0 0 0 :: bz 4 (Ty.sl tSpot r15 :: (vI v17) :: bz 31 ((vI v17) :: Ty.sl tSpot r15 :: .sc (.int .i64 (r15.length : Int)) :: .sc (.bool (decide (v17 < (r15.length : Int)))) :: .bad :: .bad :: Ty.sl tSpot r15 :: (vI v17) :: bz 74 []))) [.box 25 (cNode n_0)] (by kernel_rfl) ?_
              obtain ⟨x19, h20, h⟩ := Option.bind_eq_some_iff.1 h
              refine JS_val (fun s => aindexAddr E0.tb s 41 (Ty.sl tSpot r15) ((vI v17))) (by kernel_rfl) (sl_addr tSpot tb_41 rfl tb_44 rfl h20) ?_
              refine JS_seg 5 (.bad :: .bad :: .ref 0 0 0 :: bz 4 (Ty.sl tSpot r15 :: (vI v17) :: bz 31 ((vI v17) :: Ty.sl tSpot r15 :: .sc (.int .i64 (r15.length : Int)) :: .sc (.bool (decide (v17 < (r15.length : Int)))) :: .bad :: .bad :: Ty.sl tSpot r15 :: (vI v17) :: .fp (List.flatMap (Ty.cells tSpot) r15) (v17.toNat * Ty.size tSpot) :: .fp (List.flatMap (Ty.cells tSpot) r15) (v17.toNat * Ty.size tSpot + 1) :: .fp (List.flatMap (Ty.cells tSpot) r15) (v17.toNat * Ty.size tSpot + 3) :: bz 71 []))) [.box 25 (cNode n_0)] (by kernel_rfl) ?_
              refine JS_val (fun s => aload E0.tb s 23 (.fp (List.flatMap (Ty.cells tSpot) r15) (v17.toNat * Ty.size tSpot + 3))) (by kernel_rfl) (fp_load1 tSpot (o := 3) tb_23 rfl h20 (by rw [tSpot_cells]; rfl)) ?_
              refine JS_end (.bad :: .bad :: .ref 0 0 0 :: bz 4 (Ty.sl tSpot r15 :: (vI v17) :: Ty.sl tNode x19.node.kids :: bz 30 ((vI v17) :: Ty.sl tSpot r15 :: .sc (.int .i64 (r15.length : Int)) :: .sc (.bool (decide (v17 < (r15.length : Int)))) :: .bad :: .bad :: Ty.sl tSpot r15 :: (vI v17) :: .fp (List.flatMap (Ty.cells tSpot) r15) (v17.toNat * Ty.size tSpot) :: .fp (List.flatMap (Ty.cells tSpot) r15) (v17.toNat * Ty.size tSpot + 1) :: .fp (List.flatMap (Ty.cells tSpot) r15) (v17.toNat * Ty.size tSpot + 3) :: Ty.sl tNode x19.node.kids :: bz 70 []))) [.box 25 (cNode n_0)] (by kernel_rfl) ?_
              refine JK_sq ?_
              refine J_seq ?_
              refine J_region ?_
              refine JS_end (.bad :: .bad :: .ref 0 0 0 :: bz 4 (Ty.sl tSpot r15 :: (vI v17) :: Ty.sl tNode x19.node.kids :: (vI 0) :: bz 29 ((vI v17) :: Ty.sl tSpot r15 :: .sc (.int .i64 (r15.length : Int)) :: .sc (.bool (decide (v17 < (r15.length : Int)))) :: .bad :: .bad :: Ty.sl tSpot r15 :: (vI v17) :: .fp (List.flatMap (Ty.cells tSpot) r15) (v17.toNat * Ty.size tSpot) :: .fp (List.flatMap (Ty.cells tSpot) r15) (v17.toNat * Ty.size tSpot + 1) :: .fp (List.flatMap (Ty.cells tSpot) r15) (v17.toNat * Ty.size tSpot + 3) :: Ty.sl tNode x19.node.kids :: bz 70 []))) [.box 25 (cNode n_0)] (by kernel_rfl) ?_
              refine JK_sq ?_
              refine J_block ?_
              obtain ⟨r48, h49, h⟩ := Option.bind_eq_some_iff.1 h
              refine J_loop (γ := Unit) h49 1 (.bad :: .bad :: .ref 0 0 0 :: bz 4 (Ty.sl tSpot r15 :: (vI v17) :: Ty.sl tNode x19.node.kids :: (vI 0) :: bz 29 ((vI v17) :: Ty.sl tSpot r15 :: .sc (.int .i64 (r15.length : Int)) :: .sc (.bool (decide (v17 < (r15.length : Int)))) :: .bad :: .bad :: Ty.sl tSpot r15 :: (vI v17) :: .fp (List.flatMap (Ty.cells tSpot) r15) (v17.toNat * Ty.size tSpot) :: .fp (List.flatMap (Ty.cells tSpot) r15) (v17.toNat * Ty.size tSpot + 1) :: .fp (List.flatMap (Ty.cells tSpot) r15) (v17.toNat * Ty.size tSpot + 3) :: Ty.sl tNode x19.node.kids :: bz 70 []))) [.box 25 (cNode n_0)] (fun s g => (.bad :: .bad :: .ref 0 0 0 :: bz 4 (Ty.sl tSpot r15 :: (vI v17) :: Ty.sl tNode x19.node.kids :: (vI s) :: bz 111 []))) (fun s g => [.box 25 (cNode n_0)]) (fun r g => match r with | (.inl r) => (.exit 2, (.bad :: .bad :: .ref 0 0 0 :: bz 4 (Ty.sl tSpot r15 :: (vI v17) :: bz 113 [])), [.box 25 (cNode n_0)]) | (.inr r) => (.ret, (.bad :: .bad :: .ref 0 0 0 :: .bad :: (vB r) :: .bad :: .bad :: Ty.sl tSpot r15 :: (vI v17) :: bz 113 []), [.box 25 (cNode n_0)])) () (by kernel_rfl) (by kernel_rfl) (kill_go (mid := (.bad :: .bad :: .ref 0 0 0 :: bz 4 (Ty.sl tSpot r15 :: (vI v17) :: Ty.sl tNode x19.node.kids :: (vI 0) :: bz 111 []))) (by kernel_rfl) (mB (mB (mC (by kernel_rfl) (mZ 4 (mC (sl_scrub tSpot _ _) (mC (by kernel_rfl) (mC (sl_scrub tNode _ _) (mC (by kernel_rfl) (mZ 111 mN)))))))))) (cut_go (mid := [.box 25 (cNode n_0)]) (by kernel_rfl) (oC (oB (lC (by kernel_rfl) (lC (sl_scrub tProp _ _) (lC (sl_scrub tNode _ _) lN)))) oN)) ?_ ?_
              · rintro v21 _ y h
                unfold law16_PathWalk_l2 at h
                refine J_seq ?_
                refine J_seq ?_
                refine J_region ?_
                refine JS_end (.bad :: .bad :: .ref 0 0 0 :: bz 4 (Ty.sl tSpot r15 :: (vI v17) :: Ty.sl tNode x19.node.kids :: (vI v21) :: bz 41 ((vI v21) :: Ty.sl tNode x19.node.kids :: .sc (.int .i64 (x19.node.kids.length : Int)) :: .sc (.bool (decide (v21 < (x19.node.kids.length : Int)))) :: bz 66 []))) [.box 25 (cNode n_0)] (by kernel_rfl) ?_
                refine JK_sq ?_
                rcases bool_cases (decide (v21 < (x19.node.kids.length : Int))) with h22 | h22
                · rw [if_pos h22] at h
                  refine J_condT (v := (decide (v21 < (x19.node.kids.length : Int)))) (by kernel_rfl) h22 ?_
                  refine J_skip ?_
                  refine JK_sq ?_
                  refine J_seq ?_
                  refine J_block ?_
                  refine J_seq ?_
                  refine J_seq ?_
                  refine J_region ?_
                  refine JS_seg 2 (.bad :: .bad :: .ref 0 0 0 :: bz 4 (Ty.sl tSpot r15 :: (vI v17) :: Ty.sl tNode x19.node.kids :: (vI v21) :: bz 41 ((vI v21) :: Ty.sl tNode x19.node.kids :: .sc (.int .i64 (x19.node.kids.length : Int)) :: .sc (.bool (decide (v21 < (x19.node.kids.length : Int)))) :: .bad :: .bad :: .bad :: Ty.sl tNode x19.node.kids :: (vI v21) :: bz 61 []))) [.box 25 (cNode n_0)] (by kernel_rfl) ?_
                  obtain ⟨x23, h24, h⟩ := Option.bind_eq_some_iff.1 h
                  refine JS_val (fun s => aindexAddr E0.tb s 23 (Ty.sl tNode x19.node.kids) ((vI v21))) (by kernel_rfl) (sl_addr tNode tb_23 rfl tb_25 rfl h24) ?_
                  refine JS_seg 4 (.bad :: .bad :: .ref 0 0 0 :: bz 4 (Ty.sl tSpot r15 :: (vI v17) :: Ty.sl tNode x19.node.kids :: (vI v21) :: bz 41 ((vI v21) :: Ty.sl tNode x19.node.kids :: .sc (.int .i64 (x19.node.kids.length : Int)) :: .sc (.bool (decide (v21 < (x19.node.kids.length : Int)))) :: .bad :: .bad :: .bad :: Ty.sl tNode x19.node.kids :: (vI v21) :: .fp (List.flatMap (Ty.cells tNode) x19.node.kids) (v21.toNat * Ty.size tNode) :: .fp (List.flatMap (Ty.cells tNode) x19.node.kids) (v21.toNat * Ty.size tNode + 0) :: bz 59 []))) [.box 25 (cNode n_0)] (by kernel_rfl) ?_
                  refine JS_val (fun s => aload E0.tb s 9 (.fp (List.flatMap (Ty.cells tNode) x19.node.kids) (v21.toNat * Ty.size tNode + 0))) (by kernel_rfl) (fp_load1 tNode (o := 0) tb_9 rfl h24 (by rw [tNode_cells]; rfl)) ?_
                  refine JS_seg 5 (.bad :: .bad :: .ref 0 0 0 :: bz 4 (Ty.sl tSpot r15 :: (vI v17) :: Ty.sl tNode x19.node.kids :: (vI v21) :: bz 41 ((vI v21) :: Ty.sl tNode x19.node.kids :: .sc (.int .i64 (x19.node.kids.length : Int)) :: .sc (.bool (decide (v21 < (x19.node.kids.length : Int)))) :: .bad :: .bad :: .bad :: Ty.sl tNode x19.node.kids :: (vI v21) :: .fp (List.flatMap (Ty.cells tNode) x19.node.kids) (v21.toNat * Ty.size tNode) :: .fp (List.flatMap (Ty.cells tNode) x19.node.kids) (v21.toNat * Ty.size tNode + 0) :: strV x23.name :: bz 58 []))) [.box 25 (cNode n_0)] (by kernel_rfl) ?_
                  obtain ⟨s25, h26, h⟩ := Option.bind_eq_some_iff.1 h
                  refine JS_val (fun s => abin E0.tb s .add 9 (strV [47]) (strV x23.name)) (by kernel_rfl) (str_cat h26) ?_
                  refine JS_seg 6 (.bad :: .bad :: .ref 0 0 0 :: bz 4 (Ty.sl tSpot r15 :: (vI v17) :: Ty.sl tNode x19.node.kids :: (vI v21) :: bz 41 ((vI v21) :: Ty.sl tNode x19.node.kids :: .sc (.int .i64 (x19.node.kids.length : Int)) :: .sc (.bool (decide (v21 < (x19.node.kids.length : Int)))) :: .bad :: .bad :: .bad :: Ty.sl tNode x19.node.kids :: (vI v21) :: .fp (List.flatMap (Ty.cells tNode) x19.node.kids) (v21.toNat * Ty.size tNode) :: .fp (List.flatMap (Ty.cells tNode) x19.node.kids) (v21.toNat * Ty.size tNode + 0) :: strV x23.name :: strV s25 :: bz 57 []))) [.box 25 (cNode n_0)] (by kernel_rfl) ?_
                  obtain ⟨r27, h28, h⟩ := Option.bind_eq_some_iff.1 h
                  refine JS_upd (fun s => fcall E0 22 [strV s25] s) (by kernel_rfl) (path_Parts_C s25 _ _ h28) ?_
                  refine JS_end (.bad :: .bad :: .ref 0 0 0 :: bz 4 (Ty.sl tSpot r15 :: (vI v17) :: Ty.sl tNode x19.node.kids :: (vI v21) :: Ty.sl tS r27.1 :: .sc (.bool r27.2) :: bz 39 ((vI v21) :: Ty.sl tNode x19.node.kids :: .sc (.int .i64 (x19.node.kids.length : Int)) :: .sc (.bool (decide (v21 < (x19.node.kids.length : Int)))) :: .bad :: .bad :: .tup [Ty.sl tS r27.1, .sc (.bool r27.2)] :: Ty.sl tNode x19.node.kids :: (vI v21) :: .fp (List.flatMap (Ty.cells tNode) x19.node.kids) (v21.toNat * Ty.size tNode) :: .fp (List.flatMap (Ty.cells tNode) x19.node.kids) (v21.toNat * Ty.size tNode + 0) :: strV x23.name :: strV s25 :: .tup [Ty.sl tS r27.1, .sc (.bool r27.2)] :: Ty.sl tS r27.1 :: .sc (.bool r27.2) :: bz 54 []))) [.box 25 (cNode n_0)] (by kernel_rfl) ?_
                  refine JK_sq ?_
                  refine J_seq ?_
                  refine J_region ?_
                  refine JS_seg 3 (.bad :: .bad :: .ref 0 0 0 :: bz 4 (Ty.sl tSpot r15 :: (vI v17) :: Ty.sl tNode x19.node.kids :: (vI v21) :: Ty.sl tS r27.1 :: .sc (.bool r27.2) :: bz 39 ((vI v21) :: Ty.sl tNode x19.node.kids :: .sc (.int .i64 (x19.node.kids.length : Int)) :: .sc (.bool (decide (v21 < (x19.node.kids.length : Int)))) :: .bad :: .bad :: .tup [Ty.sl tS r27.1, .sc (.bool r27.2)] :: Ty.sl tNode x19.node.kids :: (vI v21) :: .fp (List.flatMap (Ty.cells tNode) x19.node.kids) (v21.toNat * Ty.size tNode) :: .fp (List.flatMap (Ty.cells tNode) x19.node.kids) (v21.toNat * Ty.size tNode + 0) :: strV x23.name :: strV s25 :: .tup [Ty.sl tS r27.1, .sc (.bool r27.2)] :: Ty.sl tS r27.1 :: .sc (.bool r27.2) :: .sc (.bool r27.2) :: .sc (.bool (!r27.2)) :: .sc (.bool (!r27.2)) :: bz 51 []))) [.box 25 (cNode n_0)] (by kernel_rfl) ?_
                  rcases bool_cases (!r27.2) with h29 | h29
                  · rw [if_pos h29] at h
                    refine JS_cast (tm' := (.bad :: .bad :: .ref 0 0 0 :: bz 4 (Ty.sl tSpot r15 :: (vI v17) :: Ty.sl tNode x19.node.kids :: (vI v21) :: Ty.sl tS r27.1 :: .sc (.bool r27.2) :: bz 39 ((vI v21) :: Ty.sl tNode x19.node.kids :: .sc (.int .i64 (x19.node.kids.length : Int)) :: .sc (.bool (decide (v21 < (x19.node.kids.length : Int)))) :: .bad :: .bad :: .tup [Ty.sl tS r27.1, .sc (.bool r27.2)] :: Ty.sl tNode x19.node.kids :: (vI v21) :: .fp (List.flatMap (Ty.cells tNode) x19.node.kids) (v21.toNat * Ty.size tNode) :: .fp (List.flatMap (Ty.cells tNode) x19.node.kids) (v21.toNat * Ty.size tNode + 0) :: strV x23.name :: strV s25 :: .tup [Ty.sl tS r27.1, .sc (.bool r27.2)] :: Ty.sl tS r27.1 :: .sc (.bool r27.2) :: .sc (.bool r27.2) :: (vB true) :: (vB true) :: bz 51 [])))) (by rw [h29]) rfl ?_
                    refine JS_end (.bad :: .bad :: .ref 0 0 0 :: bz 4 (Ty.sl tSpot r15 :: (vI v17) :: Ty.sl tNode x19.node.kids :: (vI v21) :: Ty.sl tS r27.1 :: .sc (.bool r27.2) :: bz 39 ((vI v21) :: Ty.sl tNode x19.node.kids :: .sc (.int .i64 (x19.node.kids.length : Int)) :: .sc (.bool (decide (v21 < (x19.node.kids.length : Int)))) :: .bad :: .bad :: .tup [Ty.sl tS r27.1, .sc (.bool r27.2)] :: Ty.sl tNode x19.node.kids :: (vI v21) :: .fp (List.flatMap (Ty.cells tNode) x19.node.kids) (v21.toNat * Ty.size tNode) :: .fp (List.flatMap (Ty.cells tNode) x19.node.kids) (v21.toNat * Ty.size tNode + 0) :: strV x23.name :: strV s25 :: .tup [Ty.sl tS r27.1, .sc (.bool r27.2)] :: Ty.sl tS r27.1 :: .sc (.bool r27.2) :: .sc (.bool r27.2) :: (vB true) :: (vB true) :: .tup [] :: .tup [] :: .tup [] :: (vB true) :: bz 47 []))) [.box 25 (cNode n_0)] (by kernel_rfl) ?_
                    refine JK_sq ?_
                    refine J_condT (v := true) (by kernel_rfl) rfl ?_
                    refine J_seq ?_
                    refine J_region ?_
                    refine JS_seg 0 (.bad :: .bad :: .ref 0 0 0 :: bz 4 (Ty.sl tSpot r15 :: (vI v17) :: Ty.sl tNode x19.node.kids :: (vI v21) :: Ty.sl tS r27.1 :: .sc (.bool r27.2) :: bz 39 ((vI v21) :: Ty.sl tNode x19.node.kids :: .sc (.int .i64 (x19.node.kids.length : Int)) :: .sc (.bool (decide (v21 < (x19.node.kids.length : Int)))) :: .bad :: .bad :: .tup [Ty.sl tS r27.1, .sc (.bool r27.2)] :: Ty.sl tNode x19.node.kids :: (vI v21) :: .fp (List.flatMap (Ty.cells tNode) x19.node.kids) (v21.toNat * Ty.size tNode) :: .fp (List.flatMap (Ty.cells tNode) x19.node.kids) (v21.toNat * Ty.size tNode + 0) :: strV x23.name :: strV s25 :: .tup [Ty.sl tS r27.1, .sc (.bool r27.2)] :: Ty.sl tS r27.1 :: .sc (.bool r27.2) :: .sc (.bool r27.2) :: (vB true) :: (vB true) :: .tup [] :: .tup [] :: .tup [] :: (vB true) :: bz 47 []))) [.box 25 (cNode n_0)] (by kernel_rfl) ?_
                    obtain ⟨r30, h31, h⟩ := Option.bind_eq_some_iff.1 h
                    refine JS_upd (fun s => fcall E0 10 [] s) (by kernel_rfl) (law16_awake_C _ _ h31) ?_
                    refine JS_end (.bad :: .bad :: .ref 0 0 0 :: .bad :: (vB r30) :: .bad :: .bad :: Ty.sl tSpot r15 :: (vI v17) :: Ty.sl tNode x19.node.kids :: (vI v21) :: Ty.sl tS r27.1 :: .sc (.bool r27.2) :: bz 39 ((vI v21) :: Ty.sl tNode x19.node.kids :: .sc (.int .i64 (x19.node.kids.length : Int)) :: .sc (.bool (decide (v21 < (x19.node.kids.length : Int)))) :: .bad :: .bad :: .tup [Ty.sl tS r27.1, .sc (.bool r27.2)] :: Ty.sl tNode x19.node.kids :: (vI v21) :: .fp (List.flatMap (Ty.cells tNode) x19.node.kids) (v21.toNat * Ty.size tNode) :: .fp (List.flatMap (Ty.cells tNode) x19.node.kids) (v21.toNat * Ty.size tNode + 0) :: strV x23.name :: strV s25 :: .tup [Ty.sl tS r27.1, .sc (.bool r27.2)] :: Ty.sl tS r27.1 :: .sc (.bool r27.2) :: .sc (.bool r27.2) :: (vB true) :: (vB true) :: .tup [] :: .tup [] :: .tup [] :: (vB true) :: (vB r30) :: bz 46 [])) [.box 25 (cNode n_0)] (by kernel_rfl) ?_
                    refine JK_sq ?_
                    refine J_ret ?_
                    refine JK_sq_ret ?_
                    refine JK_bl_ret ?_
                    refine JK_sq_ret ?_
                    refine JK_nil ?_
                    obtain rfl := Option.some.inj h
                    exact turn_ret (tm' := (.bad :: .bad :: .ref 0 0 0 :: .bad :: (vB r30) :: .bad :: .bad :: Ty.sl tSpot r15 :: (vI v17) :: bz 113 [])) (st' := [.box 25 (cNode n_0)]) () (kill_go (mid := (.bad :: .bad :: .ref 0 0 0 :: .bad :: (vB r30) :: .bad :: .bad :: Ty.sl tSpot r15 :: (vI v17) :: bz 113 [])) (by kernel_rfl) (mB (mB (mC (by kernel_rfl) (mB (mC (by kernel_rfl) (mB (mB (mC (sl_scrub tSpot _ _) (mC (by kernel_rfl) (mZ 113 mN))))))))))) (cut_go (mid := [.box 25 (cNode n_0)]) (by kernel_rfl) (oC (oB (lC (by kernel_rfl) (lC (sl_scrub tProp _ _) (lC (sl_scrub tNode _ _) lN)))) oN)) (by kernel_rfl)
                  · rw [if_neg (ne_true h29)] at h
                    refine JS_cast (tm' := (.bad :: .bad :: .ref 0 0 0 :: bz 4 (Ty.sl tSpot r15 :: (vI v17) :: Ty.sl tNode x19.node.kids :: (vI v21) :: Ty.sl tS r27.1 :: .sc (.bool r27.2) :: bz 39 ((vI v21) :: Ty.sl tNode x19.node.kids :: .sc (.int .i64 (x19.node.kids.length : Int)) :: .sc (.bool (decide (v21 < (x19.node.kids.length : Int)))) :: .bad :: .bad :: .tup [Ty.sl tS r27.1, .sc (.bool r27.2)] :: Ty.sl tNode x19.node.kids :: (vI v21) :: .fp (List.flatMap (Ty.cells tNode) x19.node.kids) (v21.toNat * Ty.size tNode) :: .fp (List.flatMap (Ty.cells tNode) x19.node.kids) (v21.toNat * Ty.size tNode + 0) :: strV x23.name :: strV s25 :: .tup [Ty.sl tS r27.1, .sc (.bool r27.2)] :: Ty.sl tS r27.1 :: .sc (.bool r27.2) :: .sc (.bool r27.2) :: (vB false) :: (vB false) :: bz 51 [])))) (by rw [h29]) rfl ?_
                    refine JS_end (.bad :: .bad :: .ref 0 0 0 :: bz 4 (Ty.sl tSpot r15 :: (vI v17) :: Ty.sl tNode x19.node.kids :: (vI v21) :: Ty.sl tS r27.1 :: .sc (.bool r27.2) :: bz 39 ((vI v21) :: Ty.sl tNode x19.node.kids :: .sc (.int .i64 (x19.node.kids.length : Int)) :: .sc (.bool (decide (v21 < (x19.node.kids.length : Int)))) :: .bad :: .bad :: .tup [Ty.sl tS r27.1, .sc (.bool r27.2)] :: Ty.sl tNode x19.node.kids :: (vI v21) :: .fp (List.flatMap (Ty.cells tNode) x19.node.kids) (v21.toNat * Ty.size tNode) :: .fp (List.flatMap (Ty.cells tNode) x19.node.kids) (v21.toNat * Ty.size tNode + 0) :: strV x23.name :: strV s25 :: .tup [Ty.sl tS r27.1, .sc (.bool r27.2)] :: Ty.sl tS r27.1 :: .sc (.bool r27.2) :: .sc (.bool r27.2) :: (vB false) :: (vB false) :: Ty.sl tS r27.1 :: .sc (.int .i64 (r27.1.length : Int)) :: .sc (.bool ((r27.1.length : Int) != 1)) :: .sc (.bool ((r27.1.length : Int) != 1)) :: bz 47 []))) [.box 25 (cNode n_0)] (by kernel_rfl) ?_
                    refine JK_sq ?_
                    rcases bool_cases ((r27.1.length : Int) != 1) with h32 | h32
                    · rw [if_pos h32] at h
                      refine J_condT (v := ((r27.1.length : Int) != 1)) (by kernel_rfl) h32 ?_
                      refine J_seq ?_
                      refine J_region ?_
                      refine JS_seg 0 (.bad :: .bad :: .ref 0 0 0 :: bz 4 (Ty.sl tSpot r15 :: (vI v17) :: Ty.sl tNode x19.node.kids :: (vI v21) :: Ty.sl tS r27.1 :: .sc (.bool r27.2) :: bz 39 ((vI v21) :: Ty.sl tNode x19.node.kids :: .sc (.int .i64 (x19.node.kids.length : Int)) :: .sc (.bool (decide (v21 < (x19.node.kids.length : Int)))) :: .bad :: .bad :: .tup [Ty.sl tS r27.1, .sc (.bool r27.2)] :: Ty.sl tNode x19.node.kids :: (vI v21) :: .fp (List.flatMap (Ty.cells tNode) x19.node.kids) (v21.toNat * Ty.size tNode) :: .fp (List.flatMap (Ty.cells tNode) x19.node.kids) (v21.toNat * Ty.size tNode + 0) :: strV x23.name :: strV s25 :: .tup [Ty.sl tS r27.1, .sc (.bool r27.2)] :: Ty.sl tS r27.1 :: .sc (.bool r27.2) :: .sc (.bool r27.2) :: (vB false) :: (vB false) :: Ty.sl tS r27.1 :: .sc (.int .i64 (r27.1.length : Int)) :: .sc (.bool ((r27.1.length : Int) != 1)) :: .sc (.bool ((r27.1.length : Int) != 1)) :: bz 47 []))) [.box 25 (cNode n_0)] (by kernel_rfl) ?_
                      obtain ⟨r33, h34, h⟩ := Option.bind_eq_some_iff.1 h
                      refine JS_upd (fun s => fcall E0 10 [] s) (by kernel_rfl) (law16_awake_C _ _ h34) ?_
                      refine JS_end (.bad :: .bad :: .ref 0 0 0 :: .bad :: (vB r33) :: .bad :: .bad :: Ty.sl tSpot r15 :: (vI v17) :: Ty.sl tNode x19.node.kids :: (vI v21) :: Ty.sl tS r27.1 :: .sc (.bool r27.2) :: bz 39 ((vI v21) :: Ty.sl tNode x19.node.kids :: .sc (.int .i64 (x19.node.kids.length : Int)) :: .sc (.bool (decide (v21 < (x19.node.kids.length : Int)))) :: .bad :: .bad :: .tup [Ty.sl tS r27.1, .sc (.bool r27.2)] :: Ty.sl tNode x19.node.kids :: (vI v21) :: .fp (List.flatMap (Ty.cells tNode) x19.node.kids) (v21.toNat * Ty.size tNode) :: .fp (List.flatMap (Ty.cells tNode) x19.node.kids) (v21.toNat * Ty.size tNode + 0) :: strV x23.name :: strV s25 :: .tup [Ty.sl tS r27.1, .sc (.bool r27.2)] :: Ty.sl tS r27.1 :: .sc (.bool r27.2) :: .sc (.bool r27.2) :: (vB false) :: (vB false) :: Ty.sl tS r27.1 :: .sc (.int .i64 (r27.1.length : Int)) :: .sc (.bool ((r27.1.length : Int) != 1)) :: .sc (.bool ((r27.1.length : Int) != 1)) :: (vB r33) :: bz 46 [])) [.box 25 (cNode n_0)] (by kernel_rfl) ?_
                      refine JK_sq ?_
                      refine J_ret ?_
                      refine JK_sq_ret ?_
                      refine JK_bl_ret ?_
                      refine JK_sq_ret ?_
                      refine JK_nil ?_
                      obtain rfl := Option.some.inj h
                      exact turn_ret (tm' := (.bad :: .bad :: .ref 0 0 0 :: .bad :: (vB r33) :: .bad :: .bad :: Ty.sl tSpot r15 :: (vI v17) :: bz 113 [])) (st' := [.box 25 (cNode n_0)]) () (kill_go (mid := (.bad :: .bad :: .ref 0 0 0 :: .bad :: (vB r33) :: .bad :: .bad :: Ty.sl tSpot r15 :: (vI v17) :: bz 113 [])) (by kernel_rfl) (mB (mB (mC (by kernel_rfl) (mB (mC (by kernel_rfl) (mB (mB (mC (sl_scrub tSpot _ _) (mC (by kernel_rfl) (mZ 113 mN))))))))))) (cut_go (mid := [.box 25 (cNode n_0)]) (by kernel_rfl) (oC (oB (lC (by kernel_rfl) (lC (sl_scrub tProp _ _) (lC (sl_scrub tNode _ _) lN)))) oN)) (by kernel_rfl)
                    · rw [if_neg (ne_true h32)] at h
                      refine J_condF (v := ((r27.1.length : Int) != 1)) (by kernel_rfl) h32 ?_
                      refine J_skip ?_
                      refine JK_sq ?_
                      refine J_seq ?_
                      refine J_region ?_
                      refine JS_end (.bad :: .bad :: .ref 0 0 0 :: bz 4 (Ty.sl tSpot r15 :: (vI v17) :: Ty.sl tNode x19.node.kids :: (vI v21) :: Ty.sl tS r27.1 :: .sc (.bool r27.2) :: (vI 0) :: bz 38 ((vI v21) :: Ty.sl tNode x19.node.kids :: .sc (.int .i64 (x19.node.kids.length : Int)) :: .sc (.bool (decide (v21 < (x19.node.kids.length : Int)))) :: .bad :: .bad :: .tup [Ty.sl tS r27.1, .sc (.bool r27.2)] :: Ty.sl tNode x19.node.kids :: (vI v21) :: .fp (List.flatMap (Ty.cells tNode) x19.node.kids) (v21.toNat * Ty.size tNode) :: .fp (List.flatMap (Ty.cells tNode) x19.node.kids) (v21.toNat * Ty.size tNode + 0) :: strV x23.name :: strV s25 :: .tup [Ty.sl tS r27.1, .sc (.bool r27.2)] :: Ty.sl tS r27.1 :: .sc (.bool r27.2) :: .sc (.bool r27.2) :: (vB false) :: (vB false) :: Ty.sl tS r27.1 :: .sc (.int .i64 (r27.1.length : Int)) :: .sc (.bool ((r27.1.length : Int) != 1)) :: .sc (.bool ((r27.1.length : Int) != 1)) :: bz 47 []))) [.box 25 (cNode n_0)] (by kernel_rfl) ?_
                      refine JK_sq ?_
                      refine J_block ?_
                      obtain ⟨r44, h45, h⟩ := Option.bind_eq_some_iff.1 h
                      refine J_loop (γ := Unit) h45 1 (.bad :: .bad :: .ref 0 0 0 :: bz 4 (Ty.sl tSpot r15 :: (vI v17) :: Ty.sl tNode x19.node.kids :: (vI v21) :: Ty.sl tS r27.1 :: .sc (.bool r27.2) :: (vI 0) :: bz 38 ((vI v21) :: Ty.sl tNode x19.node.kids :: .sc (.int .i64 (x19.node.kids.length : Int)) :: .sc (.bool (decide (v21 < (x19.node.kids.length : Int)))) :: .bad :: .bad :: .tup [Ty.sl tS r27.1, .sc (.bool r27.2)] :: Ty.sl tNode x19.node.kids :: (vI v21) :: .fp (List.flatMap (Ty.cells tNode) x19.node.kids) (v21.toNat * Ty.size tNode) :: .fp (List.flatMap (Ty.cells tNode) x19.node.kids) (v21.toNat * Ty.size tNode + 0) :: strV x23.name :: strV s25 :: .tup [Ty.sl tS r27.1, .sc (.bool r27.2)] :: Ty.sl tS r27.1 :: .sc (.bool r27.2) :: .sc (.bool r27.2) :: (vB false) :: (vB false) :: Ty.sl tS r27.1 :: .sc (.int .i64 (r27.1.length : Int)) :: .sc (.bool ((r27.1.length : Int) != 1)) :: .sc (.bool ((r27.1.length : Int) != 1)) :: bz 47 []))) [.box 25 (cNode n_0)] (fun s g => (.bad :: .bad :: .ref 0 0 0 :: bz 4 (Ty.sl tSpot r15 :: (vI v17) :: Ty.sl tNode x19.node.kids :: (vI v21) :: .bad :: .bad :: (vI s) :: bz 108 []))) (fun s g => [.box 25 (cNode n_0)]) (fun r g => match r with | (.inl r) => (.exit 4, (.bad :: .bad :: .ref 0 0 0 :: bz 4 (Ty.sl tSpot r15 :: (vI v17) :: Ty.sl tNode x19.node.kids :: (vI v21) :: bz 111 [])), [.box 25 (cNode n_0)]) | (.inr r) => (.ret, (.bad :: .bad :: .ref 0 0 0 :: .bad :: (vB r) :: .bad :: .bad :: Ty.sl tSpot r15 :: (vI v17) :: Ty.sl tNode x19.node.kids :: (vI v21) :: bz 111 []), [.box 25 (cNode n_0)])) () (by kernel_rfl) (by kernel_rfl) (kill_go (mid := (.bad :: .bad :: .ref 0 0 0 :: bz 4 (Ty.sl tSpot r15 :: (vI v17) :: Ty.sl tNode x19.node.kids :: (vI v21) :: .bad :: .bad :: (vI 0) :: bz 108 []))) (by kernel_rfl) (mB (mB (mC (by kernel_rfl) (mZ 4 (mC (sl_scrub tSpot _ _) (mC (by kernel_rfl) (mC (sl_scrub tNode _ _) (mC (by kernel_rfl) (mB (mB (mC (by kernel_rfl) (mZ 108 mN))))))))))))) (cut_go (mid := [.box 25 (cNode n_0)]) (by kernel_rfl) (oC (oB (lC (by kernel_rfl) (lC (sl_scrub tProp _ _) (lC (sl_scrub tNode _ _) lN)))) oN)) ?_ ?_
                      · rintro v35 _ y h
                        unfold law16_PathWalk_l3 at h
                        refine J_seq ?_
                        refine J_seq ?_
                        refine J_region ?_
                        refine JS_end (.bad :: .bad :: .ref 0 0 0 :: bz 4 (Ty.sl tSpot r15 :: (vI v17) :: Ty.sl tNode x19.node.kids :: (vI v21) :: .bad :: .bad :: (vI v35) :: bz 62 ((vI v35) :: (vI v21) :: .sc (.bool (decide (v35 < v21))) :: bz 43 []))) [.box 25 (cNode n_0)] (by kernel_rfl) ?_
                        refine JK_sq ?_
                        rcases bool_cases (decide (v35 < v21)) with h36 | h36
                        · rw [if_pos h36] at h
                          refine J_condT (v := (decide (v35 < v21))) (by kernel_rfl) h36 ?_
                          refine J_skip ?_
                          refine JK_sq ?_
                          refine J_seq ?_
                          refine J_block ?_
                          refine J_seq ?_
                          refine J_draw ?_
                          refine JD_seg [] (.bad :: .bad :: .ref 0 0 0 :: bz 4 (Ty.sl tSpot r15 :: (vI v17) :: Ty.sl tNode x19.node.kids :: (vI v21) :: .bad :: .bad :: (vI v35) :: bz 62 ((vI v35) :: (vI v21) :: .sc (.bool (decide (v35 < v21))) :: bz 43 []))) [.box 25 (cNode n_0)] (by kernel_rfl) (by kernel_rfl) (by kernel_rfl) ?_
                          refine JD_upd (c := .free) (fun s => some (Ty.sl tNode x19.node.kids, [.box 25 (cNode n_0)])) (by kernel_rfl) rfl (by kernel_rfl) ?_
                          refine JD_upd (c := .free) (fun s => some ((vI v21), [.box 25 (cNode n_0)])) (by kernel_rfl) rfl (by kernel_rfl) ?_
                          refine JD_seg [.free, .free] (.bad :: .bad :: .ref 0 0 0 :: bz 4 (Ty.sl tSpot r15 :: (vI v17) :: Ty.sl tNode x19.node.kids :: (vI v21) :: .bad :: .bad :: (vI v35) :: bz 62 ((vI v35) :: (vI v21) :: .sc (.bool (decide (v35 < v21))) :: .bad :: .bad :: Ty.sl tNode x19.node.kids :: (vI v21) :: bz 39 []))) [.box 25 (cNode n_0)] (by kernel_rfl) (by kernel_rfl) (by kernel_rfl) ?_
                          obtain ⟨x37, h38, h⟩ := Option.bind_eq_some_iff.1 h
                          refine JD_val (c := .reads) (fun s => aindexAddr E0.tb s 23 (Ty.sl tNode x19.node.kids) ((vI v21))) (by kernel_rfl) (sl_addr tNode tb_23 rfl tb_25 rfl h38) (by kernel_rfl) ?_
                          refine JD_upd (c := .reads) (fun s => some (.fp (List.flatMap (Ty.cells tNode) x19.node.kids) (v21.toNat * Ty.size tNode + 0), [.box 25 (cNode n_0)])) (by kernel_rfl) rfl (by kernel_rfl) ?_
                          refine JD_seg [.free, .free, .reads, .reads] (.bad :: .bad :: .ref 0 0 0 :: bz 4 (Ty.sl tSpot r15 :: (vI v17) :: Ty.sl tNode x19.node.kids :: (vI v21) :: .bad :: .bad :: (vI v35) :: bz 62 ((vI v35) :: (vI v21) :: .sc (.bool (decide (v35 < v21))) :: .bad :: .bad :: Ty.sl tNode x19.node.kids :: (vI v21) :: .fp (List.flatMap (Ty.cells tNode) x19.node.kids) (v21.toNat * Ty.size tNode) :: .fp (List.flatMap (Ty.cells tNode) x19.node.kids) (v21.toNat * Ty.size tNode + 0) :: bz 37 []))) [.box 25 (cNode n_0)] (by kernel_rfl) (by kernel_rfl) (by kernel_rfl) ?_
                          refine JD_val (c := .reads) (fun s => aload E0.tb s 9 (.fp (List.flatMap (Ty.cells tNode) x19.node.kids) (v21.toNat * Ty.size tNode + 0))) (by kernel_rfl) (fp_load1 tNode (o := 0) tb_9 rfl h38 (by rw [tNode_cells]; rfl)) (by kernel_rfl) ?_
                          refine JD_upd (c := .free) (fun s => some (Ty.sl tNode x19.node.kids, [.box 25 (cNode n_0)])) (by kernel_rfl) rfl (by kernel_rfl) ?_
                          refine JD_upd (c := .free) (fun s => some ((vI v35), [.box 25 (cNode n_0)])) (by kernel_rfl) rfl (by kernel_rfl) ?_
                          refine JD_seg [.free, .free, .reads, .reads, .reads, .free, .free] (.bad :: .bad :: .ref 0 0 0 :: bz 4 (Ty.sl tSpot r15 :: (vI v17) :: Ty.sl tNode x19.node.kids :: (vI v21) :: .bad :: .bad :: (vI v35) :: bz 62 ((vI v35) :: (vI v21) :: .sc (.bool (decide (v35 < v21))) :: .bad :: .bad :: Ty.sl tNode x19.node.kids :: (vI v21) :: .fp (List.flatMap (Ty.cells tNode) x19.node.kids) (v21.toNat * Ty.size tNode) :: .fp (List.flatMap (Ty.cells tNode) x19.node.kids) (v21.toNat * Ty.size tNode + 0) :: strV x37.name :: Ty.sl tNode x19.node.kids :: (vI v35) :: bz 34 []))) [.box 25 (cNode n_0)] (by kernel_rfl) (by kernel_rfl) (by kernel_rfl) ?_
                          obtain ⟨x39, h40, h⟩ := Option.bind_eq_some_iff.1 h
                          refine JD_val (c := .reads) (fun s => aindexAddr E0.tb s 23 (Ty.sl tNode x19.node.kids) ((vI v35))) (by kernel_rfl) (sl_addr tNode tb_23 rfl tb_25 rfl h40) (by kernel_rfl) ?_
                          refine JD_upd (c := .reads) (fun s => some (.fp (List.flatMap (Ty.cells tNode) x19.node.kids) (v35.toNat * Ty.size tNode + 0), [.box 25 (cNode n_0)])) (by kernel_rfl) rfl (by kernel_rfl) ?_
                          refine JD_seg [.free, .free, .reads, .reads, .reads, .free, .free, .reads, .reads] (.bad :: .bad :: .ref 0 0 0 :: bz 4 (Ty.sl tSpot r15 :: (vI v17) :: Ty.sl tNode x19.node.kids :: (vI v21) :: .bad :: .bad :: (vI v35) :: bz 62 ((vI v35) :: (vI v21) :: .sc (.bool (decide (v35 < v21))) :: .bad :: .bad :: Ty.sl tNode x19.node.kids :: (vI v21) :: .fp (List.flatMap (Ty.cells tNode) x19.node.kids) (v21.toNat * Ty.size tNode) :: .fp (List.flatMap (Ty.cells tNode) x19.node.kids) (v21.toNat * Ty.size tNode + 0) :: strV x37.name :: Ty.sl tNode x19.node.kids :: (vI v35) :: .fp (List.flatMap (Ty.cells tNode) x19.node.kids) (v35.toNat * Ty.size tNode) :: .fp (List.flatMap (Ty.cells tNode) x19.node.kids) (v35.toNat * Ty.size tNode + 0) :: bz 32 []))) [.box 25 (cNode n_0)] (by kernel_rfl) (by kernel_rfl) (by kernel_rfl) ?_
                          refine JD_val (c := .reads) (fun s => aload E0.tb s 9 (.fp (List.flatMap (Ty.cells tNode) x19.node.kids) (v35.toNat * Ty.size tNode + 0))) (by kernel_rfl) (fp_load1 tNode (o := 0) tb_9 rfl h40 (by rw [tNode_cells]; rfl)) (by kernel_rfl) ?_
                          refine JD_seg [.free, .free, .reads, .reads, .reads, .free, .free, .reads, .reads, .reads] (.bad :: .bad :: .ref 0 0 0 :: bz 4 (Ty.sl tSpot r15 :: (vI v17) :: Ty.sl tNode x19.node.kids :: (vI v21) :: .bad :: .bad :: (vI v35) :: bz 62 ((vI v35) :: (vI v21) :: .sc (.bool (decide (v35 < v21))) :: .bad :: .bad :: Ty.sl tNode x19.node.kids :: (vI v21) :: .fp (List.flatMap (Ty.cells tNode) x19.node.kids) (v21.toNat * Ty.size tNode) :: .fp (List.flatMap (Ty.cells tNode) x19.node.kids) (v21.toNat * Ty.size tNode + 0) :: strV x37.name :: Ty.sl tNode x19.node.kids :: (vI v35) :: .fp (List.flatMap (Ty.cells tNode) x19.node.kids) (v35.toNat * Ty.size tNode) :: .fp (List.flatMap (Ty.cells tNode) x19.node.kids) (v35.toNat * Ty.size tNode + 0) :: strV x39.name :: bz 31 []))) [.box 25 (cNode n_0)] (by kernel_rfl) (by kernel_rfl) (by kernel_rfl) ?_
                          refine JD_val (c := .reads) (fun s => abin E0.tb s .eql 9 (strV x37.name) (strV x39.name)) (by kernel_rfl) (str_eq x37.name x39.name) (by kernel_rfl) ?_
                          refine JD_seg [.free, .free, .reads, .reads, .reads, .free, .free, .reads, .reads, .reads, .reads] (.bad :: .bad :: .ref 0 0 0 :: bz 4 (Ty.sl tSpot r15 :: (vI v17) :: Ty.sl tNode x19.node.kids :: (vI v21) :: .bad :: .bad :: (vI v35) :: bz 62 ((vI v35) :: (vI v21) :: .sc (.bool (decide (v35 < v21))) :: .bad :: .bad :: Ty.sl tNode x19.node.kids :: (vI v21) :: .fp (List.flatMap (Ty.cells tNode) x19.node.kids) (v21.toNat * Ty.size tNode) :: .fp (List.flatMap (Ty.cells tNode) x19.node.kids) (v21.toNat * Ty.size tNode + 0) :: strV x37.name :: Ty.sl tNode x19.node.kids :: (vI v35) :: .fp (List.flatMap (Ty.cells tNode) x19.node.kids) (v35.toNat * Ty.size tNode) :: .fp (List.flatMap (Ty.cells tNode) x19.node.kids) (v35.toNat * Ty.size tNode + 0) :: strV x39.name :: .sc (.bool (x37.name == x39.name)) :: bz 30 []))) [.box 25 (cNode n_0)] (by kernel_rfl) (by kernel_rfl) (by kernel_rfl) ?_
                          refine JD_end (by kernel_rfl) (by kernel_rfl) ?_
                          refine JK_sq ?_
                          rcases bool_cases (x37.name == x39.name) with h41 | h41
                          · rw [if_pos h41] at h
                            refine J_condT (v := (x37.name == x39.name)) (by kernel_rfl) h41 ?_
                            refine J_seq ?_
                            refine J_region ?_
                            refine JS_seg 0 (.bad :: .bad :: .ref 0 0 0 :: bz 4 (Ty.sl tSpot r15 :: (vI v17) :: Ty.sl tNode x19.node.kids :: (vI v21) :: .bad :: .bad :: (vI v35) :: bz 62 ((vI v35) :: (vI v21) :: .sc (.bool (decide (v35 < v21))) :: .bad :: .bad :: Ty.sl tNode x19.node.kids :: (vI v21) :: .fp (List.flatMap (Ty.cells tNode) x19.node.kids) (v21.toNat * Ty.size tNode) :: .fp (List.flatMap (Ty.cells tNode) x19.node.kids) (v21.toNat * Ty.size tNode + 0) :: strV x37.name :: Ty.sl tNode x19.node.kids :: (vI v35) :: .fp (List.flatMap (Ty.cells tNode) x19.node.kids) (v35.toNat * Ty.size tNode) :: .fp (List.flatMap (Ty.cells tNode) x19.node.kids) (v35.toNat * Ty.size tNode + 0) :: strV x39.name :: .sc (.bool (x37.name == x39.name)) :: bz 30 []))) [.box 25 (cNode n_0)] (by kernel_rfl) ?_
                            obtain ⟨r42, h43, h⟩ := Option.bind_eq_some_iff.1 h
                            refine JS_upd (fun s => fcall E0 10 [] s) (by kernel_rfl) (law16_awake_C _ _ h43) ?_
                            refine JS_end (.bad :: .bad :: .ref 0 0 0 :: .bad :: (vB r42) :: .bad :: .bad :: Ty.sl tSpot r15 :: (vI v17) :: Ty.sl tNode x19.node.kids :: (vI v21) :: .bad :: .bad :: (vI v35) :: bz 62 ((vI v35) :: (vI v21) :: .sc (.bool (decide (v35 < v21))) :: .bad :: .bad :: Ty.sl tNode x19.node.kids :: (vI v21) :: .fp (List.flatMap (Ty.cells tNode) x19.node.kids) (v21.toNat * Ty.size tNode) :: .fp (List.flatMap (Ty.cells tNode) x19.node.kids) (v21.toNat * Ty.size tNode + 0) :: strV x37.name :: Ty.sl tNode x19.node.kids :: (vI v35) :: .fp (List.flatMap (Ty.cells tNode) x19.node.kids) (v35.toNat * Ty.size tNode) :: .fp (List.flatMap (Ty.cells tNode) x19.node.kids) (v35.toNat * Ty.size tNode + 0) :: strV x39.name :: .sc (.bool (x37.name == x39.name)) :: (vB r42) :: bz 29 [])) [.box 25 (cNode n_0)] (by kernel_rfl) ?_
                            refine JK_sq ?_
                            refine J_ret ?_
                            refine JK_bl_ret ?_
                            refine JK_sq_ret ?_
                            refine JK_nil ?_
                            obtain rfl := Option.some.inj h
                            exact turn_ret (tm' := (.bad :: .bad :: .ref 0 0 0 :: .bad :: (vB r42) :: .bad :: .bad :: Ty.sl tSpot r15 :: (vI v17) :: Ty.sl tNode x19.node.kids :: (vI v21) :: bz 111 [])) (st' := [.box 25 (cNode n_0)]) () (kill_go (mid := (.bad :: .bad :: .ref 0 0 0 :: .bad :: (vB r42) :: .bad :: .bad :: Ty.sl tSpot r15 :: (vI v17) :: Ty.sl tNode x19.node.kids :: (vI v21) :: bz 111 [])) (by kernel_rfl) (mB (mB (mC (by kernel_rfl) (mB (mC (by kernel_rfl) (mB (mB (mC (sl_scrub tSpot _ _) (mC (by kernel_rfl) (mC (sl_scrub tNode _ _) (mC (by kernel_rfl) (mZ 111 mN))))))))))))) (cut_go (mid := [.box 25 (cNode n_0)]) (by kernel_rfl) (oC (oB (lC (by kernel_rfl) (lC (sl_scrub tProp _ _) (lC (sl_scrub tNode _ _) lN)))) oN)) (by kernel_rfl)
                          · rw [if_neg (ne_true h41)] at h
                            refine J_condF (v := (x37.name == x39.name)) (by kernel_rfl) h41 ?_
                            refine J_skip ?_
                            refine JK_bl ?_
                            refine JK_sq ?_
                            refine J_region ?_
                            refine JS_end (.bad :: .bad :: .ref 0 0 0 :: bz 4 (Ty.sl tSpot r15 :: (vI v17) :: Ty.sl tNode x19.node.kids :: (vI v21) :: .bad :: .bad :: .sc (.int .i64 (IntKind.wrap .i64 (v35 + 1))) :: bz 62 ((vI v35) :: (vI v21) :: .sc (.bool (decide (v35 < v21))) :: (vI v35) :: .sc (.int .i64 (IntKind.wrap .i64 (v35 + 1))) :: Ty.sl tNode x19.node.kids :: (vI v21) :: .fp (List.flatMap (Ty.cells tNode) x19.node.kids) (v21.toNat * Ty.size tNode) :: .fp (List.flatMap (Ty.cells tNode) x19.node.kids) (v21.toNat * Ty.size tNode + 0) :: strV x37.name :: Ty.sl tNode x19.node.kids :: (vI v35) :: .fp (List.flatMap (Ty.cells tNode) x19.node.kids) (v35.toNat * Ty.size tNode) :: .fp (List.flatMap (Ty.cells tNode) x19.node.kids) (v35.toNat * Ty.size tNode + 0) :: strV x39.name :: .sc (.bool (x37.name == x39.name)) :: bz 30 []))) [.box 25 (cNode n_0)] (by kernel_rfl) ?_
                            refine JK_nil ?_
                            obtain rfl := Option.some.inj h
                            exact turn_next () (kill_go (mid := (.bad :: .bad :: .ref 0 0 0 :: bz 4 (Ty.sl tSpot r15 :: (vI v17) :: Ty.sl tNode x19.node.kids :: (vI v21) :: .bad :: .bad :: .sc (.int .i64 (IntKind.wrap .i64 (v35 + 1))) :: bz 108 []))) (by kernel_rfl) (mB (mB (mC (by kernel_rfl) (mZ 4 (mC (sl_scrub tSpot _ _) (mC (by kernel_rfl) (mC (sl_scrub tNode _ _) (mC (by kernel_rfl) (mB (mB (mC (by kernel_rfl) (mZ 108 mN))))))))))))) (cut_go (mid := [.box 25 (cNode n_0)]) (by kernel_rfl) (oC (oB (lC (by kernel_rfl) (lC (sl_scrub tProp _ _) (lC (sl_scrub tNode _ _) lN)))) oN))
                        · rw [if_neg (ne_true h36)] at h
                          refine J_condF (v := (decide (v35 < v21))) (by kernel_rfl) h36 ?_
                          refine J_exit ?_
                          refine JK_sq_exit ?_
                          refine JK_nil ?_
                          obtain rfl := Option.some.inj h
                          exact turn_exit (tm' := (.bad :: .bad :: .ref 0 0 0 :: bz 4 (Ty.sl tSpot r15 :: (vI v17) :: Ty.sl tNode x19.node.kids :: (vI v21) :: bz 111 []))) (st' := [.box 25 (cNode n_0)]) () (kill_go (mid := (.bad :: .bad :: .ref 0 0 0 :: bz 4 (Ty.sl tSpot r15 :: (vI v17) :: Ty.sl tNode x19.node.kids :: (vI v21) :: bz 111 []))) (by kernel_rfl) (mB (mB (mC (by kernel_rfl) (mZ 4 (mC (sl_scrub tSpot _ _) (mC (by kernel_rfl) (mC (sl_scrub tNode _ _) (mC (by kernel_rfl) (mZ 111 mN)))))))))) (cut_go (mid := [.box 25 (cNode n_0)]) (by kernel_rfl) (oC (oB (lC (by kernel_rfl) (lC (sl_scrub tProp _ _) (lC (sl_scrub tNode _ _) lN)))) oN)) (by kernel_rfl)
                      · intro g_
                        rcases r44 with r46 | r47
                        · dsimp only at h
                          refine (show JK _ _ _ _ (.exit 4, (.bad :: .bad :: .ref 0 0 0 :: bz 4 (Ty.sl tSpot r15 :: (vI v17) :: Ty.sl tNode x19.node.kids :: (vI v21) :: bz 111 [])), [.box 25 (cNode n_0)]) from ?_)
                          refine JK_bl_hit ?_
                          refine JK_bl ?_
                          refine JK_sq ?_
                          refine J_region ?_
                          refine JS_end (.bad :: .bad :: .ref 0 0 0 :: bz 4 (Ty.sl tSpot r15 :: (vI v17) :: Ty.sl tNode x19.node.kids :: .sc (.int .i64 (IntKind.wrap .i64 (v21 + 1))) :: bz 45 ((vI v21) :: .sc (.int .i64 (IntKind.wrap .i64 (v21 + 1))) :: bz 64 []))) [.box 25 (cNode n_0)] (by kernel_rfl) ?_
                          refine JK_nil ?_
                          obtain rfl := Option.some.inj h
                          exact turn_next () (kill_go (mid := (.bad :: .bad :: .ref 0 0 0 :: bz 4 (Ty.sl tSpot r15 :: (vI v17) :: Ty.sl tNode x19.node.kids :: .sc (.int .i64 (IntKind.wrap .i64 (v21 + 1))) :: bz 111 []))) (by kernel_rfl) (mB (mB (mC (by kernel_rfl) (mZ 4 (mC (sl_scrub tSpot _ _) (mC (by kernel_rfl) (mC (sl_scrub tNode _ _) (mC (by kernel_rfl) (mZ 111 mN)))))))))) (cut_go (mid := [.box 25 (cNode n_0)]) (by kernel_rfl) (oC (oB (lC (by kernel_rfl) (lC (sl_scrub tProp _ _) (lC (sl_scrub tNode _ _) lN)))) oN))
                        · dsimp only at h
                          refine (show JK _ _ _ _ (.ret, (.bad :: .bad :: .ref 0 0 0 :: .bad :: (vB r47) :: .bad :: .bad :: Ty.sl tSpot r15 :: (vI v17) :: Ty.sl tNode x19.node.kids :: (vI v21) :: bz 111 []), [.box 25 (cNode n_0)]) from ?_)
                          refine JK_bl_ret ?_
                          refine JK_bl_ret ?_
                          refine JK_sq_ret ?_
                          refine JK_nil ?_
                          obtain rfl := Option.some.inj h
                          exact turn_ret (tm' := (.bad :: .bad :: .ref 0 0 0 :: .bad :: (vB r47) :: .bad :: .bad :: Ty.sl tSpot r15 :: (vI v17) :: bz 113 [])) (st' := [.box 25 (cNode n_0)]) () (kill_go (mid := (.bad :: .bad :: .ref 0 0 0 :: .bad :: (vB r47) :: .bad :: .bad :: Ty.sl tSpot r15 :: (vI v17) :: bz 113 [])) (by kernel_rfl) (mB (mB (mC (by kernel_rfl) (mB (mC (by kernel_rfl) (mB (mB (mC (sl_scrub tSpot _ _) (mC (by kernel_rfl) (mZ 113 mN))))))))))) (cut_go (mid := [.box 25 (cNode n_0)]) (by kernel_rfl) (oC (oB (lC (by kernel_rfl) (lC (sl_scrub tProp _ _) (lC (sl_scrub tNode _ _) lN)))) oN)) (by kernel_rfl)
                · rw [if_neg (ne_true h22)] at h
                  refine J_condF (v := (decide (v21 < (x19.node.kids.length : Int)))) (by kernel_rfl) h22 ?_
                  refine J_exit ?_
                  refine JK_sq_exit ?_
                  refine JK_nil ?_
                  obtain rfl := Option.some.inj h
                  exact turn_exit (tm' := (.bad :: .bad :: .ref 0 0 0 :: bz 4 (Ty.sl tSpot r15 :: (vI v17) :: bz 113 []))) (st' := [.box 25 (cNode n_0)]) () (kill_go (mid := (.bad :: .bad :: .ref 0 0 0 :: bz 4 (Ty.sl tSpot r15 :: (vI v17) :: bz 113 []))) (by kernel_rfl) (mB (mB (mC (by kernel_rfl) (mZ 4 (mC (sl_scrub tSpot _ _) (mC (by kernel_rfl) (mZ 113 mN)))))))) (cut_go (mid := [.box 25 (cNode n_0)]) (by kernel_rfl) (oC (oB (lC (by kernel_rfl) (lC (sl_scrub tProp _ _) (lC (sl_scrub tNode _ _) lN)))) oN)) (by kernel_rfl)
              · intro g_
                rcases r48 with r50 | r51
                · dsimp only at h
                  refine (show JK _ _ _ _ (.exit 2, (.bad :: .bad :: .ref 0 0 0 :: bz 4 (Ty.sl tSpot r15 :: (vI v17) :: bz 113 [])), [.box 25 (cNode n_0)]) from ?_)
                  refine JK_bl_hit ?_
                  refine JK_bl ?_
                  refine JK_sq ?_
                  refine J_region ?_
                  refine JS_end (.bad :: .bad :: .ref 0 0 0 :: bz 4 (Ty.sl tSpot r15 :: .sc (.int .i64 (IntKind.wrap .i64 (v17 + 1))) :: bz 35 ((vI v17) :: .sc (.int .i64 (IntKind.wrap .i64 (v17 + 1))) :: bz 76 []))) [.box 25 (cNode n_0)] (by kernel_rfl) ?_
                  refine JK_nil ?_
                  obtain rfl := Option.some.inj h
                  exact turn_next () (kill_go (mid := (.bad :: .bad :: .ref 0 0 0 :: bz 4 (Ty.sl tSpot r15 :: .sc (.int .i64 (IntKind.wrap .i64 (v17 + 1))) :: bz 113 []))) (by kernel_rfl) (mB (mB (mC (by kernel_rfl) (mZ 4 (mC (sl_scrub tSpot _ _) (mC (by kernel_rfl) (mZ 113 mN)))))))) (cut_go (mid := [.box 25 (cNode n_0)]) (by kernel_rfl) (oC (oB (lC (by kernel_rfl) (lC (sl_scrub tProp _ _) (lC (sl_scrub tNode _ _) lN)))) oN))
                · dsimp only at h
                  refine (show JK _ _ _ _ (.ret, (.bad :: .bad :: .ref 0 0 0 :: .bad :: (vB r51) :: .bad :: .bad :: Ty.sl tSpot r15 :: (vI v17) :: bz 113 []), [.box 25 (cNode n_0)]) from ?_)
                  refine JK_bl_ret ?_
                  refine JK_bl_ret ?_
                  refine JK_sq_ret ?_
                  refine JK_nil ?_
                  obtain rfl := Option.some.inj h
                  exact turn_ret (tm' := (.bad :: .bad :: .ref 0 0 0 :: .bad :: (vB r51) :: .bad :: .bad :: Ty.sl tSpot r15 :: bz 114 [])) (st' := [.box 25 (cNode n_0)]) () (kill_go (mid := (.bad :: .bad :: .ref 0 0 0 :: .bad :: (vB r51) :: .bad :: .bad :: Ty.sl tSpot r15 :: bz 114 [])) (by kernel_rfl) (mB (mB (mC (by kernel_rfl) (mB (mC (by kernel_rfl) (mB (mB (mC (sl_scrub tSpot _ _) (mZ 114 mN)))))))))) (cut_go (mid := [.box 25 (cNode n_0)]) (by kernel_rfl) (oC (oB (lC (by kernel_rfl) (lC (sl_scrub tProp _ _) (lC (sl_scrub tNode _ _) lN)))) oN)) (by kernel_rfl)
            · rw [if_neg (ne_true h18)] at h
              refine J_condF (v := (decide (v17 < (r15.length : Int)))) (by kernel_rfl) h18 ?_
              refine J_exit ?_
              refine JK_sq_exit ?_
              refine JK_nil ?_
              obtain rfl := Option.some.inj h
              exact turn_exit (tm' := (.bad :: .bad :: .ref 0 0 0 :: bz 4 (Ty.sl tSpot r15 :: bz 114 []))) (st' := [.box 25 (cNode n_0)]) () (kill_go (mid := (.bad :: .bad :: .ref 0 0 0 :: bz 4 (Ty.sl tSpot r15 :: bz 114 []))) (by kernel_rfl) (mB (mB (mC (by kernel_rfl) (mZ 4 (mC (sl_scrub tSpot _ _) (mZ 114 mN))))))) (cut_go (mid := [.box 25 (cNode n_0)]) (by kernel_rfl) (oC (oB (lC (by kernel_rfl) (lC (sl_scrub tProp _ _) (lC (sl_scrub tNode _ _) lN)))) oN)) (by kernel_rfl)
          · intro g_
            rcases r52 with r54 | r73
            · dsimp only at h
              refine (show JK _ _ _ _ (.exit 0, (.bad :: .bad :: .ref 0 0 0 :: bz 4 (Ty.sl tSpot r15 :: bz 114 [])), [.box 25 (cNode n_0)]) from ?_)
              refine JK_bl_hit ?_
              refine JK_sq ?_
              refine J_seq ?_
              refine J_seq ?_
              refine J_region ?_
              refine JS_end (.bad :: .bad :: .ref 0 0 0 :: bz 4 (Ty.sl tSpot r15 :: bz 6 ((vI 0) :: bz 107 []))) [.box 25 (cNode n_0)] (by kernel_rfl) ?_
              refine JK_sq ?_
              refine J_block ?_
              obtain ⟨r67, h68, h⟩ := Option.bind_eq_some_iff.1 h
              refine J_loop (γ := Unit) h68 1 (.bad :: .bad :: .ref 0 0 0 :: bz 4 (Ty.sl tSpot r15 :: bz 6 ((vI 0) :: bz 107 []))) [.box 25 (cNode n_0)] (fun s g => (.bad :: .bad :: .ref 0 0 0 :: bz 4 (Ty.sl tSpot r15 :: bz 6 ((vI s) :: bz 107 [])))) (fun s g => [.box 25 (cNode n_0)]) (fun r g => match r with | (.inl r) => (.exit 6, (bz 122 []), [.box 25 (cNode n_0)]) | (.inr r) => (.ret, (bz 4 ((vB false) :: bz 117 [])), [.box 25 (cNode n_0)])) () (by kernel_rfl) (by kernel_rfl) (kill_go (mid := (.bad :: .bad :: .ref 0 0 0 :: bz 4 (Ty.sl tSpot r15 :: bz 6 ((vI 0) :: bz 107 [])))) (by kernel_rfl) (mB (mB (mC (by kernel_rfl) (mZ 4 (mC (sl_scrub tSpot _ _) (mZ 6 (mC (by kernel_rfl) (mZ 107 mN))))))))) (cut_go (mid := [.box 25 (cNode n_0)]) (by kernel_rfl) (oC (oB (lC (by kernel_rfl) (lC (sl_scrub tProp _ _) (lC (sl_scrub tNode _ _) lN)))) oN)) ?_ ?_
              · rintro v55 _ y h
                unfold law16_PathWalk_l4 at h
                refine J_seq ?_
                refine J_seq ?_
                refine J_region ?_
                refine JS_end (.bad :: .bad :: .ref 0 0 0 :: bz 4 (Ty.sl tSpot r15 :: bz 6 ((vI v55) :: bz 78 ((vI v55) :: Ty.sl tSpot r15 :: .sc (.int .i64 (r15.length : Int)) :: .sc (.bool (decide (v55 < (r15.length : Int)))) :: bz 25 [])))) [.box 25 (cNode n_0)] (by kernel_rfl) ?_
                refine JK_sq ?_
                rcases bool_cases (decide (v55 < (r15.length : Int))) with h56 | h56
                · rw [if_pos h56] at h
                  refine J_condT (v := (decide (v55 < (r15.length : Int)))) (by kernel_rfl) h56 ?_
                  refine J_skip ?_
                  refine JK_sq ?_
                  refine J_seq ?_
                  refine J_block ?_
                  refine J_seq ?_
                  refine J_draw ?_
                  refine JD_seg [] (.bad :: .bad :: .ref 0 0 0 :: bz 4 (Ty.sl tSpot r15 :: bz 6 ((vI v55) :: bz 78 ((vI v55) :: Ty.sl tSpot r15 :: .sc (.int .i64 (r15.length : Int)) :: .sc (.bool (decide (v55 < (r15.length : Int)))) :: bz 25 [])))) [.box 25 (cNode n_0)] (by kernel_rfl) (by kernel_rfl) (by kernel_rfl) ?_
                  refine JD_upd (c := .reads) (fun s => some (.agg (cNode n_0), [.box 25 (cNode n_0)])) (by kernel_rfl) rfl (by kernel_rfl) ?_
                  refine JD_upd (c := .free) (fun s => some (Ty.sl tSpot r15, [.box 25 (cNode n_0)])) (by kernel_rfl) rfl (by kernel_rfl) ?_
                  refine JD_upd (c := .free) (fun s => some ((vI v55), [.box 25 (cNode n_0)])) (by kernel_rfl) rfl (by kernel_rfl) ?_
                  refine JD_seg [.reads, .free, .free] (.bad :: .bad :: .ref 0 0 0 :: bz 4 (Ty.sl tSpot r15 :: bz 6 ((vI v55) :: bz 78 ((vI v55) :: Ty.sl tSpot r15 :: .sc (.int .i64 (r15.length : Int)) :: .sc (.bool (decide (v55 < (r15.length : Int)))) :: .bad :: .bad :: .bad :: .agg (cNode n_0) :: Ty.sl tSpot r15 :: (vI v55) :: bz 19 [])))) [.box 25 (cNode n_0)] (by kernel_rfl) (by kernel_rfl) (by kernel_rfl) ?_
                  obtain ⟨x57, h58, h⟩ := Option.bind_eq_some_iff.1 h
                  refine JD_val (c := .reads) (fun s => aindexAddr E0.tb s 41 (Ty.sl tSpot r15) ((vI v55))) (by kernel_rfl) (sl_addr tSpot tb_41 rfl tb_44 rfl h58) (by kernel_rfl) ?_
                  refine JD_upd (c := .reads) (fun s => some (.fp (List.flatMap (Ty.cells tSpot) r15) (v55.toNat * Ty.size tSpot + 0), [.box 25 (cNode n_0)])) (by kernel_rfl) rfl (by kernel_rfl) ?_
                  refine JD_seg [.reads, .free, .free, .reads, .reads] (.bad :: .bad :: .ref 0 0 0 :: bz 4 (Ty.sl tSpot r15 :: bz 6 ((vI v55) :: bz 78 ((vI v55) :: Ty.sl tSpot r15 :: .sc (.int .i64 (r15.length : Int)) :: .sc (.bool (decide (v55 < (r15.length : Int)))) :: .bad :: .bad :: .bad :: .agg (cNode n_0) :: Ty.sl tSpot r15 :: (vI v55) :: .fp (List.flatMap (Ty.cells tSpot) r15) (v55.toNat * Ty.size tSpot) :: .fp (List.flatMap (Ty.cells tSpot) r15) (v55.toNat * Ty.size tSpot + 0) :: bz 17 [])))) [.box 25 (cNode n_0)] (by kernel_rfl) (by kernel_rfl) (by kernel_rfl) ?_
                  refine JD_val (c := .reads) (fun s => aload E0.tb s 9 (.fp (List.flatMap (Ty.cells tSpot) r15) (v55.toNat * Ty.size tSpot + 0))) (by kernel_rfl) (fp_load1 tSpot (o := 0) tb_9 rfl h58 (by rw [tSpot_cells]; rfl)) (by kernel_rfl) ?_
                  refine JD_seg [.reads, .free, .free, .reads, .reads, .reads] (.bad :: .bad :: .ref 0 0 0 :: bz 4 (Ty.sl tSpot r15 :: bz 6 ((vI v55) :: bz 78 ((vI v55) :: Ty.sl tSpot r15 :: .sc (.int .i64 (r15.length : Int)) :: .sc (.bool (decide (v55 < (r15.length : Int)))) :: .bad :: .bad :: .bad :: .agg (cNode n_0) :: Ty.sl tSpot r15 :: (vI v55) :: .fp (List.flatMap (Ty.cells tSpot) r15) (v55.toNat * Ty.size tSpot) :: .fp (List.flatMap (Ty.cells tSpot) r15) (v55.toNat * Ty.size tSpot + 0) :: strV x57.path :: bz 16 [])))) [.box 25 (cNode n_0)] (by kernel_rfl) (by kernel_rfl) (by kernel_rfl) ?_
                  obtain ⟨r59, h60, h⟩ := Option.bind_eq_some_iff.1 h
                  refine JD_upd (c := .free) (fun s => fcall E0 11 [.agg (cNode n_0), strV x57.path] s) (by kernel_rfl) (path_Find_C n_0 x57.path _ _ h60) (Eq.trans (b := if pureL [.agg (cNode n_0), strV x57.path] = true then Cls.free else Cls.writes) (by kernel_rfl) (cls_if (pC (pAgg (pC rfl (pC (sl_pure tProp _) (pC (sl_pure tNode _) pN)))) (pC rfl pN)))) ?_
                  refine JD_upd (c := .free) (fun s => some (.tup [.agg (cNode r59.1), .sc (.bool r59.2)], [.box 25 (cNode n_0)])) (by kernel_rfl) rfl (by kernel_rfl) ?_
                  refine JD_upd (c := .free) (fun s => some (.agg (cNode r59.1), [.box 25 (cNode n_0)])) (by kernel_rfl) rfl (by kernel_rfl) ?_
                  refine JD_upd (c := .free) (fun s => some (.sc (.bool r59.2), [.box 25 (cNode n_0)])) (by kernel_rfl) rfl (by kernel_rfl) ?_
                  refine JD_upd (c := .allocs) (fun s => some (.ref 1 0 0, [.box 25 (cNode n_0), .box 25 [strV [], .sc (.slice none 0 0), .sc (.slice none 0 0)]])) (by kernel_rfl) rfl (by kernel_rfl) ?_
                  refine JD_upd (c := .writes) (fun s => some (.bad, [.box 25 (cNode n_0), .box 25 (cNode r59.1)])) (by kernel_rfl) rfl (by kernel_rfl) ?_
                  refine JD_upd (c := .free) (fun s => some (.sc (.bool r59.2), [.box 25 (cNode n_0), .box 25 (cNode r59.1)])) (by kernel_rfl) rfl (by kernel_rfl) ?_
                  refine JD_seg [.reads, .free, .free, .reads, .reads, .reads, .free, .free, .free, .free, .allocs, .writes, .free] (.bad :: .bad :: .ref 0 0 0 :: bz 4 (Ty.sl tSpot r15 :: bz 6 ((vI v55) :: .ref 1 0 0 :: .sc (.bool r59.2) :: bz 76 ((vI v55) :: Ty.sl tSpot r15 :: .sc (.int .i64 (r15.length : Int)) :: .sc (.bool (decide (v55 < (r15.length : Int)))) :: .bad :: .bad :: .tup [.agg (cNode r59.1), .sc (.bool r59.2)] :: .agg (cNode n_0) :: Ty.sl tSpot r15 :: (vI v55) :: .fp (List.flatMap (Ty.cells tSpot) r15) (v55.toNat * Ty.size tSpot) :: .fp (List.flatMap (Ty.cells tSpot) r15) (v55.toNat * Ty.size tSpot + 0) :: strV x57.path :: .tup [.agg (cNode r59.1), .sc (.bool r59.2)] :: .agg (cNode r59.1) :: .sc (.bool r59.2) :: bz 13 [])))) [.box 25 (cNode n_0), .box 25 (cNode r59.1)] (by kernel_rfl) (by kernel_rfl) (by kernel_rfl) ?_
                  refine JD_end (by kernel_rfl) (by kernel_rfl) ?_
                  refine JK_sq ?_
                  refine J_seq ?_
                  refine J_draw ?_
                  refine JD_seg [] (.bad :: .bad :: .ref 0 0 0 :: bz 4 (Ty.sl tSpot r15 :: bz 6 ((vI v55) :: .ref 1 0 0 :: .sc (.bool r59.2) :: bz 76 ((vI v55) :: Ty.sl tSpot r15 :: .sc (.int .i64 (r15.length : Int)) :: .sc (.bool (decide (v55 < (r15.length : Int)))) :: .bad :: .bad :: .tup [.agg (cNode r59.1), .sc (.bool r59.2)] :: .agg (cNode n_0) :: Ty.sl tSpot r15 :: (vI v55) :: .fp (List.flatMap (Ty.cells tSpot) r15) (v55.toNat * Ty.size tSpot) :: .fp (List.flatMap (Ty.cells tSpot) r15) (v55.toNat * Ty.size tSpot + 0) :: strV x57.path :: .tup [.agg (cNode r59.1), .sc (.bool r59.2)] :: .agg (cNode r59.1) :: .sc (.bool r59.2) :: bz 13 [])))) [.box 25 (cNode n_0), .box 25 (cNode r59.1)] (by kernel_rfl) (by kernel_rfl) (by kernel_rfl) ?_
                  refine JD_upd (c := .free) (fun s => some (.sc (.bool r59.2), [.box 25 (cNode n_0), .box 25 (cNode r59.1)])) (by kernel_rfl) rfl (by kernel_rfl) ?_
                  refine JD_upd (c := .free) (fun s => some (.sc (.bool (!r59.2)), [.box 25 (cNode n_0), .box 25 (cNode r59.1)])) (by kernel_rfl) rfl (by kernel_rfl) ?_
                  refine JD_upd (c := .free) (fun s => some (.sc (.bool (!r59.2)), [.box 25 (cNode n_0), .box 25 (cNode r59.1)])) (by kernel_rfl) rfl (by kernel_rfl) ?_
                  refine JD_seg [.free, .free, .free] (.bad :: .bad :: .ref 0 0 0 :: bz 4 (Ty.sl tSpot r15 :: bz 6 ((vI v55) :: .ref 1 0 0 :: .sc (.bool r59.2) :: bz 76 ((vI v55) :: Ty.sl tSpot r15 :: .sc (.int .i64 (r15.length : Int)) :: .sc (.bool (decide (v55 < (r15.length : Int)))) :: .bad :: .bad :: .tup [.agg (cNode r59.1), .sc (.bool r59.2)] :: .agg (cNode n_0) :: Ty.sl tSpot r15 :: (vI v55) :: .fp (List.flatMap (Ty.cells tSpot) r15) (v55.toNat * Ty.size tSpot) :: .fp (List.flatMap (Ty.cells tSpot) r15) (v55.toNat * Ty.size tSpot + 0) :: strV x57.path :: .tup [.agg (cNode r59.1), .sc (.bool r59.2)] :: .agg (cNode r59.1) :: .sc (.bool r59.2) :: .sc (.bool r59.2) :: .sc (.bool (!r59.2)) :: .sc (.bool (!r59.2)) :: bz 10 [])))) [.box 25 (cNode n_0), .box 25 (cNode r59.1)] (by kernel_rfl) (by kernel_rfl) (by kernel_rfl) ?_
                  rcases bool_cases (!r59.2) with h61 | h61
                  · rw [if_pos h61] at h
                    refine JD_cast (tm' := (.bad :: .bad :: .ref 0 0 0 :: bz 4 (Ty.sl tSpot r15 :: bz 6 ((vI v55) :: .ref 1 0 0 :: .sc (.bool r59.2) :: bz 76 ((vI v55) :: Ty.sl tSpot r15 :: .sc (.int .i64 (r15.length : Int)) :: .sc (.bool (decide (v55 < (r15.length : Int)))) :: .bad :: .bad :: .tup [.agg (cNode r59.1), .sc (.bool r59.2)] :: .agg (cNode n_0) :: Ty.sl tSpot r15 :: (vI v55) :: .fp (List.flatMap (Ty.cells tSpot) r15) (v55.toNat * Ty.size tSpot) :: .fp (List.flatMap (Ty.cells tSpot) r15) (v55.toNat * Ty.size tSpot + 0) :: strV x57.path :: .tup [.agg (cNode r59.1), .sc (.bool r59.2)] :: .agg (cNode r59.1) :: .sc (.bool r59.2) :: .sc (.bool r59.2) :: (vB true) :: (vB true) :: bz 10 []))))) (by rw [h61]) rfl ?_
                    refine JD_not (by kernel_rfl) ?_
                    refine JD_not (by kernel_rfl) ?_
                    refine JD_not (by kernel_rfl) ?_
                    refine JD_not (by kernel_rfl) ?_
                    refine JD_not (by kernel_rfl) ?_
                    refine JD_not (by kernel_rfl) ?_
                    refine JD_not (by kernel_rfl) ?_
                    refine JD_not (by kernel_rfl) ?_
                    refine JD_upd (c := .free) (fun s => some ((vB true), [.box 25 (cNode n_0), .box 25 (cNode r59.1)])) (by kernel_rfl) rfl (by kernel_rfl) ?_
                    refine JD_seg [.free, .free, .free, .free, .free, .free, .free, .free, .free, .free, .free, .free] (.bad :: .bad :: .ref 0 0 0 :: bz 4 (Ty.sl tSpot r15 :: bz 6 ((vI v55) :: .ref 1 0 0 :: .sc (.bool r59.2) :: bz 76 [(vI v55), Ty.sl tSpot r15, .sc (.int .i64 (r15.length : Int)), .sc (.bool (decide (v55 < (r15.length : Int)))), .bad, .bad, .tup [.agg (cNode r59.1), .sc (.bool r59.2)], .agg (cNode n_0), Ty.sl tSpot r15, (vI v55), .fp (List.flatMap (Ty.cells tSpot) r15) (v55.toNat * Ty.size tSpot), .fp (List.flatMap (Ty.cells tSpot) r15) (v55.toNat * Ty.size tSpot + 0), strV x57.path, .tup [.agg (cNode r59.1), .sc (.bool r59.2)], .agg (cNode r59.1), .sc (.bool r59.2), .sc (.bool r59.2), (vB true), (vB true), .tup [], .tup [], .tup [], .tup [], .tup [], .tup [], .tup [], .tup [], (vB true), .bad]))) [.box 25 (cNode n_0), .box 25 (cNode r59.1)] (by kernel_rfl) (by kernel_rfl) (by kernel_rfl) ?_
                    refine JD_end (by kernel_rfl) (by kernel_rfl) ?_
                    refine JK_sq ?_
                    refine J_condT (v := true) (by kernel_rfl) rfl ?_
                    refine J_seq ?_
                    refine J_region ?_
                    refine JS_end (.bad :: .bad :: .ref 0 0 0 :: .bad :: (vB false) :: .bad :: .bad :: Ty.sl tSpot r15 :: bz 6 ((vI v55) :: .ref 1 0 0 :: .sc (.bool r59.2) :: bz 76 [(vI v55), Ty.sl tSpot r15, .sc (.int .i64 (r15.length : Int)), .sc (.bool (decide (v55 < (r15.length : Int)))), .bad, .bad, .tup [.agg (cNode r59.1), .sc (.bool r59.2)], .agg (cNode n_0), Ty.sl tSpot r15, (vI v55), .fp (List.flatMap (Ty.cells tSpot) r15) (v55.toNat * Ty.size tSpot), .fp (List.flatMap (Ty.cells tSpot) r15) (v55.toNat * Ty.size tSpot + 0), strV x57.path, .tup [.agg (cNode r59.1), .sc (.bool r59.2)], .agg (cNode r59.1), .sc (.bool r59.2), .sc (.bool r59.2), (vB true), (vB true), .tup [], .tup [], .tup [], .tup [], .tup [], .tup [], .tup [], .tup [], (vB true), .bad])) [.box 25 (cNode n_0), .box 25 (cNode r59.1)] (by kernel_rfl) ?_
                    refine JK_sq ?_
                    refine J_ret ?_
                    refine JK_bl_ret ?_
                    refine JK_sq_ret ?_
                    refine JK_nil ?_
                    obtain rfl := Option.some.inj h
                    exact turn_ret (tm' := (bz 4 ((vB false) :: bz 117 []))) (st' := [.box 25 (cNode n_0)]) () (kill_go (mid := (bz 4 ((vB false) :: bz 117 []))) (by kernel_rfl) (mZ 4 (mC (by kernel_rfl) (mZ 117 mN)))) (cut_go (mid := [.box 25 (cNode n_0)]) (by kernel_rfl) (oC (oB (lC (by kernel_rfl) (lC (sl_scrub tProp _ _) (lC (sl_scrub tNode _ _) lN)))) oN)) (by kernel_rfl)
                  · rw [if_neg (ne_true h61)] at h
                    refine JD_cast (tm' := (.bad :: .bad :: .ref 0 0 0 :: bz 4 (Ty.sl tSpot r15 :: bz 6 ((vI v55) :: .ref 1 0 0 :: .sc (.bool r59.2) :: bz 76 ((vI v55) :: Ty.sl tSpot r15 :: .sc (.int .i64 (r15.length : Int)) :: .sc (.bool (decide (v55 < (r15.length : Int)))) :: .bad :: .bad :: .tup [.agg (cNode r59.1), .sc (.bool r59.2)] :: .agg (cNode n_0) :: Ty.sl tSpot r15 :: (vI v55) :: .fp (List.flatMap (Ty.cells tSpot) r15) (v55.toNat * Ty.size tSpot) :: .fp (List.flatMap (Ty.cells tSpot) r15) (v55.toNat * Ty.size tSpot + 0) :: strV x57.path :: .tup [.agg (cNode r59.1), .sc (.bool r59.2)] :: .agg (cNode r59.1) :: .sc (.bool r59.2) :: .sc (.bool r59.2) :: (vB false) :: (vB false) :: bz 10 []))))) (by rw [h61]) rfl ?_
                    refine JD_upd (c := .reads) (fun s => some (.agg (cNode r59.1), [.box 25 (cNode n_0), .box 25 (cNode r59.1)])) (by kernel_rfl) rfl (by kernel_rfl) ?_
                    refine JD_upd (c := .free) (fun s => some (Ty.sl tSpot r15, [.box 25 (cNode n_0), .box 25 (cNode r59.1)])) (by kernel_rfl) rfl (by kernel_rfl) ?_
                    refine JD_upd (c := .free) (fun s => some ((vI v55), [.box 25 (cNode n_0), .box 25 (cNode r59.1)])) (by kernel_rfl) rfl (by kernel_rfl) ?_
                    refine JD_seg [.free, .free, .free, .reads, .free, .free] (.bad :: .bad :: .ref 0 0 0 :: bz 4 (Ty.sl tSpot r15 :: bz 6 ((vI v55) :: .ref 1 0 0 :: .sc (.bool r59.2) :: bz 76 ((vI v55) :: Ty.sl tSpot r15 :: .sc (.int .i64 (r15.length : Int)) :: .sc (.bool (decide (v55 < (r15.length : Int)))) :: .bad :: .bad :: .tup [.agg (cNode r59.1), .sc (.bool r59.2)] :: .agg (cNode n_0) :: Ty.sl tSpot r15 :: (vI v55) :: .fp (List.flatMap (Ty.cells tSpot) r15) (v55.toNat * Ty.size tSpot) :: .fp (List.flatMap (Ty.cells tSpot) r15) (v55.toNat * Ty.size tSpot + 0) :: strV x57.path :: .tup [.agg (cNode r59.1), .sc (.bool r59.2)] :: .agg (cNode r59.1) :: .sc (.bool r59.2) :: .sc (.bool r59.2) :: (vB false) :: (vB false) :: .agg (cNode r59.1) :: Ty.sl tSpot r15 :: (vI v55) :: bz 7 [])))) [.box 25 (cNode n_0), .box 25 (cNode r59.1)] (by kernel_rfl) (by kernel_rfl) (by kernel_rfl) ?_
                    obtain ⟨x62, h63, h⟩ := Option.bind_eq_some_iff.1 h
                    refine JD_val (c := .reads) (fun s => aindexAddr E0.tb s 41 (Ty.sl tSpot r15) ((vI v55))) (by kernel_rfl) (sl_addr tSpot tb_41 rfl tb_44 rfl h63) (by kernel_rfl) ?_
                    refine JD_upd (c := .reads) (fun s => some (.fp (List.flatMap (Ty.cells tSpot) r15) (v55.toNat * Ty.size tSpot + 1), [.box 25 (cNode n_0), .box 25 (cNode r59.1)])) (by kernel_rfl) rfl (by kernel_rfl) ?_
                    refine JD_seg [.free, .free, .free, .reads, .free, .free, .reads, .reads] (.bad :: .bad :: .ref 0 0 0 :: bz 4 (Ty.sl tSpot r15 :: bz 6 ((vI v55) :: .ref 1 0 0 :: .sc (.bool r59.2) :: bz 76 ((vI v55) :: Ty.sl tSpot r15 :: .sc (.int .i64 (r15.length : Int)) :: .sc (.bool (decide (v55 < (r15.length : Int)))) :: .bad :: .bad :: .tup [.agg (cNode r59.1), .sc (.bool r59.2)] :: .agg (cNode n_0) :: Ty.sl tSpot r15 :: (vI v55) :: .fp (List.flatMap (Ty.cells tSpot) r15) (v55.toNat * Ty.size tSpot) :: .fp (List.flatMap (Ty.cells tSpot) r15) (v55.toNat * Ty.size tSpot + 0) :: strV x57.path :: .tup [.agg (cNode r59.1), .sc (.bool r59.2)] :: .agg (cNode r59.1) :: .sc (.bool r59.2) :: .sc (.bool r59.2) :: (vB false) :: (vB false) :: .agg (cNode r59.1) :: Ty.sl tSpot r15 :: (vI v55) :: .fp (List.flatMap (Ty.cells tSpot) r15) (v55.toNat * Ty.size tSpot) :: .fp (List.flatMap (Ty.cells tSpot) r15) (v55.toNat * Ty.size tSpot + 1) :: bz 5 [])))) [.box 25 (cNode n_0), .box 25 (cNode r59.1)] (by kernel_rfl) (by kernel_rfl) (by kernel_rfl) ?_
                    refine JD_val (c := .reads) (fun s => aload E0.tb s 25 (.fp (List.flatMap (Ty.cells tSpot) r15) (v55.toNat * Ty.size tSpot + 1))) (by kernel_rfl) (fp_loadN tSpot (o := 1) (vs := (cNode x62.node)) tb_25 rfl h63 (by decide) (by rw [tSpot_cells]; rfl)) (by kernel_rfl) ?_
                    refine JD_seg [.free, .free, .free, .reads, .free, .free, .reads, .reads, .reads] (.bad :: .bad :: .ref 0 0 0 :: bz 4 (Ty.sl tSpot r15 :: bz 6 ((vI v55) :: .ref 1 0 0 :: .sc (.bool r59.2) :: bz 76 ((vI v55) :: Ty.sl tSpot r15 :: .sc (.int .i64 (r15.length : Int)) :: .sc (.bool (decide (v55 < (r15.length : Int)))) :: .bad :: .bad :: .tup [.agg (cNode r59.1), .sc (.bool r59.2)] :: .agg (cNode n_0) :: Ty.sl tSpot r15 :: (vI v55) :: .fp (List.flatMap (Ty.cells tSpot) r15) (v55.toNat * Ty.size tSpot) :: .fp (List.flatMap (Ty.cells tSpot) r15) (v55.toNat * Ty.size tSpot + 0) :: strV x57.path :: .tup [.agg (cNode r59.1), .sc (.bool r59.2)] :: .agg (cNode r59.1) :: .sc (.bool r59.2) :: .sc (.bool r59.2) :: (vB false) :: (vB false) :: .agg (cNode r59.1) :: Ty.sl tSpot r15 :: (vI v55) :: .fp (List.flatMap (Ty.cells tSpot) r15) (v55.toNat * Ty.size tSpot) :: .fp (List.flatMap (Ty.cells tSpot) r15) (v55.toNat * Ty.size tSpot + 1) :: .agg (cNode x62.node) :: bz 4 [])))) [.box 25 (cNode n_0), .box 25 (cNode r59.1)] (by kernel_rfl) (by kernel_rfl) (by kernel_rfl) ?_
                    obtain ⟨r64, h65, h⟩ := Option.bind_eq_some_iff.1 h
                    refine JD_upd (c := .free) (fun s => fcall E0 15 [.agg (cNode r59.1), .agg (cNode x62.node)] s) (by kernel_rfl) (ref12_Same_C r59.1 x62.node _ _ h65) (Eq.trans (b := if pureL [.agg (cNode r59.1), .agg (cNode x62.node)] = true then Cls.free else Cls.writes) (by kernel_rfl) (cls_if (pC (pAgg (pC rfl (pC (sl_pure tProp _) (pC (sl_pure tNode _) pN)))) (pC (pAgg (pC rfl (pC (sl_pure tProp _) (pC (sl_pure tNode _) pN)))) pN)))) ?_
                    refine JD_upd (c := .free) (fun s => some (.sc (.bool (!r64)), [.box 25 (cNode n_0), .box 25 (cNode r59.1)])) (by kernel_rfl) rfl (by kernel_rfl) ?_
                    refine JD_upd (c := .free) (fun s => some (.sc (.bool (!r64)), [.box 25 (cNode n_0), .box 25 (cNode r59.1)])) (by kernel_rfl) rfl (by kernel_rfl) ?_
                    refine JD_seg [.free, .free, .free, .reads, .free, .free, .reads, .reads, .reads, .free, .free, .free] (.bad :: .bad :: .ref 0 0 0 :: bz 4 (Ty.sl tSpot r15 :: bz 6 ((vI v55) :: .ref 1 0 0 :: .sc (.bool r59.2) :: bz 76 [(vI v55), Ty.sl tSpot r15, .sc (.int .i64 (r15.length : Int)), .sc (.bool (decide (v55 < (r15.length : Int)))), .bad, .bad, .tup [.agg (cNode r59.1), .sc (.bool r59.2)], .agg (cNode n_0), Ty.sl tSpot r15, (vI v55), .fp (List.flatMap (Ty.cells tSpot) r15) (v55.toNat * Ty.size tSpot), .fp (List.flatMap (Ty.cells tSpot) r15) (v55.toNat * Ty.size tSpot + 0), strV x57.path, .tup [.agg (cNode r59.1), .sc (.bool r59.2)], .agg (cNode r59.1), .sc (.bool r59.2), .sc (.bool r59.2), (vB false), (vB false), .agg (cNode r59.1), Ty.sl tSpot r15, (vI v55), .fp (List.flatMap (Ty.cells tSpot) r15) (v55.toNat * Ty.size tSpot), .fp (List.flatMap (Ty.cells tSpot) r15) (v55.toNat * Ty.size tSpot + 1), .agg (cNode x62.node), (vB r64), .sc (.bool (!r64)), .sc (.bool (!r64)), .bad]))) [.box 25 (cNode n_0), .box 25 (cNode r59.1)] (by kernel_rfl) (by kernel_rfl) (by kernel_rfl) ?_
                    refine JD_end (by kernel_rfl) (by kernel_rfl) ?_
                    refine JK_sq ?_
                    rcases bool_cases (!r64) with h66 | h66
                    · rw [if_pos h66] at h
                      refine J_condT (v := (!r64)) (by kernel_rfl) h66 ?_
                      refine J_seq ?_
                      refine J_region ?_
                      refine JS_end (.bad :: .bad :: .ref 0 0 0 :: .bad :: (vB false) :: .bad :: .bad :: Ty.sl tSpot r15 :: bz 6 ((vI v55) :: .ref 1 0 0 :: .sc (.bool r59.2) :: bz 76 [(vI v55), Ty.sl tSpot r15, .sc (.int .i64 (r15.length : Int)), .sc (.bool (decide (v55 < (r15.length : Int)))), .bad, .bad, .tup [.agg (cNode r59.1), .sc (.bool r59.2)], .agg (cNode n_0), Ty.sl tSpot r15, (vI v55), .fp (List.flatMap (Ty.cells tSpot) r15) (v55.toNat * Ty.size tSpot), .fp (List.flatMap (Ty.cells tSpot) r15) (v55.toNat * Ty.size tSpot + 0), strV x57.path, .tup [.agg (cNode r59.1), .sc (.bool r59.2)], .agg (cNode r59.1), .sc (.bool r59.2), .sc (.bool r59.2), (vB false), (vB false), .agg (cNode r59.1), Ty.sl tSpot r15, (vI v55), .fp (List.flatMap (Ty.cells tSpot) r15) (v55.toNat * Ty.size tSpot), .fp (List.flatMap (Ty.cells tSpot) r15) (v55.toNat * Ty.size tSpot + 1), .agg (cNode x62.node), (vB r64), .sc (.bool (!r64)), .sc (.bool (!r64)), .bad])) [.box 25 (cNode n_0), .box 25 (cNode r59.1)] (by kernel_rfl) ?_
                      refine JK_sq ?_
                      refine J_ret ?_
                      refine JK_bl_ret ?_
                      refine JK_sq_ret ?_
                      refine JK_nil ?_
                      obtain rfl := Option.some.inj h
                      exact turn_ret (tm' := (bz 4 ((vB false) :: bz 117 []))) (st' := [.box 25 (cNode n_0)]) () (kill_go (mid := (bz 4 ((vB false) :: bz 117 []))) (by kernel_rfl) (mZ 4 (mC (by kernel_rfl) (mZ 117 mN)))) (cut_go (mid := [.box 25 (cNode n_0)]) (by kernel_rfl) (oC (oB (lC (by kernel_rfl) (lC (sl_scrub tProp _ _) (lC (sl_scrub tNode _ _) lN)))) oN)) (by kernel_rfl)
                    · rw [if_neg (ne_true h66)] at h
                      refine J_condF (v := (!r64)) (by kernel_rfl) h66 ?_
                      refine J_skip ?_
                      refine JK_bl ?_
                      refine JK_sq ?_
                      refine J_region ?_
                      refine JS_end (.bad :: .bad :: .ref 0 0 0 :: bz 4 (Ty.sl tSpot r15 :: bz 6 (.sc (.int .i64 (IntKind.wrap .i64 (v55 + 1))) :: .ref 1 0 0 :: .sc (.bool r59.2) :: bz 76 [(vI v55), Ty.sl tSpot r15, .sc (.int .i64 (r15.length : Int)), .sc (.bool (decide (v55 < (r15.length : Int)))), (vI v55), .sc (.int .i64 (IntKind.wrap .i64 (v55 + 1))), .tup [.agg (cNode r59.1), .sc (.bool r59.2)], .agg (cNode n_0), Ty.sl tSpot r15, (vI v55), .fp (List.flatMap (Ty.cells tSpot) r15) (v55.toNat * Ty.size tSpot), .fp (List.flatMap (Ty.cells tSpot) r15) (v55.toNat * Ty.size tSpot + 0), strV x57.path, .tup [.agg (cNode r59.1), .sc (.bool r59.2)], .agg (cNode r59.1), .sc (.bool r59.2), .sc (.bool r59.2), (vB false), (vB false), .agg (cNode r59.1), Ty.sl tSpot r15, (vI v55), .fp (List.flatMap (Ty.cells tSpot) r15) (v55.toNat * Ty.size tSpot), .fp (List.flatMap (Ty.cells tSpot) r15) (v55.toNat * Ty.size tSpot + 1), .agg (cNode x62.node), (vB r64), .sc (.bool (!r64)), .sc (.bool (!r64)), .bad]))) [.box 25 (cNode n_0), .box 25 (cNode r59.1)] (by kernel_rfl) ?_
                      refine JK_nil ?_
                      obtain rfl := Option.some.inj h
                      exact turn_next () (kill_go (mid := (.bad :: .bad :: .ref 0 0 0 :: bz 4 (Ty.sl tSpot r15 :: bz 6 (.sc (.int .i64 (IntKind.wrap .i64 (v55 + 1))) :: bz 107 [])))) (by kernel_rfl) (mB (mB (mC (by kernel_rfl) (mZ 4 (mC (sl_scrub tSpot _ _) (mZ 6 (mC (by kernel_rfl) (mZ 107 mN))))))))) (cut_go (mid := [.box 25 (cNode n_0)]) (by kernel_rfl) (oC (oB (lC (by kernel_rfl) (lC (sl_scrub tProp _ _) (lC (sl_scrub tNode _ _) lN)))) oN))
                · rw [if_neg (ne_true h56)] at h
                  refine J_condF (v := (decide (v55 < (r15.length : Int)))) (by kernel_rfl) h56 ?_
                  refine J_exit ?_
                  refine JK_sq_exit ?_
                  refine JK_nil ?_
                  obtain rfl := Option.some.inj h
                  exact turn_exit (tm' := (bz 122 [])) (st' := [.box 25 (cNode n_0)]) () (kill_go (mid := (bz 122 [])) (by kernel_rfl) (mZ 122 mN)) (cut_go (mid := [.box 25 (cNode n_0)]) (by kernel_rfl) (oC (oB (lC (by kernel_rfl) (lC (sl_scrub tProp _ _) (lC (sl_scrub tNode _ _) lN)))) oN)) (by kernel_rfl)
              · intro g_
                rcases r67 with r69 | r72
                · dsimp only at h
                  refine (show JK _ _ _ _ (.exit 6, (bz 122 []), [.box 25 (cNode n_0)]) from ?_)
                  refine JK_bl_hit ?_
                  refine JK_sq ?_
                  refine J_seq ?_
                  refine J_region ?_
                  refine JS_seg 0 (bz 122 []) [.box 25 (cNode n_0)] (by kernel_rfl) ?_
                  obtain ⟨r70, h71, h⟩ := Option.bind_eq_some_iff.1 h
                  refine JS_upd (fun s => fcall E0 10 [] s) (by kernel_rfl) (law16_awake_C _ _ h71) ?_
                  refine JS_end (bz 4 ((vB r70) :: bz 116 [(vB r70)])) [.box 25 (cNode n_0)] (by kernel_rfl) ?_
                  refine JK_sq ?_
                  refine J_ret ?_
                  refine JK_nil ?_
                  obtain rfl := Option.some.inj h
                  exact ret_A (r := (vB r70)) (r' := (vB r70)) (.inl rfl) (by kernel_rfl) (by kernel_rfl) rfl ⟨by kernel_rfl, rfl⟩
                · dsimp only at h
                  refine (show JK _ _ _ _ (.ret, (bz 4 ((vB false) :: bz 117 [])), [.box 25 (cNode n_0)]) from ?_)
                  refine JK_bl_ret ?_
                  refine JK_sq_ret ?_
                  refine JK_nil ?_
                  obtain rfl := Option.some.inj h
                  exact ret_A (r := (vB false)) (r' := (vB false)) (.inl rfl) (by kernel_rfl) (by kernel_rfl) rfl ⟨by kernel_rfl, rfl⟩
            · dsimp only at h
              refine (show JK _ _ _ _ (.ret, (.bad :: .bad :: .ref 0 0 0 :: .bad :: (vB r73) :: .bad :: .bad :: Ty.sl tSpot r15 :: bz 114 []), [.box 25 (cNode n_0)]) from ?_)
              refine JK_bl_ret ?_
              refine JK_sq_ret ?_
              refine JK_nil ?_
              obtain rfl := Option.some.inj h
              exact ret_A (r := (vB r73)) (r' := (vB r73)) (.inl rfl) (by kernel_rfl) (by kernel_rfl) rfl ⟨by kernel_rfl, rfl⟩
      · rw [if_neg (ne_true h11)] at h
        refine JS_cast (tm' := (.agg (cNode n_0) :: strV p_1 :: .ref 0 0 0 :: .bad :: (vB false) :: Ty.sl tS r9.1 :: (vB false) :: bz 10 (.agg (cNode n_0) :: (vB r1) :: (vB false) :: (vB false) :: strV p_1 :: .sc (.int .i64 (p_1.length : Int)) :: .sc (.bool (decide ((p_1.length : Int) > 200))) :: .sc (.bool (decide ((p_1.length : Int) > 200))) :: .bad :: .tup [Ty.sl tS r9.1, .sc (.bool r9.2)] :: strV p_1 :: .tup [Ty.sl tS r9.1, .sc (.bool r9.2)] :: Ty.sl tS r9.1 :: (vB false) :: (vB false) :: (vB false) :: bz 89 []))) (by rw [h11]) rfl ?_
        refine JS_end (.agg (cNode n_0) :: strV p_1 :: .ref 0 0 0 :: .bad :: (vB false) :: Ty.sl tS r9.1 :: (vB false) :: bz 10 (.agg (cNode n_0) :: (vB r1) :: (vB false) :: (vB false) :: strV p_1 :: .sc (.int .i64 (p_1.length : Int)) :: .sc (.bool (decide ((p_1.length : Int) > 200))) :: .sc (.bool (decide ((p_1.length : Int) > 200))) :: .bad :: .tup [Ty.sl tS r9.1, .sc (.bool r9.2)] :: strV p_1 :: .tup [Ty.sl tS r9.1, .sc (.bool r9.2)] :: Ty.sl tS r9.1 :: (vB false) :: (vB false) :: (vB false) :: .tup [] :: .tup [] :: .tup [] :: .tup [] :: (vB false) :: bz 84 [])) [.box 25 (cNode n_0)] (by kernel_rfl) ?_
        refine JK_sq ?_
        refine J_condF (v := false) (by kernel_rfl) rfl ?_
        refine J_skip ?_
        refine JK_sq ?_
        refine J_seq ?_
        refine J_region ?_
        refine JS_seg 1 (.agg (cNode n_0) :: strV p_1 :: .ref 0 0 0 :: .bad :: (vB false) :: Ty.sl tS r9.1 :: (vB false) :: bz 10 (.agg (cNode n_0) :: (vB r1) :: (vB false) :: (vB false) :: strV p_1 :: .sc (.int .i64 (p_1.length : Int)) :: .sc (.bool (decide ((p_1.length : Int) > 200))) :: .sc (.bool (decide ((p_1.length : Int) > 200))) :: .bad :: .tup [Ty.sl tS r9.1, .sc (.bool r9.2)] :: strV p_1 :: .tup [Ty.sl tS r9.1, .sc (.bool r9.2)] :: Ty.sl tS r9.1 :: (vB false) :: (vB false) :: (vB false) :: .tup [] :: .tup [] :: .tup [] :: .tup [] :: (vB false) :: .agg (cNode n_0) :: bz 83 [])) [.box 25 (cNode n_0)] (by kernel_rfl) ?_
        obtain ⟨r74, h75, h⟩ := Option.bind_eq_some_iff.1 h
        refine JS_upd (fun s => fcall E0 24 [.agg (cNode n_0)] s) (by kernel_rfl) (ref12_Walk_C n_0 _ _ h75) ?_
        refine JS_end (.agg (cNode n_0) :: strV p_1 :: .ref 0 0 0 :: .bad :: (vB false) :: Ty.sl tS r9.1 :: (vB false) :: Ty.sl tSpot r74 :: bz 9 (.agg (cNode n_0) :: (vB r1) :: (vB false) :: (vB false) :: strV p_1 :: .sc (.int .i64 (p_1.length : Int)) :: .sc (.bool (decide ((p_1.length : Int) > 200))) :: .sc (.bool (decide ((p_1.length : Int) > 200))) :: .bad :: .tup [Ty.sl tS r9.1, .sc (.bool r9.2)] :: strV p_1 :: .tup [Ty.sl tS r9.1, .sc (.bool r9.2)] :: Ty.sl tS r9.1 :: (vB false) :: (vB false) :: (vB false) :: .tup [] :: .tup [] :: .tup [] :: .tup [] :: (vB false) :: .agg (cNode n_0) :: Ty.sl tSpot r74 :: bz 82 [])) [.box 25 (cNode n_0)] (by kernel_rfl) ?_
        refine JK_sq ?_
        refine J_seq ?_
        refine J_seq ?_
        refine J_region ?_
        refine JS_end (.agg (cNode n_0) :: strV p_1 :: .ref 0 0 0 :: .bad :: (vB false) :: Ty.sl tS r9.1 :: (vB false) :: Ty.sl tSpot r74 :: (vI 0) :: bz 8 (.agg (cNode n_0) :: (vB r1) :: (vB false) :: (vB false) :: strV p_1 :: .sc (.int .i64 (p_1.length : Int)) :: .sc (.bool (decide ((p_1.length : Int) > 200))) :: .sc (.bool (decide ((p_1.length : Int) > 200))) :: .bad :: .tup [Ty.sl tS r9.1, .sc (.bool r9.2)] :: strV p_1 :: .tup [Ty.sl tS r9.1, .sc (.bool r9.2)] :: Ty.sl tS r9.1 :: (vB false) :: (vB false) :: (vB false) :: .tup [] :: .tup [] :: .tup [] :: .tup [] :: (vB false) :: .agg (cNode n_0) :: Ty.sl tSpot r74 :: bz 82 [])) [.box 25 (cNode n_0)] (by kernel_rfl) ?_
        refine JK_sq ?_
        refine J_block ?_
        obtain ⟨r111, h112, h⟩ := Option.bind_eq_some_iff.1 h
        refine J_loop (γ := Unit) h112 1 (.agg (cNode n_0) :: strV p_1 :: .ref 0 0 0 :: .bad :: (vB false) :: Ty.sl tS r9.1 :: (vB false) :: Ty.sl tSpot r74 :: (vI 0) :: bz 8 (.agg (cNode n_0) :: (vB r1) :: (vB false) :: (vB false) :: strV p_1 :: .sc (.int .i64 (p_1.length : Int)) :: .sc (.bool (decide ((p_1.length : Int) > 200))) :: .sc (.bool (decide ((p_1.length : Int) > 200))) :: .bad :: .tup [Ty.sl tS r9.1, .sc (.bool r9.2)] :: strV p_1 :: .tup [Ty.sl tS r9.1, .sc (.bool r9.2)] :: Ty.sl tS r9.1 :: (vB false) :: (vB false) :: (vB false) :: .tup [] :: .tup [] :: .tup [] :: .tup [] :: (vB false) :: .agg (cNode n_0) :: Ty.sl tSpot r74 :: bz 82 [])) [.box 25 (cNode n_0)] (fun s g => (.bad :: .bad :: .ref 0 0 0 :: bz 4 (Ty.sl tSpot r74 :: (vI s) :: bz 113 []))) (fun s g => [.box 25 (cNode n_0)]) (fun r g => match r with | (.inl r) => (.exit 0, (.bad :: .bad :: .ref 0 0 0 :: bz 4 (Ty.sl tSpot r74 :: bz 114 [])), [.box 25 (cNode n_0)]) | (.inr r) => (.ret, (.bad :: .bad :: .ref 0 0 0 :: .bad :: (vB r) :: .bad :: .bad :: Ty.sl tSpot r74 :: bz 114 []), [.box 25 (cNode n_0)])) () (by kernel_rfl) (by kernel_rfl) (kill_go (mid := (.bad :: .bad :: .ref 0 0 0 :: bz 4 (Ty.sl tSpot r74 :: (vI 0) :: bz 113 []))) (by kernel_rfl) (mB (mB (mC (by kernel_rfl) (mZ 4 (mC (sl_scrub tSpot _ _) (mC (by kernel_rfl) (mZ 113 mN)))))))) (cut_go (mid := [.box 25 (cNode n_0)]) (by kernel_rfl) (oC (oB (lC (by kernel_rfl) (lC (sl_scrub tProp _ _) (lC (sl_scrub tNode _ _) lN)))) oN)) ?_ ?_
        · rintro v76 _ y h
          unfold law16_PathWalk_l5 at h
          refine J_seq ?_
          refine J_seq ?_
          refine J_region ?_
          refine JS_end (.bad :: .bad :: .ref 0 0 0 :: bz 4 (Ty.sl tSpot r74 :: (vI v76) :: bz 31 ((vI v76) :: Ty.sl tSpot r74 :: .sc (.int .i64 (r74.length : Int)) :: .sc (.bool (decide (v76 < (r74.length : Int)))) :: bz 78 []))) [.box 25 (cNode n_0)] (by kernel_rfl) ?_
          refine JK_sq ?_
          rcases bool_cases (decide (v76 < (r74.length : Int))) with h77 | h77
          · rw [if_pos h77] at h
            refine J_condT (v := (decide (v76 < (r74.length : Int)))) (by kernel_rfl) h77 ?_
            refine J_skip ?_
            refine JK_sq ?_
            refine J_seq ?_
            refine J_block ?_
            refine J_seq ?_
            refine J_region ?_
            refine JS_seg 2 (.bad :: .bad :: .ref 0 0 0 :: bz 4 (Ty.sl tSpot r74 :: (vI v76) :: bz 31 ((vI v76) :: Ty.sl tSpot r74 :: .sc (.int .i64 (r74.length : Int)) :: .sc (.bool (decide (v76 < (r74.length : Int)))) :: .bad :: .bad :: Ty.sl tSpot r74 :: (vI v76) :: bz 74 []))) [.box 25 (cNode n_0)] (by kernel_rfl) ?_
            obtain ⟨x78, h79, h⟩ := Option.bind_eq_some_iff.1 h
            refine JS_val (fun s => aindexAddr E0.tb s 41 (Ty.sl tSpot r74) ((vI v76))) (by kernel_rfl) (sl_addr tSpot tb_41 rfl tb_44 rfl h79) ?_
            refine JS_seg 5 (.bad :: .bad :: .ref 0 0 0 :: bz 4 (Ty.sl tSpot r74 :: (vI v76) :: bz 31 ((vI v76) :: Ty.sl tSpot r74 :: .sc (.int .i64 (r74.length : Int)) :: .sc (.bool (decide (v76 < (r74.length : Int)))) :: .bad :: .bad :: Ty.sl tSpot r74 :: (vI v76) :: .fp (List.flatMap (Ty.cells tSpot) r74) (v76.toNat * Ty.size tSpot) :: .fp (List.flatMap (Ty.cells tSpot) r74) (v76.toNat * Ty.size tSpot + 1) :: .fp (List.flatMap (Ty.cells tSpot) r74) (v76.toNat * Ty.size tSpot + 3) :: bz 71 []))) [.box 25 (cNode n_0)] (by kernel_rfl) ?_
            refine JS_val (fun s => aload E0.tb s 23 (.fp (List.flatMap (Ty.cells tSpot) r74) (v76.toNat * Ty.size tSpot + 3))) (by kernel_rfl) (fp_load1 tSpot (o := 3) tb_23 rfl h79 (by rw [tSpot_cells]; rfl)) ?_
            refine JS_end (.bad :: .bad :: .ref 0 0 0 :: bz 4 (Ty.sl tSpot r74 :: (vI v76) :: Ty.sl tNode x78.node.kids :: bz 30 ((vI v76) :: Ty.sl tSpot r74 :: .sc (.int .i64 (r74.length : Int)) :: .sc (.bool (decide (v76 < (r74.length : Int)))) :: .bad :: .bad :: Ty.sl tSpot r74 :: (vI v76) :: .fp (List.flatMap (Ty.cells tSpot) r74) (v76.toNat * Ty.size tSpot) :: .fp (List.flatMap (Ty.cells tSpot) r74) (v76.toNat * Ty.size tSpot + 1) :: .fp (List.flatMap (Ty.cells tSpot) r74) (v76.toNat * Ty.size tSpot + 3) :: Ty.sl tNode x78.node.kids :: bz 70 []))) [.box 25 (cNode n_0)] (by kernel_rfl) ?_
            refine JK_sq ?_
            refine J_seq ?_
            refine J_region ?_
            refine JS_end (.bad :: .bad :: .ref 0 0 0 :: bz 4 (Ty.sl tSpot r74 :: (vI v76) :: Ty.sl tNode x78.node.kids :: (vI 0) :: bz 29 ((vI v76) :: Ty.sl tSpot r74 :: .sc (.int .i64 (r74.length : Int)) :: .sc (.bool (decide (v76 < (r74.length : Int)))) :: .bad :: .bad :: Ty.sl tSpot r74 :: (vI v76) :: .fp (List.flatMap (Ty.cells tSpot) r74) (v76.toNat * Ty.size tSpot) :: .fp (List.flatMap (Ty.cells tSpot) r74) (v76.toNat * Ty.size tSpot + 1) :: .fp (List.flatMap (Ty.cells tSpot) r74) (v76.toNat * Ty.size tSpot + 3) :: Ty.sl tNode x78.node.kids :: bz 70 []))) [.box 25 (cNode n_0)] (by kernel_rfl) ?_
            refine JK_sq ?_
            refine J_block ?_
            obtain ⟨r107, h108, h⟩ := Option.bind_eq_some_iff.1 h
            refine J_loop (γ := Unit) h108 1 (.bad :: .bad :: .ref 0 0 0 :: bz 4 (Ty.sl tSpot r74 :: (vI v76) :: Ty.sl tNode x78.node.kids :: (vI 0) :: bz 29 ((vI v76) :: Ty.sl tSpot r74 :: .sc (.int .i64 (r74.length : Int)) :: .sc (.bool (decide (v76 < (r74.length : Int)))) :: .bad :: .bad :: Ty.sl tSpot r74 :: (vI v76) :: .fp (List.flatMap (Ty.cells tSpot) r74) (v76.toNat * Ty.size tSpot) :: .fp (List.flatMap (Ty.cells tSpot) r74) (v76.toNat * Ty.size tSpot + 1) :: .fp (List.flatMap (Ty.cells tSpot) r74) (v76.toNat * Ty.size tSpot + 3) :: Ty.sl tNode x78.node.kids :: bz 70 []))) [.box 25 (cNode n_0)] (fun s g => (.bad :: .bad :: .ref 0 0 0 :: bz 4 (Ty.sl tSpot r74 :: (vI v76) :: Ty.sl tNode x78.node.kids :: (vI s) :: bz 111 []))) (fun s g => [.box 25 (cNode n_0)]) (fun r g => match r with | (.inl r) => (.exit 2, (.bad :: .bad :: .ref 0 0 0 :: bz 4 (Ty.sl tSpot r74 :: (vI v76) :: bz 113 [])), [.box 25 (cNode n_0)]) | (.inr r) => (.ret, (.bad :: .bad :: .ref 0 0 0 :: .bad :: (vB r) :: .bad :: .bad :: Ty.sl tSpot r74 :: (vI v76) :: bz 113 []), [.box 25 (cNode n_0)])) () (by kernel_rfl) (by kernel_rfl) (kill_go (mid := (.bad :: .bad :: .ref 0 0 0 :: bz 4 (Ty.sl tSpot r74 :: (vI v76) :: Ty.sl tNode x78.node.kids :: (vI 0) :: bz 111 []))) (by kernel_rfl) (mB (mB (mC (by kernel_rfl) (mZ 4 (mC (sl_scrub tSpot _ _) (mC (by kernel_rfl) (mC (sl_scrub tNode _ _) (mC (by kernel_rfl) (mZ 111 mN)))))))))) (cut_go (mid := [.box 25 (cNode n_0)]) (by kernel_rfl) (oC (oB (lC (by kernel_rfl) (lC (sl_scrub tProp _ _) (lC (sl_scrub tNode _ _) lN)))) oN)) ?_ ?_
            · rintro v80 _ y h
              unfold law16_PathWalk_l6 at h
              refine J_seq ?_
              refine J_seq ?_
              refine J_region ?_
              refine JS_end (.bad :: .bad :: .ref 0 0 0 :: bz 4 (Ty.sl tSpot r74 :: (vI v76) :: Ty.sl tNode x78.node.kids :: (vI v80) :: bz 41 ((vI v80) :: Ty.sl tNode x78.node.kids :: .sc (.int .i64 (x78.node.kids.length : Int)) :: .sc (.bool (decide (v80 < (x78.node.kids.length : Int)))) :: bz 66 []))) [.box 25 (cNode n_0)] (by kernel_rfl) ?_
              refine JK_sq ?_
              rcases bool_cases (decide (v80 < (x78.node.kids.length : Int))) with h81 | h81
              · rw [if_pos h81] at h
                refine J_condT (v := (decide (v80 < (x78.node.kids.length : Int)))) (by kernel_rfl) h81 ?_
                refine J_skip ?_
                refine JK_sq ?_
                refine J_seq ?_
                refine J_block ?_
                refine J_seq ?_
                refine J_seq ?_
                refine J_region ?_
                refine JS_seg 2 (.bad :: .bad :: .ref 0 0 0 :: bz 4 (Ty.sl tSpot r74 :: (vI v76) :: Ty.sl tNode x78.node.kids :: (vI v80) :: bz 41 ((vI v80) :: Ty.sl tNode x78.node.kids :: .sc (.int .i64 (x78.node.kids.length : Int)) :: .sc (.bool (decide (v80 < (x78.node.kids.length : Int)))) :: .bad :: .bad :: .bad :: Ty.sl tNode x78.node.kids :: (vI v80) :: bz 61 []))) [.box 25 (cNode n_0)] (by kernel_rfl) ?_
                obtain ⟨x82, h83, h⟩ := Option.bind_eq_some_iff.1 h
                refine JS_val (fun s => aindexAddr E0.tb s 23 (Ty.sl tNode x78.node.kids) ((vI v80))) (by kernel_rfl) (sl_addr tNode tb_23 rfl tb_25 rfl h83) ?_
                refine JS_seg 4 (.bad :: .bad :: .ref 0 0 0 :: bz 4 (Ty.sl tSpot r74 :: (vI v76) :: Ty.sl tNode x78.node.kids :: (vI v80) :: bz 41 ((vI v80) :: Ty.sl tNode x78.node.kids :: .sc (.int .i64 (x78.node.kids.length : Int)) :: .sc (.bool (decide (v80 < (x78.node.kids.length : Int)))) :: .bad :: .bad :: .bad :: Ty.sl tNode x78.node.kids :: (vI v80) :: .fp (List.flatMap (Ty.cells tNode) x78.node.kids) (v80.toNat * Ty.size tNode) :: .fp (List.flatMap (Ty.cells tNode) x78.node.kids) (v80.toNat * Ty.size tNode + 0) :: bz 59 []))) [.box 25 (cNode n_0)] (by kernel_rfl) ?_
                refine JS_val (fun s => aload E0.tb s 9 (.fp (List.flatMap (Ty.cells tNode) x78.node.kids) (v80.toNat * Ty.size tNode + 0))) (by kernel_rfl) (fp_load1 tNode (o := 0) tb_9 rfl h83 (by rw [tNode_cells]; rfl)) ?_
                refine JS_seg 5 (.bad :: .bad :: .ref 0 0 0 :: bz 4 (Ty.sl tSpot r74 :: (vI v76) :: Ty.sl tNode x78.node.kids :: (vI v80) :: bz 41 ((vI v80) :: Ty.sl tNode x78.node.kids :: .sc (.int .i64 (x78.node.kids.length : Int)) :: .sc (.bool (decide (v80 < (x78.node.kids.length : Int)))) :: .bad :: .bad :: .bad :: Ty.sl tNode x78.node.kids :: (vI v80) :: .fp (List.flatMap (Ty.cells tNode) x78.node.kids) (v80.toNat * Ty.size tNode) :: .fp (List.flatMap (Ty.cells tNode) x78.node.kids) (v80.toNat * Ty.size tNode + 0) :: strV x82.name :: bz 58 []))) [.box 25 (cNode n_0)] (by kernel_rfl) ?_
                obtain ⟨s84, h85, h⟩ := Option.bind_eq_some_iff.1 h
                refine JS_val (fun s => abin E0.tb s .add 9 (strV [47]) (strV x82.name)) (by kernel_rfl) (str_cat h85) ?_
                refine JS_seg 6 (.bad :: .bad :: .ref 0 0 0 :: bz 4 (Ty.sl tSpot r74 :: (vI v76) :: Ty.sl tNode x78.node.kids :: (vI v80) :: bz 41 ((vI v80) :: Ty.sl tNode x78.node.kids :: .sc (.int .i64 (x78.node.kids.length : Int)) :: .sc (.bool (decide (v80 < (x78.node.kids.length : Int)))) :: .bad :: .bad :: .bad :: Ty.sl tNode x78.node.kids :: (vI v80) :: .fp (List.flatMap (Ty.cells tNode) x78.node.kids) (v80.toNat * Ty.size tNode) :: .fp (List.flatMap (Ty.cells tNode) x78.node.kids) (v80.toNat * Ty.size tNode + 0) :: strV x82.name :: strV s84 :: bz 57 []))) [.box 25 (cNode n_0)] (by kernel_rfl) ?_
                obtain ⟨r86, h87, h⟩ := Option.bind_eq_some_iff.1 h
                refine JS_upd (fun s => fcall E0 22 [strV s84] s) (by kernel_rfl) (path_Parts_C s84 _ _ h87) ?_
                refine JS_end (.bad :: .bad :: .ref 0 0 0 :: bz 4 (Ty.sl tSpot r74 :: (vI v76) :: Ty.sl tNode x78.node.kids :: (vI v80) :: Ty.sl tS r86.1 :: .sc (.bool r86.2) :: bz 39 ((vI v80) :: Ty.sl tNode x78.node.kids :: .sc (.int .i64 (x78.node.kids.length : Int)) :: .sc (.bool (decide (v80 < (x78.node.kids.length : Int)))) :: .bad :: .bad :: .tup [Ty.sl tS r86.1, .sc (.bool r86.2)] :: Ty.sl tNode x78.node.kids :: (vI v80) :: .fp (List.flatMap (Ty.cells tNode) x78.node.kids) (v80.toNat * Ty.size tNode) :: .fp (List.flatMap (Ty.cells tNode) x78.node.kids) (v80.toNat * Ty.size tNode + 0) :: strV x82.name :: strV s84 :: .tup [Ty.sl tS r86.1, .sc (.bool r86.2)] :: Ty.sl tS r86.1 :: .sc (.bool r86.2) :: bz 54 []))) [.box 25 (cNode n_0)] (by kernel_rfl) ?_
                refine JK_sq ?_
                refine J_seq ?_
                refine J_region ?_
                refine JS_seg 3 (.bad :: .bad :: .ref 0 0 0 :: bz 4 (Ty.sl tSpot r74 :: (vI v76) :: Ty.sl tNode x78.node.kids :: (vI v80) :: Ty.sl tS r86.1 :: .sc (.bool r86.2) :: bz 39 ((vI v80) :: Ty.sl tNode x78.node.kids :: .sc (.int .i64 (x78.node.kids.length : Int)) :: .sc (.bool (decide (v80 < (x78.node.kids.length : Int)))) :: .bad :: .bad :: .tup [Ty.sl tS r86.1, .sc (.bool r86.2)] :: Ty.sl tNode x78.node.kids :: (vI v80) :: .fp (List.flatMap (Ty.cells tNode) x78.node.kids) (v80.toNat * Ty.size tNode) :: .fp (List.flatMap (Ty.cells tNode) x78.node.kids) (v80.toNat * Ty.size tNode + 0) :: strV x82.name :: strV s84 :: .tup [Ty.sl tS r86.1, .sc (.bool r86.2)] :: Ty.sl tS r86.1 :: .sc (.bool r86.2) :: .sc (.bool r86.2) :: .sc (.bool (!r86.2)) :: .sc (.bool (!r86.2)) :: bz 51 []))) [.box 25 (cNode n_0)] (by kernel_rfl) ?_
                rcases bool_cases (!r86.2) with h88 | h88
                · rw [if_pos h88] at h
                  refine JS_cast (tm' := (.bad :: .bad :: .ref 0 0 0 :: bz 4 (Ty.sl tSpot r74 :: (vI v76) :: Ty.sl tNode x78.node.kids :: (vI v80) :: Ty.sl tS r86.1 :: .sc (.bool r86.2) :: bz 39 ((vI v80) :: Ty.sl tNode x78.node.kids :: .sc (.int .i64 (x78.node.kids.length : Int)) :: .sc (.bool (decide (v80 < (x78.node.kids.length : Int)))) :: .bad :: .bad :: .tup [Ty.sl tS r86.1, .sc (.bool r86.2)] :: Ty.sl tNode x78.node.kids :: (vI v80) :: .fp (List.flatMap (Ty.cells tNode) x78.node.kids) (v80.toNat * Ty.size tNode) :: .fp (List.flatMap (Ty.cells tNode) x78.node.kids) (v80.toNat * Ty.size tNode + 0) :: strV x82.name :: strV s84 :: .tup [Ty.sl tS r86.1, .sc (.bool r86.2)] :: Ty.sl tS r86.1 :: .sc (.bool r86.2) :: .sc (.bool r86.2) :: (vB true) :: (vB true) :: bz 51 [])))) (by rw [h88]) rfl ?_
                  refine JS_end (.bad :: .bad :: .ref 0 0 0 :: bz 4 (Ty.sl tSpot r74 :: (vI v76) :: Ty.sl tNode x78.node.kids :: (vI v80) :: Ty.sl tS r86.1 :: .sc (.bool r86.2) :: bz 39 ((vI v80) :: Ty.sl tNode x78.node.kids :: .sc (.int .i64 (x78.node.kids.length : Int)) :: .sc (.bool (decide (v80 < (x78.node.kids.length : Int)))) :: .bad :: .bad :: .tup [Ty.sl tS r86.1, .sc (.bool r86.2)] :: Ty.sl tNode x78.node.kids :: (vI v80) :: .fp (List.flatMap (Ty.cells tNode) x78.node.kids) (v80.toNat * Ty.size tNode) :: .fp (List.flatMap (Ty.cells tNode) x78.node.kids) (v80.toNat * Ty.size tNode + 0) :: strV x82.name :: strV s84 :: .tup [Ty.sl tS r86.1, .sc (.bool r86.2)] :: Ty.sl tS r86.1 :: .sc (.bool r86.2) :: .sc (.bool r86.2) :: (vB true) :: (vB true) :: .tup [] :: .tup [] :: .tup [] :: (vB true) :: bz 47 []))) [.box 25 (cNode n_0)] (by kernel_rfl) ?_
                  refine JK_sq ?_
                  refine J_condT (v := true) (by kernel_rfl) rfl ?_
                  refine J_seq ?_
                  refine J_region ?_
                  refine JS_seg 0 (.bad :: .bad :: .ref 0 0 0 :: bz 4 (Ty.sl tSpot r74 :: (vI v76) :: Ty.sl tNode x78.node.kids :: (vI v80) :: Ty.sl tS r86.1 :: .sc (.bool r86.2) :: bz 39 ((vI v80) :: Ty.sl tNode x78.node.kids :: .sc (.int .i64 (x78.node.kids.length : Int)) :: .sc (.bool (decide (v80 < (x78.node.kids.length : Int)))) :: .bad :: .bad :: .tup [Ty.sl tS r86.1, .sc (.bool r86.2)] :: Ty.sl tNode x78.node.kids :: (vI v80) :: .fp (List.flatMap (Ty.cells tNode) x78.node.kids) (v80.toNat * Ty.size tNode) :: .fp (List.flatMap (Ty.cells tNode) x78.node.kids) (v80.toNat * Ty.size tNode + 0) :: strV x82.name :: strV s84 :: .tup [Ty.sl tS r86.1, .sc (.bool r86.2)] :: Ty.sl tS r86.1 :: .sc (.bool r86.2) :: .sc (.bool r86.2) :: (vB true) :: (vB true) :: .tup [] :: .tup [] :: .tup [] :: (vB true) :: bz 47 []))) [.box 25 (cNode n_0)] (by kernel_rfl) ?_
                  obtain ⟨r89, h90, h⟩ := Option.bind_eq_some_iff.1 h
                  refine JS_upd (fun s => fcall E0 10 [] s) (by kernel_rfl) (law16_awake_C _ _ h90) ?_
                  refine JS_end (.bad :: .bad :: .ref 0 0 0 :: .bad :: (vB r89) :: .bad :: .bad :: Ty.sl tSpot r74 :: (vI v76) :: Ty.sl tNode x78.node.kids :: (vI v80) :: Ty.sl tS r86.1 :: .sc (.bool r86.2) :: bz 39 ((vI v80) :: Ty.sl tNode x78.node.kids :: .sc (.int .i64 (x78.node.kids.length : Int)) :: .sc (.bool (decide (v80 < (x78.node.kids.length : Int)))) :: .bad :: .bad :: .tup [Ty.sl tS r86.1, .sc (.bool r86.2)] :: Ty.sl tNode x78.node.kids :: (vI v80) :: .fp (List.flatMap (Ty.cells tNode) x78.node.kids) (v80.toNat * Ty.size tNode) :: .fp (List.flatMap (Ty.cells tNode) x78.node.kids) (v80.toNat * Ty.size tNode + 0) :: strV x82.name :: strV s84 :: .tup [Ty.sl tS r86.1, .sc (.bool r86.2)] :: Ty.sl tS r86.1 :: .sc (.bool r86.2) :: .sc (.bool r86.2) :: (vB true) :: (vB true) :: .tup [] :: .tup [] :: .tup [] :: (vB true) :: (vB r89) :: bz 46 [])) [.box 25 (cNode n_0)] (by kernel_rfl) ?_
                  refine JK_sq ?_
                  refine J_ret ?_
                  refine JK_sq_ret ?_
                  refine JK_bl_ret ?_
                  refine JK_sq_ret ?_
                  refine JK_nil ?_
                  obtain rfl := Option.some.inj h
                  exact turn_ret (tm' := (.bad :: .bad :: .ref 0 0 0 :: .bad :: (vB r89) :: .bad :: .bad :: Ty.sl tSpot r74 :: (vI v76) :: bz 113 [])) (st' := [.box 25 (cNode n_0)]) () (kill_go (mid := (.bad :: .bad :: .ref 0 0 0 :: .bad :: (vB r89) :: .bad :: .bad :: Ty.sl tSpot r74 :: (vI v76) :: bz 113 [])) (by kernel_rfl) (mB (mB (mC (by kernel_rfl) (mB (mC (by kernel_rfl) (mB (mB (mC (sl_scrub tSpot _ _) (mC (by kernel_rfl) (mZ 113 mN))))))))))) (cut_go (mid := [.box 25 (cNode n_0)]) (by kernel_rfl) (oC (oB (lC (by kernel_rfl) (lC (sl_scrub tProp _ _) (lC (sl_scrub tNode _ _) lN)))) oN)) (by kernel_rfl)
                · rw [if_neg (ne_true h88)] at h
                  refine JS_cast (tm' := (.bad :: .bad :: .ref 0 0 0 :: bz 4 (Ty.sl tSpot r74 :: (vI v76) :: Ty.sl tNode x78.node.kids :: (vI v80) :: Ty.sl tS r86.1 :: .sc (.bool r86.2) :: bz 39 ((vI v80) :: Ty.sl tNode x78.node.kids :: .sc (.int .i64 (x78.node.kids.length : Int)) :: .sc (.bool (decide (v80 < (x78.node.kids.length : Int)))) :: .bad :: .bad :: .tup [Ty.sl tS r86.1, .sc (.bool r86.2)] :: Ty.sl tNode x78.node.kids :: (vI v80) :: .fp (List.flatMap (Ty.cells tNode) x78.node.kids) (v80.toNat * Ty.size tNode) :: .fp (List.flatMap (Ty.cells tNode) x78.node.kids) (v80.toNat * Ty.size tNode + 0) :: strV x82.name :: strV s84 :: .tup [Ty.sl tS r86.1, .sc (.bool r86.2)] :: Ty.sl tS r86.1 :: .sc (.bool r86.2) :: .sc (.bool r86.2) :: (vB false) :: (vB false) :: bz 51 [])))) (by rw [h88]) rfl ?_
                  refine JS_end (.bad :: .bad :: .ref 0 0 0 :: bz 4 (Ty.sl tSpot r74 :: (vI v76) :: Ty.sl tNode x78.node.kids :: (vI v80) :: Ty.sl tS r86.1 :: .sc (.bool r86.2) :: bz 39 ((vI v80) :: Ty.sl tNode x78.node.kids :: .sc (.int .i64 (x78.node.kids.length : Int)) :: .sc (.bool (decide (v80 < (x78.node.kids.length : Int)))) :: .bad :: .bad :: .tup [Ty.sl tS r86.1, .sc (.bool r86.2)] :: Ty.sl tNode x78.node.kids :: (vI v80) :: .fp (List.flatMap (Ty.cells tNode) x78.node.kids) (v80.toNat * Ty.size tNode) :: .fp (List.flatMap (Ty.cells tNode) x78.node.kids) (v80.toNat * Ty.size tNode + 0) :: strV x82.name :: strV s84 :: .tup [Ty.sl tS r86.1, .sc (.bool r86.2)] :: Ty.sl tS r86.1 :: .sc (.bool r86.2) :: .sc (.bool r86.2) :: (vB false) :: (vB false) :: Ty.sl tS r86.1 :: .sc (.int .i64 (r86.1.length : Int)) :: .sc (.bool ((r86.1.length : Int) != 1)) :: .sc (.bool ((r86.1.length : Int) != 1)) :: bz 47 []))) [.box 25 (cNode n_0)] (by kernel_rfl) ?_
                  refine JK_sq ?_
                  rcases bool_cases ((r86.1.length : Int) != 1) with h91 | h91
                  · rw [if_pos h91] at h
                    refine J_condT (v := ((r86.1.length : Int) != 1)) (by kernel_rfl) h91 ?_
                    refine J_seq ?_
                    refine J_region ?_
                    refine JS_seg 0 (.bad :: .bad :: .ref 0 0 0 :: bz 4 (Ty.sl tSpot r74 :: (vI v76) :: Ty.sl tNode x78.node.kids :: (vI v80) :: Ty.sl tS r86.1 :: .sc (.bool r86.2) :: bz 39 ((vI v80) :: Ty.sl tNode x78.node.kids :: .sc (.int .i64 (x78.node.kids.length : Int)) :: .sc (.bool (decide (v80 < (x78.node.kids.length : Int)))) :: .bad :: .bad :: .tup [Ty.sl tS r86.1, .sc (.bool r86.2)] :: Ty.sl tNode x78.node.kids :: (vI v80) :: .fp (List.flatMap (Ty.cells tNode) x78.node.kids) (v80.toNat * Ty.size tNode) :: .fp (List.flatMap (Ty.cells tNode) x78.node.kids) (v80.toNat * Ty.size tNode + 0) :: strV x82.name :: strV s84 :: .tup [Ty.sl tS r86.1, .sc (.bool r86.2)] :: Ty.sl tS r86.1 :: .sc (.bool r86.2) :: .sc (.bool r86.2) :: (vB false) :: (vB false) :: Ty.sl tS r86.1 :: .sc (.int .i64 (r86.1.length : Int)) :: .sc (.bool ((r86.1.length : Int) != 1)) :: .sc (.bool ((r86.1.length : Int) != 1)) :: bz 47 []))) [.box 25 (cNode n_0)] (by kernel_rfl) ?_
                    obtain ⟨r92, h93, h⟩ := Option.bind_eq_some_iff.1 h
                    refine JS_upd (fun s => fcall E0 10 [] s) (by kernel_rfl) (law16_awake_C _ _ h93) ?_
                    refine JS_end (.bad :: .bad :: .ref 0 0 0 :: .bad :: (vB r92) :: .bad :: .bad :: Ty.sl tSpot r74 :: (vI v76) :: Ty.sl tNode x78.node.kids :: (vI v80) :: Ty.sl tS r86.1 :: .sc (.bool r86.2) :: bz 39 ((vI v80) :: Ty.sl tNode x78.node.kids :: .sc (.int .i64 (x78.node.kids.length : Int)) :: .sc (.bool (decide (v80 < (x78.node.kids.length : Int)))) :: .bad :: .bad :: .tup [Ty.sl tS r86.1, .sc (.bool r86.2)] :: Ty.sl tNode x78.node.kids :: (vI v80) :: .fp (List.flatMap (Ty.cells tNode) x78.node.kids) (v80.toNat * Ty.size tNode) :: .fp (List.flatMap (Ty.cells tNode) x78.node.kids) (v80.toNat * Ty.size tNode + 0) :: strV x82.name :: strV s84 :: .tup [Ty.sl tS r86.1, .sc (.bool r86.2)] :: Ty.sl tS r86.1 :: .sc (.bool r86.2) :: .sc (.bool r86.2) :: (vB false) :: (vB false) :: Ty.sl tS r86.1 :: .sc (.int .i64 (r86.1.length : Int)) :: .sc (.bool ((r86.1.length : Int) != 1)) :: .sc (.bool ((r86.1.length : Int) != 1)) :: (vB r92) :: bz 46 [])) [.box 25 (cNode n_0)] (by kernel_rfl) ?_
                    refine JK_sq ?_
                    refine J_ret ?_
                    refine JK_sq_ret ?_
                    refine JK_bl_ret ?_
                    refine JK_sq_ret ?_
                    refine JK_nil ?_
                    obtain rfl := Option.some.inj h
                    exact turn_ret (tm' := (.bad :: .bad :: .ref 0 0 0 :: .bad :: (vB r92) :: .bad :: .bad :: Ty.sl tSpot r74 :: (vI v76) :: bz 113 [])) (st' := [.box 25 (cNode n_0)]) () (kill_go (mid := (.bad :: .bad :: .ref 0 0 0 :: .bad :: (vB r92) :: .bad :: .bad :: Ty.sl tSpot r74 :: (vI v76) :: bz 113 [])) (by kernel_rfl) (mB (mB (mC (by kernel_rfl) (mB (mC (by kernel_rfl) (mB (mB (mC (sl_scrub tSpot _ _) (mC (by kernel_rfl) (mZ 113 mN))))))))))) (cut_go (mid := [.box 25 (cNode n_0)]) (by kernel_rfl) (oC (oB (lC (by kernel_rfl) (lC (sl_scrub tProp _ _) (lC (sl_scrub tNode _ _) lN)))) oN)) (by kernel_rfl)
                  · rw [if_neg (ne_true h91)] at h
                    refine J_condF (v := ((r86.1.length : Int) != 1)) (by kernel_rfl) h91 ?_
                    refine J_skip ?_
                    refine JK_sq ?_
                    refine J_seq ?_
                    refine J_region ?_
                    refine JS_end (.bad :: .bad :: .ref 0 0 0 :: bz 4 (Ty.sl tSpot r74 :: (vI v76) :: Ty.sl tNode x78.node.kids :: (vI v80) :: Ty.sl tS r86.1 :: .sc (.bool r86.2) :: (vI 0) :: bz 38 ((vI v80) :: Ty.sl tNode x78.node.kids :: .sc (.int .i64 (x78.node.kids.length : Int)) :: .sc (.bool (decide (v80 < (x78.node.kids.length : Int)))) :: .bad :: .bad :: .tup [Ty.sl tS r86.1, .sc (.bool r86.2)] :: Ty.sl tNode x78.node.kids :: (vI v80) :: .fp (List.flatMap (Ty.cells tNode) x78.node.kids) (v80.toNat * Ty.size tNode) :: .fp (List.flatMap (Ty.cells tNode) x78.node.kids) (v80.toNat * Ty.size tNode + 0) :: strV x82.name :: strV s84 :: .tup [Ty.sl tS r86.1, .sc (.bool r86.2)] :: Ty.sl tS r86.1 :: .sc (.bool r86.2) :: .sc (.bool r86.2) :: (vB false) :: (vB false) :: Ty.sl tS r86.1 :: .sc (.int .i64 (r86.1.length : Int)) :: .sc (.bool ((r86.1.length : Int) != 1)) :: .sc (.bool ((r86.1.length : Int) != 1)) :: bz 47 []))) [.box 25 (cNode n_0)] (by kernel_rfl) ?_
                    refine JK_sq ?_
                    refine J_block ?_
                    obtain ⟨r103, h104, h⟩ := Option.bind_eq_some_iff.1 h
                    refine J_loop (γ := Unit) h104 1 (.bad :: .bad :: .ref 0 0 0 :: bz 4 (Ty.sl tSpot r74 :: (vI v76) :: Ty.sl tNode x78.node.kids :: (vI v80) :: Ty.sl tS r86.1 :: .sc (.bool r86.2) :: (vI 0) :: bz 38 ((vI v80) :: Ty.sl tNode x78.node.kids :: .sc (.int .i64 (x78.node.kids.length : Int)) :: .sc (.bool (decide (v80 < (x78.node.kids.length : Int)))) :: .bad :: .bad :: .tup [Ty.sl tS r86.1, .sc (.bool r86.2)] :: Ty.sl tNode x78.node.kids :: (vI v80) :: .fp (List.flatMap (Ty.cells tNode) x78.node.kids) (v80.toNat * Ty.size tNode) :: .fp (List.flatMap (Ty.cells tNode) x78.node.kids) (v80.toNat * Ty.size tNode + 0) :: strV x82.name :: strV s84 :: .tup [Ty.sl tS r86.1, .sc (.bool r86.2)] :: Ty.sl tS r86.1 :: .sc (.bool r86.2) :: .sc (.bool r86.2) :: (vB false) :: (vB false) :: Ty.sl tS r86.1 :: .sc (.int .i64 (r86.1.length : Int)) :: .sc (.bool ((r86.1.length : Int) != 1)) :: .sc (.bool ((r86.1.length : Int) != 1)) :: bz 47 []))) [.box 25 (cNode n_0)] (fun s g => (.bad :: .bad :: .ref 0 0 0 :: bz 4 (Ty.sl tSpot r74 :: (vI v76) :: Ty.sl tNode x78.node.kids :: (vI v80) :: .bad :: .bad :: (vI s) :: bz 108 []))) (fun s g => [.box 25 (cNode n_0)]) (fun r g => match r with | (.inl r) => (.exit 4, (.bad :: .bad :: .ref 0 0 0 :: bz 4 (Ty.sl tSpot r74 :: (vI v76) :: Ty.sl tNode x78.node.kids :: (vI v80) :: bz 111 [])), [.box 25 (cNode n_0)]) | (.inr r) => (.ret, (.bad :: .bad :: .ref 0 0 0 :: .bad :: (vB r) :: .bad :: .bad :: Ty.sl tSpot r74 :: (vI v76) :: Ty.sl tNode x78.node.kids :: (vI v80) :: bz 111 []), [.box 25 (cNode n_0)])) () (by kernel_rfl) (by kernel_rfl) (kill_go (mid := (.bad :: .bad :: .ref 0 0 0 :: bz 4 (Ty.sl tSpot r74 :: (vI v76) :: Ty.sl tNode x78.node.kids :: (vI v80) :: .bad :: .bad :: (vI 0) :: bz 108 []))) (by kernel_rfl) (mB (mB (mC (by kernel_rfl) (mZ 4 (mC (sl_scrub tSpot _ _) (mC (by kernel_rfl) (mC (sl_scrub tNode _ _) (mC (by kernel_rfl) (mB (mB (mC (by kernel_rfl) (mZ 108 mN))))))))))))) (cut_go (mid := [.box 25 (cNode n_0)]) (by kernel_rfl) (oC (oB (lC (by kernel_rfl) (lC (sl_scrub tProp _ _) (lC (sl_scrub tNode _ _) lN)))) oN)) ?_ ?_
                    · rintro v94 _ y h
                      unfold law16_PathWalk_l7 at h
                      refine J_seq ?_
                      refine J_seq ?_
                      refine J_region ?_
                      refine JS_end (.bad :: .bad :: .ref 0 0 0 :: bz 4 (Ty.sl tSpot r74 :: (vI v76) :: Ty.sl tNode x78.node.kids :: (vI v80) :: .bad :: .bad :: (vI v94) :: bz 62 ((vI v94) :: (vI v80) :: .sc (.bool (decide (v94 < v80))) :: bz 43 []))) [.box 25 (cNode n_0)] (by kernel_rfl) ?_
                      refine JK_sq ?_
                      rcases bool_cases (decide (v94 < v80)) with h95 | h95
                      · rw [if_pos h95] at h
                        refine J_condT (v := (decide (v94 < v80))) (by kernel_rfl) h95 ?_
                        refine J_skip ?_
                        refine JK_sq ?_
                        refine J_seq ?_
                        refine J_block ?_
                        refine J_seq ?_
                        refine J_draw ?_
                        refine JD_seg [] (.bad :: .bad :: .ref 0 0 0 :: bz 4 (Ty.sl tSpot r74 :: (vI v76) :: Ty.sl tNode x78.node.kids :: (vI v80) :: .bad :: .bad :: (vI v94) :: bz 62 ((vI v94) :: (vI v80) :: .sc (.bool (decide (v94 < v80))) :: bz 43 []))) [.box 25 (cNode n_0)] (by kernel_rfl) (by kernel_rfl) (by kernel_rfl) ?_
                        refine JD_upd (c := .free) (fun s => some (Ty.sl tNode x78.node.kids, [.box 25 (cNode n_0)])) (by kernel_rfl) rfl (by kernel_rfl) ?_
                        refine JD_upd (c := .free) (fun s => some ((vI v80), [.box 25 (cNode n_0)])) (by kernel_rfl) rfl (by kernel_rfl) ?_
                        refine JD_seg [.free, .free] (.bad :: .bad :: .ref 0 0 0 :: bz 4 (Ty.sl tSpot r74 :: (vI v76) :: Ty.sl tNode x78.node.kids :: (vI v80) :: .bad :: .bad :: (vI v94) :: bz 62 ((vI v94) :: (vI v80) :: .sc (.bool (decide (v94 < v80))) :: .bad :: .bad :: Ty.sl tNode x78.node.kids :: (vI v80) :: bz 39 []))) [.box 25 (cNode n_0)] (by kernel_rfl) (by kernel_rfl) (by kernel_rfl) ?_
                        obtain ⟨x96, h97, h⟩ := Option.bind_eq_some_iff.1 h
                        refine JD_val (c := .reads) (fun s => aindexAddr E0.tb s 23 (Ty.sl tNode x78.node.kids) ((vI v80))) (by kernel_rfl) (sl_addr tNode tb_23 rfl tb_25 rfl h97) (by kernel_rfl) ?_
                        refine JD_upd (c := .reads) (fun s => some (.fp (List.flatMap (Ty.cells tNode) x78.node.kids) (v80.toNat * Ty.size tNode + 0), [.box 25 (cNode n_0)])) (by kernel_rfl) rfl (by kernel_rfl) ?_
                        refine JD_seg [.free, .free, .reads, .reads] (.bad :: .bad :: .ref 0 0 0 :: bz 4 (Ty.sl tSpot r74 :: (vI v76) :: Ty.sl tNode x78.node.kids :: (vI v80) :: .bad :: .bad :: (vI v94) :: bz 62 ((vI v94) :: (vI v80) :: .sc (.bool (decide (v94 < v80))) :: .bad :: .bad :: Ty.sl tNode x78.node.kids :: (vI v80) :: .fp (List.flatMap (Ty.cells tNode) x78.node.kids) (v80.toNat * Ty.size tNode) :: .fp (List.flatMap (Ty.cells tNode) x78.node.kids) (v80.toNat * Ty.size tNode + 0) :: bz 37 []))) [.box 25 (cNode n_0)] (by kernel_rfl) (by kernel_rfl) (by kernel_rfl) ?_
                        refine JD_val (c := .reads) (fun s => aload E0.tb s 9 (.fp (List.flatMap (Ty.cells tNode) x78.node.kids) (v80.toNat * Ty.size tNode + 0))) (by kernel_rfl) (fp_load1 tNode (o := 0) tb_9 rfl h97 (by rw [tNode_cells]; rfl)) (by kernel_rfl) ?_
                        refine JD_upd (c := .free) (fun s => some (Ty.sl tNode x78.node.kids, [.box 25 (cNode n_0)])) (by kernel_rfl) rfl (by kernel_rfl) ?_
                        refine JD_upd (c := .free) (fun s => some ((vI v94), [.box 25 (cNode n_0)])) (by kernel_rfl) rfl (by kernel_rfl) ?_
                        refine JD_seg [.free, .free, .reads, .reads, .reads, .free, .free] (.bad :: .bad :: .ref 0 0 0 :: bz 4 (Ty.sl tSpot r74 :: (vI v76) :: Ty.sl tNode x78.node.kids :: (vI v80) :: .bad :: .bad :: (vI v94) :: bz 62 ((vI v94) :: (vI v80) :: .sc (.bool (decide (v94 < v80))) :: .bad :: .bad :: Ty.sl tNode x78.node.kids :: (vI v80) :: .fp (List.flatMap (Ty.cells tNode) x78.node.kids) (v80.toNat * Ty.size tNode) :: .fp (List.flatMap (Ty.cells tNode) x78.node.kids) (v80.toNat * Ty.size tNode + 0) :: strV x96.name :: Ty.sl tNode x78.node.kids :: (vI v94) :: bz 34 []))) [.box 25 (cNode n_0)] (by kernel_rfl) (by kernel_rfl) (by kernel_rfl) ?_
                        obtain ⟨x98, h99, h⟩ := Option.bind_eq_some_iff.1 h
                        refine JD_val (c := .reads) (fun s => aindexAddr E0.tb s 23 (Ty.sl tNode x78.node.kids) ((vI v94))) (by kernel_rfl) (sl_addr tNode tb_23 rfl tb_25 rfl h99) (by kernel_rfl) ?_
                        refine JD_upd (c := .reads) (fun s => some (.fp (List.flatMap (Ty.cells tNode) x78.node.kids) (v94.toNat * Ty.size tNode + 0), [.box 25 (cNode n_0)])) (by kernel_rfl) rfl (by kernel_rfl) ?_
                        refine JD_seg [.free, .free, .reads, .reads, .reads, .free, .free, .reads, .reads] (.bad :: .bad :: .ref 0 0 0 :: bz 4 (Ty.sl tSpot r74 :: (vI v76) :: Ty.sl tNode x78.node.kids :: (vI v80) :: .bad :: .bad :: (vI v94) :: bz 62 ((vI v94) :: (vI v80) :: .sc (.bool (decide (v94 < v80))) :: .bad :: .bad :: Ty.sl tNode x78.node.kids :: (vI v80) :: .fp (List.flatMap (Ty.cells tNode) x78.node.kids) (v80.toNat * Ty.size tNode) :: .fp (List.flatMap (Ty.cells tNode) x78.node.kids) (v80.toNat * Ty.size tNode + 0) :: strV x96.name :: Ty.sl tNode x78.node.kids :: (vI v94) :: .fp (List.flatMap (Ty.cells tNode) x78.node.kids) (v94.toNat * Ty.size tNode) :: .fp (List.flatMap (Ty.cells tNode) x78.node.kids) (v94.toNat * Ty.size tNode + 0) :: bz 32 []))) [.box 25 (cNode n_0)] (by kernel_rfl) (by kernel_rfl) (by kernel_rfl) ?_
                        refine JD_val (c := .reads) (fun s => aload E0.tb s 9 (.fp (List.flatMap (Ty.cells tNode) x78.node.kids) (v94.toNat * Ty.size tNode + 0))) (by kernel_rfl) (fp_load1 tNode (o := 0) tb_9 rfl h99 (by rw [tNode_cells]; rfl)) (by kernel_rfl) ?_
                        refine JD_seg [.free, .free, .reads, .reads, .reads, .free, .free, .reads, .reads, .reads] (.bad :: .bad :: .ref 0 0 0 :: bz 4 (Ty.sl tSpot r74 :: (vI v76) :: Ty.sl tNode x78.node.kids :: (vI v80) :: .bad :: .bad :: (vI v94) :: bz 62 ((vI v94) :: (vI v80) :: .sc (.bool (decide (v94 < v80))) :: .bad :: .bad :: Ty.sl tNode x78.node.kids :: (vI v80) :: .fp (List.flatMap (Ty.cells tNode) x78.node.kids) (v80.toNat * Ty.size tNode) :: .fp (List.flatMap (Ty.cells tNode) x78.node.kids) (v80.toNat * Ty.size tNode + 0) :: strV x96.name :: Ty.sl tNode x78.node.kids :: (vI v94) :: .fp (List.flatMap (Ty.cells tNode) x78.node.kids) (v94.toNat * Ty.size tNode) :: .fp (List.flatMap (Ty.cells tNode) x78.node.kids) (v94.toNat * Ty.size tNode + 0) :: strV x98.name :: bz 31 []))) [.box 25 (cNode n_0)] (by kernel_rfl) (by kernel_rfl) (by kernel_rfl) ?_
                        refine JD_val (c := .reads) (fun s => abin E0.tb s .eql 9 (strV x96.name) (strV x98.name)) (by kernel_rfl) (str_eq x96.name x98.name) (by kernel_rfl) ?_
                        refine JD_seg [.free, .free, .reads, .reads, .reads, .free, .free, .reads, .reads, .reads, .reads] (.bad :: .bad :: .ref 0 0 0 :: bz 4 (Ty.sl tSpot r74 :: (vI v76) :: Ty.sl tNode x78.node.kids :: (vI v80) :: .bad :: .bad :: (vI v94) :: bz 62 ((vI v94) :: (vI v80) :: .sc (.bool (decide (v94 < v80))) :: .bad :: .bad :: Ty.sl tNode x78.node.kids :: (vI v80) :: .fp (List.flatMap (Ty.cells tNode) x78.node.kids) (v80.toNat * Ty.size tNode) :: .fp (List.flatMap (Ty.cells tNode) x78.node.kids) (v80.toNat * Ty.size tNode + 0) :: strV x96.name :: Ty.sl tNode x78.node.kids :: (vI v94) :: .fp (List.flatMap (Ty.cells tNode) x78.node.kids) (v94.toNat * Ty.size tNode) :: .fp (List.flatMap (Ty.cells tNode) x78.node.kids) (v94.toNat * Ty.size tNode + 0) :: strV x98.name :: .sc (.bool (x96.name == x98.name)) :: bz 30 []))) [.box 25 (cNode n_0)] (by kernel_rfl) (by kernel_rfl) (by kernel_rfl) ?_
                        refine JD_end (by kernel_rfl) (by kernel_rfl) ?_
                        refine JK_sq ?_
                        rcases bool_cases (x96.name == x98.name) with h100 | h100
                        · rw [if_pos h100] at h
                          refine J_condT (v := (x96.name == x98.name)) (by kernel_rfl) h100 ?_
                          refine J_seq ?_
                          refine J_region ?_
                          refine JS_seg 0 (.bad :: .bad :: .ref 0 0 0 :: bz 4 (Ty.sl tSpot r74 :: (vI v76) :: Ty.sl tNode x78.node.kids :: (vI v80) :: .bad :: .bad :: (vI v94) :: bz 62 ((vI v94) :: (vI v80) :: .sc (.bool (decide (v94 < v80))) :: .bad :: .bad :: Ty.sl tNode x78.node.kids :: (vI v80) :: .fp (List.flatMap (Ty.cells tNode) x78.node.kids) (v80.toNat * Ty.size tNode) :: .fp (List.flatMap (Ty.cells tNode) x78.node.kids) (v80.toNat * Ty.size tNode + 0) :: strV x96.name :: Ty.sl tNode x78.node.kids :: (vI v94) :: .fp (List.flatMap (Ty.cells tNode) x78.node.kids) (v94.toNat * Ty.size tNode) :: .fp (List.flatMap (Ty.cells tNode) x78.node.kids) (v94.toNat * Ty.size tNode + 0) :: strV x98.name :: .sc (.bool (x96.name == x98.name)) :: bz 30 []))) [.box 25 (cNode n_0)] (by kernel_rfl) ?_
                          obtain ⟨r101, h102, h⟩ := Option.bind_eq_some_iff.1 h
                          refine JS_upd (fun s => fcall E0 10 [] s) (by kernel_rfl) (law16_awake_C _ _ h102) ?_
                          refine JS_end (.bad :: .bad :: .ref 0 0 0 :: .bad :: (vB r101) :: .bad :: .bad :: Ty.sl tSpot r74 :: (vI v76) :: Ty.sl tNode x78.node.kids :: (vI v80) :: .bad :: .bad :: (vI v94) :: bz 62 ((vI v94) :: (vI v80) :: .sc (.bool (decide (v94 < v80))) :: .bad :: .bad :: Ty.sl tNode x78.node.kids :: (vI v80) :: .fp (List.flatMap (Ty.cells tNode) x78.node.kids) (v80.toNat * Ty.size tNode) :: .fp (List.flatMap (Ty.cells tNode) x78.node.kids) (v80.toNat * Ty.size tNode + 0) :: strV x96.name :: Ty.sl tNode x78.node.kids :: (vI v94) :: .fp (List.flatMap (Ty.cells tNode) x78.node.kids) (v94.toNat * Ty.size tNode) :: .fp (List.flatMap (Ty.cells tNode) x78.node.kids) (v94.toNat * Ty.size tNode + 0) :: strV x98.name :: .sc (.bool (x96.name == x98.name)) :: (vB r101) :: bz 29 [])) [.box 25 (cNode n_0)] (by kernel_rfl) ?_
                          refine JK_sq ?_
                          refine J_ret ?_
                          refine JK_bl_ret ?_
                          refine JK_sq_ret ?_
                          refine JK_nil ?_
                          obtain rfl := Option.some.inj h
                          exact turn_ret (tm' := (.bad :: .bad :: .ref 0 0 0 :: .bad :: (vB r101) :: .bad :: .bad :: Ty.sl tSpot r74 :: (vI v76) :: Ty.sl tNode x78.node.kids :: (vI v80) :: bz 111 [])) (st' := [.box 25 (cNode n_0)]) () (kill_go (mid := (.bad :: .bad :: .ref 0 0 0 :: .bad :: (vB r101) :: .bad :: .bad :: Ty.sl tSpot r74 :: (vI v76) :: Ty.sl tNode x78.node.kids :: (vI v80) :: bz 111 [])) (by kernel_rfl) (mB (mB (mC (by kernel_rfl) (mB (mC (by kernel_rfl) (mB (mB (mC (sl_scrub tSpot _ _) (mC (by kernel_rfl) (mC (sl_scrub tNode _ _) (mC (by kernel_rfl) (mZ 111 mN))))))))))))) (cut_go (mid := [.box 25 (cNode n_0)]) (by kernel_rfl) (oC (oB (lC (by kernel_rfl) (lC (sl_scrub tProp _ _) (lC (sl_scrub tNode _ _) lN)))) oN)) (by kernel_rfl)
                        · rw [if_neg (ne_true h100)] at h
                          refine J_condF (v := (x96.name == x98.name)) (by kernel_rfl) h100 ?_
                          refine J_skip ?_
                          refine JK_bl ?_
                          refine JK_sq ?_
                          refine J_region ?_
                          refine JS_end (.bad :: .bad :: .ref 0 0 0 :: bz 4 (Ty.sl tSpot r74 :: (vI v76) :: Ty.sl tNode x78.node.kids :: (vI v80) :: .bad :: .bad :: .sc (.int .i64 (IntKind.wrap .i64 (v94 + 1))) :: bz 62 ((vI v94) :: (vI v80) :: .sc (.bool (decide (v94 < v80))) :: (vI v94) :: .sc (.int .i64 (IntKind.wrap .i64 (v94 + 1))) :: Ty.sl tNode x78.node.kids :: (vI v80) :: .fp (List.flatMap (Ty.cells tNode) x78.node.kids) (v80.toNat * Ty.size tNode) :: .fp (List.flatMap (Ty.cells tNode) x78.node.kids) (v80.toNat * Ty.size tNode + 0) :: strV x96.name :: Ty.sl tNode x78.node.kids :: (vI v94) :: .fp (List.flatMap (Ty.cells tNode) x78.node.kids) (v94.toNat * Ty.size tNode) :: .fp (List.flatMap (Ty.cells tNode) x78.node.kids) (v94.toNat * Ty.size tNode + 0) :: strV x98.name :: .sc (.bool (x96.name == x98.name)) :: bz 30 []))) [.box 25 (cNode n_0)] (by kernel_rfl) ?_
                          refine JK_nil ?_
                          obtain rfl := Option.some.inj h
                          exact turn_next () (kill_go (mid := (.bad :: .bad :: .ref 0 0 0 :: bz 4 (Ty.sl tSpot r74 :: (vI v76) :: Ty.sl tNode x78.node.kids :: (vI v80) :: .bad :: .bad :: .sc (.int .i64 (IntKind.wrap .i64 (v94 + 1))) :: bz 108 []))) (by kernel_rfl) (mB (mB (mC (by kernel_rfl) (mZ 4 (mC (sl_scrub tSpot _ _) (mC (by kernel_rfl) (mC (sl_scrub tNode _ _) (mC (by kernel_rfl) (mB (mB (mC (by kernel_rfl) (mZ 108 mN))))))))))))) (cut_go (mid := [.box 25 (cNode n_0)]) (by kernel_rfl) (oC (oB (lC (by kernel_rfl) (lC (sl_scrub tProp _ _) (lC (sl_scrub tNode _ _) lN)))) oN))
                      · rw [if_neg (ne_true h95)] at h
                        refine J_condF (v := (decide (v94 < v80))) (by kernel_rfl) h95 ?_
                        refine J_exit ?_
                        refine JK_sq_exit ?_
                        refine JK_nil ?_
                        obtain rfl := Option.some.inj h
                        exact turn_exit (tm' := (.bad :: .bad :: .ref 0 0 0 :: bz 4 (Ty.sl tSpot r74 :: (vI v76) :: Ty.sl tNode x78.node.kids :: (vI v80) :: bz 111 []))) (st' := [.box 25 (cNode n_0)]) () (kill_go (mid := (.bad :: .bad :: .ref 0 0 0 :: bz 4 (Ty.sl tSpot r74 :: (vI v76) :: Ty.sl tNode x78.node.kids :: (vI v80) :: bz 111 []))) (by kernel_rfl) (mB (mB (mC (by kernel_rfl) (mZ 4 (mC (sl_scrub tSpot _ _) (mC (by kernel_rfl) (mC (sl_scrub tNode _ _) (mC (by kernel_rfl) (mZ 111 mN)))))))))) (cut_go (mid := [.box 25 (cNode n_0)]) (by kernel_rfl) (oC (oB (lC (by kernel_rfl) (lC (sl_scrub tProp _ _) (lC (sl_scrub tNode _ _) lN)))) oN)) (by kernel_rfl)
                    · intro g_
                      rcases r103 with r105 | r106
                      · dsimp only at h
                        refine (show JK _ _ _ _ (.exit 4, (.bad :: .bad :: .ref 0 0 0 :: bz 4 (Ty.sl tSpot r74 :: (vI v76) :: Ty.sl tNode x78.node.kids :: (vI v80) :: bz 111 [])), [.box 25 (cNode n_0)]) from ?_)
                        refine JK_bl_hit ?_
                        refine JK_bl ?_
                        refine JK_sq ?_
                        refine J_region ?_
                        refine JS_end (.bad :: .bad :: .ref 0 0 0 :: bz 4 (Ty.sl tSpot r74 :: (vI v76) :: Ty.sl tNode x78.node.kids :: .sc (.int .i64 (IntKind.wrap .i64 (v80 + 1))) :: bz 45 ((vI v80) :: .sc (.int .i64 (IntKind.wrap .i64 (v80 + 1))) :: bz 64 []))) [.box 25 (cNode n_0)] (by kernel_rfl) ?_
                        refine JK_nil ?_
                        obtain rfl := Option.some.inj h
                        exact turn_next () (kill_go (mid := (.bad :: .bad :: .ref 0 0 0 :: bz 4 (Ty.sl tSpot r74 :: (vI v76) :: Ty.sl tNode x78.node.kids :: .sc (.int .i64 (IntKind.wrap .i64 (v80 + 1))) :: bz 111 []))) (by kernel_rfl) (mB (mB (mC (by kernel_rfl) (mZ 4 (mC (sl_scrub tSpot _ _) (mC (by kernel_rfl) (mC (sl_scrub tNode _ _) (mC (by kernel_rfl) (mZ 111 mN)))))))))) (cut_go (mid := [.box 25 (cNode n_0)]) (by kernel_rfl) (oC (oB (lC (by kernel_rfl) (lC (sl_scrub tProp _ _) (lC (sl_scrub tNode _ _) lN)))) oN))
                      · dsimp only at h
                        refine (show JK _ _ _ _ (.ret, (.bad :: .bad :: .ref 0 0 0 :: .bad :: (vB r106) :: .bad :: .bad :: Ty.sl tSpot r74 :: (vI v76) :: Ty.sl tNode x78.node.kids :: (vI v80) :: bz 111 []), [.box 25 (cNode n_0)]) from ?_)
                        refine JK_bl_ret ?_
                        refine JK_bl_ret ?_
                        refine JK_sq_ret ?_
                        refine JK_nil ?_
                        obtain rfl := Option.some.inj h
                        exact turn_ret (tm' := (.bad :: .bad :: .ref 0 0 0 :: .bad :: (vB r106) :: .bad :: .bad :: Ty.sl tSpot r74 :: (vI v76) :: bz 113 [])) (st' := [.box 25 (cNode n_0)]) () (kill_go (mid := (.bad :: .bad :: .ref 0 0 0 :: .bad :: (vB r106) :: .bad :: .bad :: Ty.sl tSpot r74 :: (vI v76) :: bz 113 [])) (by kernel_rfl) (mB (mB (mC (by kernel_rfl) (mB (mC (by kernel_rfl) (mB (mB (mC (sl_scrub tSpot _ _) (mC (by kernel_rfl) (mZ 113 mN))))))))))) (cut_go (mid := [.box 25 (cNode n_0)]) (by kernel_rfl) (oC (oB (lC (by kernel_rfl) (lC (sl_scrub tProp _ _) (lC (sl_scrub tNode _ _) lN)))) oN)) (by kernel_rfl)
              · rw [if_neg (ne_true h81)] at h
                refine J_condF (v := (decide (v80 < (x78.node.kids.length : Int)))) (by kernel_rfl) h81 ?_
                refine J_exit ?_
                refine JK_sq_exit ?_
                refine JK_nil ?_
                obtain rfl := Option.some.inj h
                exact turn_exit (tm' := (.bad :: .bad :: .ref 0 0 0 :: bz 4 (Ty.sl tSpot r74 :: (vI v76) :: bz 113 []))) (st' := [.box 25 (cNode n_0)]) () (kill_go (mid := (.bad :: .bad :: .ref 0 0 0 :: bz 4 (Ty.sl tSpot r74 :: (vI v76) :: bz 113 []))) (by kernel_rfl) (mB (mB (mC (by kernel_rfl) (mZ 4 (mC (sl_scrub tSpot _ _) (mC (by kernel_rfl) (mZ 113 mN)))))))) (cut_go (mid := [.box 25 (cNode n_0)]) (by kernel_rfl) (oC (oB (lC (by kernel_rfl) (lC (sl_scrub tProp _ _) (lC (sl_scrub tNode _ _) lN)))) oN)) (by kernel_rfl)
            · intro g_
              rcases r107 with r109 | r110
              · dsimp only at h
                refine (show JK _ _ _ _ (.exit 2, (.bad :: .bad :: .ref 0 0 0 :: bz 4 (Ty.sl tSpot r74 :: (vI v76) :: bz 113 [])), [.box 25 (cNode n_0)]) from ?_)
                refine JK_bl_hit ?_
                refine JK_bl ?_
                refine JK_sq ?_
                refine J_region ?_
                refine JS_end (.bad :: .bad :: .ref 0 0 0 :: bz 4 (Ty.sl tSpot r74 :: .sc (.int .i64 (IntKind.wrap .i64 (v76 + 1))) :: bz 35 ((vI v76) :: .sc (.int .i64 (IntKind.wrap .i64 (v76 + 1))) :: bz 76 []))) [.box 25 (cNode n_0)] (by kernel_rfl) ?_
                refine JK_nil ?_
                obtain rfl := Option.some.inj h
                exact turn_next () (kill_go (mid := (.bad :: .bad :: .ref 0 0 0 :: bz 4 (Ty.sl tSpot r74 :: .sc (.int .i64 (IntKind.wrap .i64 (v76 + 1))) :: bz 113 []))) (by kernel_rfl) (mB (mB (mC (by kernel_rfl) (mZ 4 (mC (sl_scrub tSpot _ _) (mC (by kernel_rfl) (mZ 113 mN)))))))) (cut_go (mid := [.box 25 (cNode n_0)]) (by kernel_rfl) (oC (oB (lC (by kernel_rfl) (lC (sl_scrub tProp _ _) (lC (sl_scrub tNode _ _) lN)))) oN))
              · dsimp only at h
                refine (show JK _ _ _ _ (.ret, (.bad :: .bad :: .ref 0 0 0 :: .bad :: (vB r110) :: .bad :: .bad :: Ty.sl tSpot r74 :: (vI v76) :: bz 113 []), [.box 25 (cNode n_0)]) from ?_)
                refine JK_bl_ret ?_
                refine JK_bl_ret ?_
                refine JK_sq_ret ?_
                refine JK_nil ?_
                obtain rfl := Option.some.inj h
                exact turn_ret (tm' := (.bad :: .bad :: .ref 0 0 0 :: .bad :: (vB r110) :: .bad :: .bad :: Ty.sl tSpot r74 :: bz 114 [])) (st' := [.box 25 (cNode n_0)]) () (kill_go (mid := (.bad :: .bad :: .ref 0 0 0 :: .bad :: (vB r110) :: .bad :: .bad :: Ty.sl tSpot r74 :: bz 114 [])) (by kernel_rfl) (mB (mB (mC (by kernel_rfl) (mB (mC (by kernel_rfl) (mB (mB (mC (sl_scrub tSpot _ _) (mZ 114 mN)))))))))) (cut_go (mid := [.box 25 (cNode n_0)]) (by kernel_rfl) (oC (oB (lC (by kernel_rfl) (lC (sl_scrub tProp _ _) (lC (sl_scrub tNode _ _) lN)))) oN)) (by kernel_rfl)
          · rw [if_neg (ne_true h77)] at h
            refine J_condF (v := (decide (v76 < (r74.length : Int)))) (by kernel_rfl) h77 ?_
            refine J_exit ?_
            refine JK_sq_exit ?_
            refine JK_nil ?_
            obtain rfl := Option.some.inj h
            exact turn_exit (tm' := (.bad :: .bad :: .ref 0 0 0 :: bz 4 (Ty.sl tSpot r74 :: bz 114 []))) (st' := [.box 25 (cNode n_0)]) () (kill_go (mid := (.bad :: .bad :: .ref 0 0 0 :: bz 4 (Ty.sl tSpot r74 :: bz 114 []))) (by kernel_rfl) (mB (mB (mC (by kernel_rfl) (mZ 4 (mC (sl_scrub tSpot _ _) (mZ 114 mN))))))) (cut_go (mid := [.box 25 (cNode n_0)]) (by kernel_rfl) (oC (oB (lC (by kernel_rfl) (lC (sl_scrub tProp _ _) (lC (sl_scrub tNode _ _) lN)))) oN)) (by kernel_rfl)
        · intro g_
          rcases r111 with r113 | r132
          · dsimp only at h
            refine (show JK _ _ _ _ (.exit 0, (.bad :: .bad :: .ref 0 0 0 :: bz 4 (Ty.sl tSpot r74 :: bz 114 [])), [.box 25 (cNode n_0)]) from ?_)
            refine JK_bl_hit ?_
            refine JK_sq ?_
            refine J_seq ?_
            refine J_seq ?_
            refine J_region ?_
            refine JS_end (.bad :: .bad :: .ref 0 0 0 :: bz 4 (Ty.sl tSpot r74 :: bz 6 ((vI 0) :: bz 107 []))) [.box 25 (cNode n_0)] (by kernel_rfl) ?_
            refine JK_sq ?_
            refine J_block ?_
            obtain ⟨r126, h127, h⟩ := Option.bind_eq_some_iff.1 h
            refine J_loop (γ := Unit) h127 1 (.bad :: .bad :: .ref 0 0 0 :: bz 4 (Ty.sl tSpot r74 :: bz 6 ((vI 0) :: bz 107 []))) [.box 25 (cNode n_0)] (fun s g => (.bad :: .bad :: .ref 0 0 0 :: bz 4 (Ty.sl tSpot r74 :: bz 6 ((vI s) :: bz 107 [])))) (fun s g => [.box 25 (cNode n_0)]) (fun r g => match r with | (.inl r) => (.exit 6, (bz 122 []), [.box 25 (cNode n_0)]) | (.inr r) => (.ret, (bz 4 ((vB false) :: bz 117 [])), [.box 25 (cNode n_0)])) () (by kernel_rfl) (by kernel_rfl) (kill_go (mid := (.bad :: .bad :: .ref 0 0 0 :: bz 4 (Ty.sl tSpot r74 :: bz 6 ((vI 0) :: bz 107 [])))) (by kernel_rfl) (mB (mB (mC (by kernel_rfl) (mZ 4 (mC (sl_scrub tSpot _ _) (mZ 6 (mC (by kernel_rfl) (mZ 107 mN))))))))) (cut_go (mid := [.box 25 (cNode n_0)]) (by kernel_rfl) (oC (oB (lC (by kernel_rfl) (lC (sl_scrub tProp _ _) (lC (sl_scrub tNode _ _) lN)))) oN)) ?_ ?_
            · rintro v114 _ y h
              unfold law16_PathWalk_l8 at h
              refine J_seq ?_
              refine J_seq ?_
              refine J_region ?_
              refine JS_end (.bad :: .bad :: .ref 0 0 0 :: bz 4 (Ty.sl tSpot r74 :: bz 6 ((vI v114) :: bz 78 ((vI v114) :: Ty.sl tSpot r74 :: .sc (.int .i64 (r74.length : Int)) :: .sc (.bool (decide (v114 < (r74.length : Int)))) :: bz 25 [])))) [.box 25 (cNode n_0)] (by kernel_rfl) ?_
              refine JK_sq ?_
              rcases bool_cases (decide (v114 < (r74.length : Int))) with h115 | h115
              · rw [if_pos h115] at h
                refine J_condT (v := (decide (v114 < (r74.length : Int)))) (by kernel_rfl) h115 ?_
                refine J_skip ?_
                refine JK_sq ?_
                refine J_seq ?_
                refine J_block ?_
                refine J_seq ?_
                refine J_draw ?_
                refine JD_seg [] (.bad :: .bad :: .ref 0 0 0 :: bz 4 (Ty.sl tSpot r74 :: bz 6 ((vI v114) :: bz 78 ((vI v114) :: Ty.sl tSpot r74 :: .sc (.int .i64 (r74.length : Int)) :: .sc (.bool (decide (v114 < (r74.length : Int)))) :: bz 25 [])))) [.box 25 (cNode n_0)] (by kernel_rfl) (by kernel_rfl) (by kernel_rfl) ?_
                refine JD_upd (c := .reads) (fun s => some (.agg (cNode n_0), [.box 25 (cNode n_0)])) (by kernel_rfl) rfl (by kernel_rfl) ?_
                refine JD_upd (c := .free) (fun s => some (Ty.sl tSpot r74, [.box 25 (cNode n_0)])) (by kernel_rfl) rfl (by kernel_rfl) ?_
                refine JD_upd (c := .free) (fun s => some ((vI v114), [.box 25 (cNode n_0)])) (by kernel_rfl) rfl (by kernel_rfl) ?_
                refine JD_seg [.reads, .free, .free] (.bad :: .bad :: .ref 0 0 0 :: bz 4 (Ty.sl tSpot r74 :: bz 6 ((vI v114) :: bz 78 ((vI v114) :: Ty.sl tSpot r74 :: .sc (.int .i64 (r74.length : Int)) :: .sc (.bool (decide (v114 < (r74.length : Int)))) :: .bad :: .bad :: .bad :: .agg (cNode n_0) :: Ty.sl tSpot r74 :: (vI v114) :: bz 19 [])))) [.box 25 (cNode n_0)] (by kernel_rfl) (by kernel_rfl) (by kernel_rfl) ?_
                obtain ⟨x116, h117, h⟩ := Option.bind_eq_some_iff.1 h
                refine JD_val (c := .reads) (fun s => aindexAddr E0.tb s 41 (Ty.sl tSpot r74) ((vI v114))) (by kernel_rfl) (sl_addr tSpot tb_41 rfl tb_44 rfl h117) (by kernel_rfl) ?_
                refine JD_upd (c := .reads) (fun s => some (.fp (List.flatMap (Ty.cells tSpot) r74) (v114.toNat * Ty.size tSpot + 0), [.box 25 (cNode n_0)])) (by kernel_rfl) rfl (by kernel_rfl) ?_
                refine JD_seg [.reads, .free, .free, .reads, .reads] (.bad :: .bad :: .ref 0 0 0 :: bz 4 (Ty.sl tSpot r74 :: bz 6 ((vI v114) :: bz 78 ((vI v114) :: Ty.sl tSpot r74 :: .sc (.int .i64 (r74.length : Int)) :: .sc (.bool (decide (v114 < (r74.length : Int)))) :: .bad :: .bad :: .bad :: .agg (cNode n_0) :: Ty.sl tSpot r74 :: (vI v114) :: .fp (List.flatMap (Ty.cells tSpot) r74) (v114.toNat * Ty.size tSpot) :: .fp (List.flatMap (Ty.cells tSpot) r74) (v114.toNat * Ty.size tSpot + 0) :: bz 17 [])))) [.box 25 (cNode n_0)] (by kernel_rfl) (by kernel_rfl) (by kernel_rfl) ?_
                refine JD_val (c := .reads) (fun s => aload E0.tb s 9 (.fp (List.flatMap (Ty.cells tSpot) r74) (v114.toNat * Ty.size tSpot + 0))) (by kernel_rfl) (fp_load1 tSpot (o := 0) tb_9 rfl h117 (by rw [tSpot_cells]; rfl)) (by kernel_rfl) ?_
                refine JD_seg [.reads, .free, .free, .reads, .reads, .reads] (.bad :: .bad :: .ref 0 0 0 :: bz 4 (Ty.sl tSpot r74 :: bz 6 ((vI v114) :: bz 78 ((vI v114) :: Ty.sl tSpot r74 :: .sc (.int .i64 (r74.length : Int)) :: .sc (.bool (decide (v114 < (r74.length : Int)))) :: .bad :: .bad :: .bad :: .agg (cNode n_0) :: Ty.sl tSpot r74 :: (vI v114) :: .fp (List.flatMap (Ty.cells tSpot) r74) (v114.toNat * Ty.size tSpot) :: .fp (List.flatMap (Ty.cells tSpot) r74) (v114.toNat * Ty.size tSpot + 0) :: strV x116.path :: bz 16 [])))) [.box 25 (cNode n_0)] (by kernel_rfl) (by kernel_rfl) (by kernel_rfl) ?_
                obtain ⟨r118, h119, h⟩ := Option.bind_eq_some_iff.1 h
                refine JD_upd (c := .free) (fun s => fcall E0 11 [.agg (cNode n_0), strV x116.path] s) (by kernel_rfl) (path_Find_C n_0 x116.path _ _ h119) (Eq.trans (b := if pureL [.agg (cNode n_0), strV x116.path] = true then Cls.free else Cls.writes) (by kernel_rfl) (cls_if (pC (pAgg (pC rfl (pC (sl_pure tProp _) (pC (sl_pure tNode _) pN)))) (pC rfl pN)))) ?_
                refine JD_upd (c := .free) (fun s => some (.tup [.agg (cNode r118.1), .sc (.bool r118.2)], [.box 25 (cNode n_0)])) (by kernel_rfl) rfl (by kernel_rfl) ?_
                refine JD_upd (c := .free) (fun s => some (.agg (cNode r118.1), [.box 25 (cNode n_0)])) (by kernel_rfl) rfl (by kernel_rfl) ?_
                refine JD_upd (c := .free) (fun s => some (.sc (.bool r118.2), [.box 25 (cNode n_0)])) (by kernel_rfl) rfl (by kernel_rfl) ?_
                refine JD_upd (c := .allocs) (fun s => some (.ref 1 0 0, [.box 25 (cNode n_0), .box 25 [strV [], .sc (.slice none 0 0), .sc (.slice none 0 0)]])) (by kernel_rfl) rfl (by kernel_rfl) ?_
                refine JD_upd (c := .writes) (fun s => some (.bad, [.box 25 (cNode n_0), .box 25 (cNode r118.1)])) (by kernel_rfl) rfl (by kernel_rfl) ?_
                refine JD_upd (c := .free) (fun s => some (.sc (.bool r118.2), [.box 25 (cNode n_0), .box 25 (cNode r118.1)])) (by kernel_rfl) rfl (by kernel_rfl) ?_
                refine JD_seg [.reads, .free, .free, .reads, .reads, .reads, .free, .free, .free, .free, .allocs, .writes, .free] (.bad :: .bad :: .ref 0 0 0 :: bz 4 (Ty.sl tSpot r74 :: bz 6 ((vI v114) :: .ref 1 0 0 :: .sc (.bool r118.2) :: bz 76 ((vI v114) :: Ty.sl tSpot r74 :: .sc (.int .i64 (r74.length : Int)) :: .sc (.bool (decide (v114 < (r74.length : Int)))) :: .bad :: .bad :: .tup [.agg (cNode r118.1), .sc (.bool r118.2)] :: .agg (cNode n_0) :: Ty.sl tSpot r74 :: (vI v114) :: .fp (List.flatMap (Ty.cells tSpot) r74) (v114.toNat * Ty.size tSpot) :: .fp (List.flatMap (Ty.cells tSpot) r74) (v114.toNat * Ty.size tSpot + 0) :: strV x116.path :: .tup [.agg (cNode r118.1), .sc (.bool r118.2)] :: .agg (cNode r118.1) :: .sc (.bool r118.2) :: bz 13 [])))) [.box 25 (cNode n_0), .box 25 (cNode r118.1)] (by kernel_rfl) (by kernel_rfl) (by kernel_rfl) ?_
                refine JD_end (by kernel_rfl) (by kernel_rfl) ?_
                refine JK_sq ?_
                refine J_seq ?_
                refine J_draw ?_
                refine JD_seg [] (.bad :: .bad :: .ref 0 0 0 :: bz 4 (Ty.sl tSpot r74 :: bz 6 ((vI v114) :: .ref 1 0 0 :: .sc (.bool r118.2) :: bz 76 ((vI v114) :: Ty.sl tSpot r74 :: .sc (.int .i64 (r74.length : Int)) :: .sc (.bool (decide (v114 < (r74.length : Int)))) :: .bad :: .bad :: .tup [.agg (cNode r118.1), .sc (.bool r118.2)] :: .agg (cNode n_0) :: Ty.sl tSpot r74 :: (vI v114) :: .fp (List.flatMap (Ty.cells tSpot) r74) (v114.toNat * Ty.size tSpot) :: .fp (List.flatMap (Ty.cells tSpot) r74) (v114.toNat * Ty.size tSpot + 0) :: strV x116.path :: .tup [.agg (cNode r118.1), .sc (.bool r118.2)] :: .agg (cNode r118.1) :: .sc (.bool r118.2) :: bz 13 [])))) [.box 25 (cNode n_0), .box 25 (cNode r118.1)] (by kernel_rfl) (by kernel_rfl) (by kernel_rfl) ?_
                refine JD_upd (c := .free) (fun s => some (.sc (.bool r118.2), [.box 25 (cNode n_0), .box 25 (cNode r118.1)])) (by kernel_rfl) rfl (by kernel_rfl) ?_
                refine JD_upd (c := .free) (fun s => some (.sc (.bool (!r118.2)), [.box 25 (cNode n_0), .box 25 (cNode r118.1)])) (by kernel_rfl) rfl (by kernel_rfl) ?_
                refine JD_upd (c := .free) (fun s => some (.sc (.bool (!r118.2)), [.box 25 (cNode n_0), .box 25 (cNode r118.1)])) (by kernel_rfl) rfl (by kernel_rfl) ?_
                refine JD_seg [.free, .free, .free] (.bad :: .bad :: .ref 0 0 0 :: bz 4 (Ty.sl tSpot r74 :: bz 6 ((vI v114) :: .ref 1 0 0 :: .sc (.bool r118.2) :: bz 76 ((vI v114) :: Ty.sl tSpot r74 :: .sc (.int .i64 (r74.length : Int)) :: .sc (.bool (decide (v114 < (r74.length : Int)))) :: .bad :: .bad :: .tup [.agg (cNode r118.1), .sc (.bool r118.2)] :: .agg (cNode n_0) :: Ty.sl tSpot r74 :: (vI v114) :: .fp (List.flatMap (Ty.cells tSpot) r74) (v114.toNat * Ty.size tSpot) :: .fp (List.flatMap (Ty.cells tSpot) r74) (v114.toNat * Ty.size tSpot + 0) :: strV x116.path :: .tup [.agg (cNode r118.1), .sc (.bool r118.2)] :: .agg (cNode r118.1) :: .sc (.bool r118.2) :: .sc (.bool r118.2) :: .sc (.bool (!r118.2)) :: .sc (.bool (!r118.2)) :: bz 10 [])))) [.box 25 (cNode n_0), .box 25 (cNode r118.1)] (by kernel_rfl) (by kernel_rfl) (by kernel_rfl) ?_
                rcases bool_cases (!r118.2) with h120 | h120
                · rw [if_pos h120] at h
                  refine JD_cast (tm' := (.bad :: .bad :: .ref 0 0 0 :: bz 4 (Ty.sl tSpot r74 :: bz 6 ((vI v114) :: .ref 1 0 0 :: .sc (.bool r118.2) :: bz 76 ((vI v114) :: Ty.sl tSpot r74 :: .sc (.int .i64 (r74.length : Int)) :: .sc (.bool (decide (v114 < (r74.length : Int)))) :: .bad :: .bad :: .tup [.agg (cNode r118.1), .sc (.bool r118.2)] :: .agg (cNode n_0) :: Ty.sl tSpot r74 :: (vI v114) :: .fp (List.flatMap (Ty.cells tSpot) r74) (v114.toNat * Ty.size tSpot) :: .fp (List.flatMap (Ty.cells tSpot) r74) (v114.toNat * Ty.size tSpot + 0) :: strV x116.path :: .tup [.agg (cNode r118.1), .sc (.bool r118.2)] :: .agg (cNode r118.1) :: .sc (.bool r118.2) :: .sc (.bool r118.2) :: (vB true) :: (vB true) :: bz 10 []))))) (by rw [h120]) rfl ?_
                  refine JD_not (by kernel_rfl) ?_
                  refine JD_not (by kernel_rfl) ?_
                  refine JD_not (by kernel_rfl) ?_
                  refine JD_not (by kernel_rfl) ?_
                  refine JD_not (by kernel_rfl) ?_
                  refine JD_not (by kernel_rfl) ?_
                  refine JD_not (by kernel_rfl) ?_
                  refine JD_not (by kernel_rfl) ?_
                  refine JD_upd (c := .free) (fun s => some ((vB true), [.box 25 (cNode n_0), .box 25 (cNode r118.1)])) (by kernel_rfl) rfl (by kernel_rfl) ?_
                  refine JD_seg [.free, .free, .free, .free, .free, .free, .free, .free, .free, .free, .free, .free] (.bad :: .bad :: .ref 0 0 0 :: bz 4 (Ty.sl tSpot r74 :: bz 6 ((vI v114) :: .ref 1 0 0 :: .sc (.bool r118.2) :: bz 76 [(vI v114), Ty.sl tSpot r74, .sc (.int .i64 (r74.length : Int)), .sc (.bool (decide (v114 < (r74.length : Int)))), .bad, .bad, .tup [.agg (cNode r118.1), .sc (.bool r118.2)], .agg (cNode n_0), Ty.sl tSpot r74, (vI v114), .fp (List.flatMap (Ty.cells tSpot) r74) (v114.toNat * Ty.size tSpot), .fp (List.flatMap (Ty.cells tSpot) r74) (v114.toNat * Ty.size tSpot + 0), strV x116.path, .tup [.agg (cNode r118.1), .sc (.bool r118.2)], .agg (cNode r118.1), .sc (.bool r118.2), .sc (.bool r118.2), (vB true), (vB true), .tup [], .tup [], .tup [], .tup [], .tup [], .tup [], .tup [], .tup [], (vB true), .bad]))) [.box 25 (cNode n_0), .box 25 (cNode r118.1)] (by kernel_rfl) (by kernel_rfl) (by kernel_rfl) ?_
                  refine JD_end (by kernel_rfl) (by kernel_rfl) ?_
                  refine JK_sq ?_
                  refine J_condT (v := true) (by kernel_rfl) rfl ?_
                  refine J_seq ?_
                  refine J_region ?_
                  refine JS_end (.bad :: .bad :: .ref 0 0 0 :: .bad :: (vB false) :: .bad :: .bad :: Ty.sl tSpot r74 :: bz 6 ((vI v114) :: .ref 1 0 0 :: .sc (.bool r118.2) :: bz 76 [(vI v114), Ty.sl tSpot r74, .sc (.int .i64 (r74.length : Int)), .sc (.bool (decide (v114 < (r74.length : Int)))), .bad, .bad, .tup [.agg (cNode r118.1), .sc (.bool r118.2)], .agg (cNode n_0), Ty.sl tSpot r74, (vI v114), .fp (List.flatMap (Ty.cells tSpot) r74) (v114.toNat * Ty.size tSpot), .fp (List.flatMap (Ty.cells tSpot) r74) (v114.toNat * Ty.size tSpot + 0), strV x116.path, .tup [.agg (cNode r118.1), .sc (.bool r118.2)], .agg (cNode r118.1), .sc (.bool r118.2), .sc (.bool r118.2), (vB true), (vB true), .tup [], .tup [], .tup [], .tup [], .tup [], .tup [], .tup [], .tup [], (vB true), .bad])) [.box 25 (cNode n_0), .box 25 (cNode r118.1)] (by kernel_rfl) ?_
                  refine JK_sq ?_
                  refine J_ret ?_
                  refine JK_bl_ret ?_
                  refine JK_sq_ret ?_
                  refine JK_nil ?_
                  obtain rfl := Option.some.inj h
                  exact turn_ret (tm' := (bz 4 ((vB false) :: bz 117 []))) (st' := [.box 25 (cNode n_0)]) () (kill_go (mid := (bz 4 ((vB false) :: bz 117 []))) (by kernel_rfl) (mZ 4 (mC (by kernel_rfl) (mZ 117 mN)))) (cut_go (mid := [.box 25 (cNode n_0)]) (by kernel_rfl) (oC (oB (lC (by kernel_rfl) (lC (sl_scrub tProp _ _) (lC (sl_scrub tNode _ _) lN)))) oN)) (by kernel_rfl)
                · rw [if_neg (ne_true h120)] at h
                  refine JD_cast (tm' := (.bad :: .bad :: .ref 0 0 0 :: bz 4 (Ty.sl tSpot r74 :: bz 6 ((vI v114) :: .ref 1 0 0 :: .sc (.bool r118.2) :: bz 76 ((vI v114) :: Ty.sl tSpot r74 :: .sc (.int .i64 (r74.length : Int)) :: .sc (.bool (decide (v114 < (r74.length : Int)))) :: .bad :: .bad :: .tup [.agg (cNode r118.1), .sc (.bool r118.2)] :: .agg (cNode n_0) :: Ty.sl tSpot r74 :: (vI v114) :: .fp (List.flatMap (Ty.cells tSpot) r74) (v114.toNat * Ty.size tSpot) :: .fp (List.flatMap (Ty.cells tSpot) r74) (v114.toNat * Ty.size tSpot + 0) :: strV x116.path :: .tup [.agg (cNode r118.1), .sc (.bool r118.2)] :: .agg (cNode r118.1) :: .sc (.bool r118.2) :: .sc (.bool r118.2) :: (vB false) :: (vB false) :: bz 10 []))))) (by rw [h120]) rfl ?_
                  refine JD_upd (c := .reads) (fun s => some (.agg (cNode r118.1), [.box 25 (cNode n_0), .box 25 (cNode r118.1)])) (by kernel_rfl) rfl (by kernel_rfl) ?_
                  refine JD_upd (c := .free) (fun s => some (Ty.sl tSpot r74, [.box 25 (cNode n_0), .box 25 (cNode r118.1)])) (by kernel_rfl) rfl (by kernel_rfl) ?_
                  refine JD_upd (c := .free) (fun s => some ((vI v114), [.box 25 (cNode n_0), .box 25 (cNode r118.1)])) (by kernel_rfl) rfl (by kernel_rfl) ?_
                  refine JD_seg [.free, .free, .free, .reads, .free, .free] (.bad :: .bad :: .ref 0 0 0 :: bz 4 (Ty.sl tSpot r74 :: bz 6 ((vI v114) :: .ref 1 0 0 :: .sc (.bool r118.2) :: bz 76 ((vI v114) :: Ty.sl tSpot r74 :: .sc (.int .i64 (r74.length : Int)) :: .sc (.bool (decide (v114 < (r74.length : Int)))) :: .bad :: .bad :: .tup [.agg (cNode r118.1), .sc (.bool r118.2)] :: .agg (cNode n_0) :: Ty.sl tSpot r74 :: (vI v114) :: .fp (List.flatMap (Ty.cells tSpot) r74) (v114.toNat * Ty.size tSpot) :: .fp (List.flatMap (Ty.cells tSpot) r74) (v114.toNat * Ty.size tSpot + 0) :: strV x116.path :: .tup [.agg (cNode r118.1), .sc (.bool r118.2)] :: .agg (cNode r118.1) :: .sc (.bool r118.2) :: .sc (.bool r118.2) :: (vB false) :: (vB false) :: .agg (cNode r118.1) :: Ty.sl tSpot r74 :: (vI v114) :: bz 7 [])))) [.box 25 (cNode n_0), .box 25 (cNode r118.1)] (by kernel_rfl) (by kernel_rfl) (by kernel_rfl) ?_
                  obtain ⟨x121, h122, h⟩ := Option.bind_eq_some_iff.1 h
                  refine JD_val (c := .reads) (fun s => aindexAddr E0.tb s 41 (Ty.sl tSpot r74) ((vI v114))) (by kernel_rfl) (sl_addr tSpot tb_41 rfl tb_44 rfl h122) (by kernel_rfl) ?_
                  refine JD_upd (c := .reads) (fun s => some (.fp (List.flatMap (Ty.cells tSpot) r74) (v114.toNat * Ty.size tSpot + 1), [.box 25 (cNode n_0), .box 25 (cNode r118.1)])) (by kernel_rfl) rfl (by kernel_rfl) ?_
                  refine JD_seg [.free, .free, .free, .reads, .free, .free, .reads, .reads] (.bad :: .bad :: .ref 0 0 0 :: bz 4 (Ty.sl tSpot r74 :: bz 6 ((vI v114) :: .ref 1 0 0 :: .sc (.bool r118.2) :: bz 76 ((vI v114) :: Ty.sl tSpot r74 :: .sc (.int .i64 (r74.length : Int)) :: .sc (.bool (decide (v114 < (r74.length : Int)))) :: .bad :: .bad :: .tup [.agg (cNode r118.1), .sc (.bool r118.2)] :: .agg (cNode n_0) :: Ty.sl tSpot r74 :: (vI v114) :: .fp (List.flatMap (Ty.cells tSpot) r74) (v114.toNat * Ty.size tSpot) :: .fp (List.flatMap (Ty.cells tSpot) r74) (v114.toNat * Ty.size tSpot + 0) :: strV x116.path :: .tup [.agg (cNode r118.1), .sc (.bool r118.2)] :: .agg (cNode r118.1) :: .sc (.bool r118.2) :: .sc (.bool r118.2) :: (vB false) :: (vB false) :: .agg (cNode r118.1) :: Ty.sl tSpot r74 :: (vI v114) :: .fp (List.flatMap (Ty.cells tSpot) r74) (v114.toNat * Ty.size tSpot) :: .fp (List.flatMap (Ty.cells tSpot) r74) (v114.toNat * Ty.size tSpot + 1) :: bz 5 [])))) [.box 25 (cNode n_0), .box 25 (cNode r118.1)] (by kernel_rfl) (by kernel_rfl) (by kernel_rfl) ?_
                  refine JD_val (c := .reads) (fun s => aload E0.tb s 25 (.fp (List.flatMap (Ty.cells tSpot) r74) (v114.toNat * Ty.size tSpot + 1))) (by kernel_rfl) (fp_loadN tSpot (o := 1) (vs := (cNode x121.node)) tb_25 rfl h122 (by decide) (by rw [tSpot_cells]; rfl)) (by kernel_rfl) ?_
                  refine JD_seg [.free, .free, .free, .reads, .free, .free, .reads, .reads, .reads] (.bad :: .bad :: .ref 0 0 0 :: bz 4 (Ty.sl tSpot r74 :: bz 6 ((vI v114) :: .ref 1 0 0 :: .sc (.bool r118.2) :: bz 76 ((vI v114) :: Ty.sl tSpot r74 :: .sc (.int .i64 (r74.length : Int)) :: .sc (.bool (decide (v114 < (r74.length : Int)))) :: .bad :: .bad :: .tup [.agg (cNode r118.1), .sc (.bool r118.2)] :: .agg (cNode n_0) :: Ty.sl tSpot r74 :: (vI v114) :: .fp (List.flatMap (Ty.cells tSpot) r74) (v114.toNat * Ty.size tSpot) :: .fp (List.flatMap (Ty.cells tSpot) r74) (v114.toNat * Ty.size tSpot + 0) :: strV x116.path :: .tup [.agg (cNode r118.1), .sc (.bool r118.2)] :: .agg (cNode r118.1) :: .sc (.bool r118.2) :: .sc (.bool r118.2) :: (vB false) :: (vB false) :: .agg (cNode r118.1) :: Ty.sl tSpot r74 :: (vI v114) :: .fp (List.flatMap (Ty.cells tSpot) r74) (v114.toNat * Ty.size tSpot) :: .fp (List.flatMap (Ty.cells tSpot) r74) (v114.toNat * Ty.size tSpot + 1) :: .agg (cNode x121.node) :: bz 4 [])))) [.box 25 (cNode n_0), .box 25 (cNode r118.1)] (by kernel_rfl) (by kernel_rfl) (by kernel_rfl) ?_
                  obtain ⟨r123, h124, h⟩ := Option.bind_eq_some_iff.1 h
                  refine JD_upd (c := .free) (fun s => fcall E0 15 [.agg (cNode r118.1), .agg (cNode x121.node)] s) (by kernel_rfl) (ref12_Same_C r118.1 x121.node _ _ h124) (Eq.trans (b := if pureL [.agg (cNode r118.1), .agg (cNode x121.node)] = true then Cls.free else Cls.writes) (by kernel_rfl) (cls_if (pC (pAgg (pC rfl (pC (sl_pure tProp _) (pC (sl_pure tNode _) pN)))) (pC (pAgg (pC rfl (pC (sl_pure tProp _) (pC (sl_pure tNode _) pN)))) pN)))) ?_
                  refine JD_upd (c := .free) (fun s => some (.sc (.bool (!r123)), [.box 25 (cNode n_0), .box 25 (cNode r118.1)])) (by kernel_rfl) rfl (by kernel_rfl) ?_
                  refine JD_upd (c := .free) (fun s => some (.sc (.bool (!r123)), [.box 25 (cNode n_0), .box 25 (cNode r118.1)])) (by kernel_rfl) rfl (by kernel_rfl) ?_
                  refine JD_seg [.free, .free, .free, .reads, .free, .free, .reads, .reads, .reads, .free, .free, .free] (.bad :: .bad :: .ref 0 0 0 :: bz 4 (Ty.sl tSpot r74 :: bz 6 ((vI v114) :: .ref 1 0 0 :: .sc (.bool r118.2) :: bz 76 [(vI v114), Ty.sl tSpot r74, .sc (.int .i64 (r74.length : Int)), .sc (.bool (decide (v114 < (r74.length : Int)))), .bad, .bad, .tup [.agg (cNode r118.1), .sc (.bool r118.2)], .agg (cNode n_0), Ty.sl tSpot r74, (vI v114), .fp (List.flatMap (Ty.cells tSpot) r74) (v114.toNat * Ty.size tSpot), .fp (List.flatMap (Ty.cells tSpot) r74) (v114.toNat * Ty.size tSpot + 0), strV x116.path, .tup [.agg (cNode r118.1), .sc (.bool r118.2)], .agg (cNode r118.1), .sc (.bool r118.2), .sc (.bool r118.2), (vB false), (vB false), .agg (cNode r118.1), Ty.sl tSpot r74, (vI v114), .fp (List.flatMap (Ty.cells tSpot) r74) (v114.toNat * Ty.size tSpot), .fp (List.flatMap (Ty.cells tSpot) r74) (v114.toNat * Ty.size tSpot + 1), .agg (cNode x121.node), (vB r123), .sc (.bool (!r123)), .sc (.bool (!r123)), .bad]))) [.box 25 (cNode n_0), .box 25 (cNode r118.1)] (by kernel_rfl) (by kernel_rfl) (by kernel_rfl) ?_
                  refine JD_end (by kernel_rfl) (by kernel_rfl) ?_
                  refine JK_sq ?_
                  rcases bool_cases (!r123) with h125 | h125
                  · rw [if_pos h125] at h
                    refine J_condT (v := (!r123)) (by kernel_rfl) h125 ?_
                    refine J_seq ?_
                    refine J_region ?_
                    refine JS_end (.bad :: .bad :: .ref 0 0 0 :: .bad :: (vB false) :: .bad :: .bad :: Ty.sl tSpot r74 :: bz 6 ((vI v114) :: .ref 1 0 0 :: .sc (.bool r118.2) :: bz 76 [(vI v114), Ty.sl tSpot r74, .sc (.int .i64 (r74.length : Int)), .sc (.bool (decide (v114 < (r74.length : Int)))), .bad, .bad, .tup [.agg (cNode r118.1), .sc (.bool r118.2)], .agg (cNode n_0), Ty.sl tSpot r74, (vI v114), .fp (List.flatMap (Ty.cells tSpot) r74) (v114.toNat * Ty.size tSpot), .fp (List.flatMap (Ty.cells tSpot) r74) (v114.toNat * Ty.size tSpot + 0), strV x116.path, .tup [.agg (cNode r118.1), .sc (.bool r118.2)], .agg (cNode r118.1), .sc (.bool r118.2), .sc (.bool r118.2), (vB false), (vB false), .agg (cNode r118.1), Ty.sl tSpot r74, (vI v114), .fp (List.flatMap (Ty.cells tSpot) r74) (v114.toNat * Ty.size tSpot), .fp (List.flatMap (Ty.cells tSpot) r74) (v114.toNat * Ty.size tSpot + 1), .agg (cNode x121.node), (vB r123), .sc (.bool (!r123)), .sc (.bool (!r123)), .bad])) [.box 25 (cNode n_0), .box 25 (cNode r118.1)] (by kernel_rfl) ?_
                    refine JK_sq ?_
                    refine J_ret ?_
                    refine JK_bl_ret ?_
                    refine JK_sq_ret ?_
                    refine JK_nil ?_
                    obtain rfl := Option.some.inj h
                    exact turn_ret (tm' := (bz 4 ((vB false) :: bz 117 []))) (st' := [.box 25 (cNode n_0)]) () (kill_go (mid := (bz 4 ((vB false) :: bz 117 []))) (by kernel_rfl) (mZ 4 (mC (by kernel_rfl) (mZ 117 mN)))) (cut_go (mid := [.box 25 (cNode n_0)]) (by kernel_rfl) (oC (oB (lC (by kernel_rfl) (lC (sl_scrub tProp _ _) (lC (sl_scrub tNode _ _) lN)))) oN)) (by kernel_rfl)
                  · rw [if_neg (ne_true h125)] at h
                    refine J_condF (v := (!r123)) (by kernel_rfl) h125 ?_
                    refine J_skip ?_
                    refine JK_bl ?_
                    refine JK_sq ?_
                    refine J_region ?_
                    refine JS_end (.bad :: .bad :: .ref 0 0 0 :: bz 4 (Ty.sl tSpot r74 :: bz 6 (.sc (.int .i64 (IntKind.wrap .i64 (v114 + 1))) :: .ref 1 0 0 :: .sc (.bool r118.2) :: bz 76 [(vI v114), Ty.sl tSpot r74, .sc (.int .i64 (r74.length : Int)), .sc (.bool (decide (v114 < (r74.length : Int)))), (vI v114), .sc (.int .i64 (IntKind.wrap .i64 (v114 + 1))), .tup [.agg (cNode r118.1), .sc (.bool r118.2)], .agg (cNode n_0), Ty.sl tSpot r74, (vI v114), .fp (List.flatMap (Ty.cells tSpot) r74) (v114.toNat * Ty.size tSpot), .fp (List.flatMap (Ty.cells tSpot) r74) (v114.toNat * Ty.size tSpot + 0), strV x116.path, .tup [.agg (cNode r118.1), .sc (.bool r118.2)], .agg (cNode r118.1), .sc (.bool r118.2), .sc (.bool r118.2), (vB false), (vB false), .agg (cNode r118.1), Ty.sl tSpot r74, (vI v114), .fp (List.flatMap (Ty.cells tSpot) r74) (v114.toNat * Ty.size tSpot), .fp (List.flatMap (Ty.cells tSpot) r74) (v114.toNat * Ty.size tSpot + 1), .agg (cNode x121.node), (vB r123), .sc (.bool (!r123)), .sc (.bool (!r123)), .bad]))) [.box 25 (cNode n_0), .box 25 (cNode r118.1)] (by kernel_rfl) ?_
                    refine JK_nil ?_
                    obtain rfl := Option.some.inj h
                    exact turn_next () (kill_go (mid := (.bad :: .bad :: .ref 0 0 0 :: bz 4 (Ty.sl tSpot r74 :: bz 6 (.sc (.int .i64 (IntKind.wrap .i64 (v114 + 1))) :: bz 107 [])))) (by kernel_rfl) (mB (mB (mC (by kernel_rfl) (mZ 4 (mC (sl_scrub tSpot _ _) (mZ 6 (mC (by kernel_rfl) (mZ 107 mN))))))))) (cut_go (mid := [.box 25 (cNode n_0)]) (by kernel_rfl) (oC (oB (lC (by kernel_rfl) (lC (sl_scrub tProp _ _) (lC (sl_scrub tNode _ _) lN)))) oN))
              · rw [if_neg (ne_true h115)] at h
                refine J_condF (v := (decide (v114 < (r74.length : Int)))) (by kernel_rfl) h115 ?_
                refine J_exit ?_
                refine JK_sq_exit ?_
                refine JK_nil ?_
                obtain rfl := Option.some.inj h
                exact turn_exit (tm' := (bz 122 [])) (st' := [.box 25 (cNode n_0)]) () (kill_go (mid := (bz 122 [])) (by kernel_rfl) (mZ 122 mN)) (cut_go (mid := [.box 25 (cNode n_0)]) (by kernel_rfl) (oC (oB (lC (by kernel_rfl) (lC (sl_scrub tProp _ _) (lC (sl_scrub tNode _ _) lN)))) oN)) (by kernel_rfl)
            · intro g_
              rcases r126 with r128 | r131
              · dsimp only at h
                refine (show JK _ _ _ _ (.exit 6, (bz 122 []), [.box 25 (cNode n_0)]) from ?_)
                refine JK_bl_hit ?_
                refine JK_sq ?_
                refine J_seq ?_
                refine J_region ?_
                refine JS_seg 0 (bz 122 []) [.box 25 (cNode n_0)] (by kernel_rfl) ?_
                obtain ⟨r129, h130, h⟩ := Option.bind_eq_some_iff.1 h
                refine JS_upd (fun s => fcall E0 10 [] s) (by kernel_rfl) (law16_awake_C _ _ h130) ?_
                refine JS_end (bz 4 ((vB r129) :: bz 116 [(vB r129)])) [.box 25 (cNode n_0)] (by kernel_rfl) ?_
                refine JK_sq ?_
                refine J_ret ?_
                refine JK_nil ?_
                obtain rfl := Option.some.inj h
                exact ret_A (r := (vB r129)) (r' := (vB r129)) (.inl rfl) (by kernel_rfl) (by kernel_rfl) rfl ⟨by kernel_rfl, rfl⟩
              · dsimp only at h
                refine (show JK _ _ _ _ (.ret, (bz 4 ((vB false) :: bz 117 [])), [.box 25 (cNode n_0)]) from ?_)
                refine JK_bl_ret ?_
                refine JK_sq_ret ?_
                refine JK_nil ?_
                obtain rfl := Option.some.inj h
                exact ret_A (r := (vB false)) (r' := (vB false)) (.inl rfl) (by kernel_rfl) (by kernel_rfl) rfl ⟨by kernel_rfl, rfl⟩
          · dsimp only at h
            refine (show JK _ _ _ _ (.ret, (.bad :: .bad :: .ref 0 0 0 :: .bad :: (vB r132) :: .bad :: .bad :: Ty.sl tSpot r74 :: bz 114 []), [.box 25 (cNode n_0)]) from ?_)
            refine JK_bl_ret ?_
            refine JK_sq_ret ?_
            refine JK_nil ?_
            obtain rfl := Option.some.inj h
            exact ret_A (r := (vB r132)) (r' := (vB r132)) (.inl rfl) (by kernel_rfl) (by kernel_rfl) rfl ⟨by kernel_rfl, rfl⟩

end Go.Proofs.YticlelmlnadclaaDoor
