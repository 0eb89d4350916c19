/-
  Whatever comes in, the law answers true, and what came in reads as it did: the statement PathWalk. No condition.
-/
import Derived.Test.YticlelmlnadclaaDoorTie
import Derived.Test.YticlelmlnadclaaDoorCards
import Derived.Test.YticlelmlnadclaaDoorKX
import Derived.Test.YticlelmlnadclaaDoorKR
import Derived.Test.YticlelmlnadclaaDoorKS2
import Derived.Test.YticlelmlnadclaaDoorKPoHF
import Derived.Test.YticlelmlnadclaaDoorKAbsC
import Derived.ProofKit
import Derived.OpenShut
import Derived.LaidMore
import Derived.Lay
import Derived.SevenTiedAt
import Derived.Stop.Joined
import Derived.Deep.DeepHandedRow
set_option linter.unusedVariables false
set_option linter.unusedSimpArgs false
set_option linter.unusedSectionVars false
set_option linter.unnecessarySimpa false
set_option linter.deprecated false
namespace Go.Proofs.YticlelmlnadclaaDoor
open Go.ChangeShapes Go.WideShapes Go.ChangeAt Go.RowKit Go.Abs Go.P
set_option maxRecDepth 100000

theorem pathWalk_own : ownKnob Tryd.prog.godebug = none := by kernel_rfl
theorem pathWalk_laidOut : laidOutB Tryd.prog = true := by kernel_rfl

theorem pathWalk_contract (H : Type) (enc : TypeId × Value → H) (W : World) (base : Nat) (args : Array Value) (ds gs : List (DataW H)) (before : List MemPlace)
    (hval : ∀ (j : Nat) t v, Tryd.f4.params[j]? = some t → args[j]? = some v → Value.okWide Tryd.prog W .any base t v)
    (hW : DataW.Whole enc Tryd.prog Tryd.f4.params.toList Rows.pathWalkSpec.vars false W args.toList ds gs before) (hsh : W.ShapedOpen Tryd.prog) :
    Calls Tryd.prog 4 args W fun e W' => ∃ v, e = .returned v ∧ Rows.pathWalkSpec.post enc Tryd.prog Tryd.f4 false true false false W args v W' := by
  have hglob : Glob W := Go.Proofs.cell_of_shapedOpen_int (zero := #[.int .i64 0]) (t := 3) hsh (of_decide_eq_true (by kernel_rfl)) (by kernel_rfl) rfl (by kernel_rfl) (by kernel_rfl) Tryd.underlying3
  have hW0 := hW
  obtain ⟨p, q, hA0, hV, rfl, hfz, hnd⟩ := hW
  have hA : DataW.TrodAll enc Tryd.prog W 0 (fun _ => true) true Tryd.f4.params.toList args.toList ds p := hA0
  rw [Tryd.params4] at hA hval
  obtain ⟨v0, vs0, d0, ds0, p0, q0, hargs0, rfl, rfl, h0, r0⟩ := trodAll_cons hA
  obtain ⟨v1, vs1, d1, ds1, p1, q1, hargs1, rfl, rfl, h1, r1⟩ := trodAll_cons r0
  obtain ⟨rfl, rfl, rfl⟩ := trodAll_nil r1
  subst hargs1
  obtain rfl : args = #[v0, v1] := by cases args; simp_all
  obtain ⟨x0, ok0, w0⟩ := arg_agg rd_25 Tryd.underlying25 (hval 0 25 v0 rfl rfl) h0
  obtain ⟨x1, ok1, w1⟩ := arg_one rd_9 (fun a => strV a) (fun a => rfl) (ok_cells (hval 1 9 v1 rfl rfl) (by rw [Tryd.underlying9])) h1
  have hc := law16_PathWalk_C x0 x1 true [] (law16_PathWalk_true x0 x1 ok0 ok1)
  exact law_contract (tb := 4) (ps := [25, 9]) pathWalk_laidOut Tryd.underlying4 (by kernel_rfl) Tryd.params4 (by kernel_rfl) rfl hW0 (fun _ => rfl) (run_calls env_ok hglob hc fun c ho => .cons _ _ _ _ (by have := w0 c ho; rw [tNode_cells] at this; exact this) (.cons _ _ _ _ (w1 c ho) (.nil)))

theorem pathWalk_lifted (os : Os) (started : os.Started) (H : Type) (enc : TypeId × Value → H) (F : Stop.Interp) :
    ReturnsInHanded {} Tryd.checked os 4 .any ((OpenSpec.ofChange Rows.pathWalkSpec).preRow enc Tryd.prog Tryd.f4 Rows.pathWalkRow.domain false Rows.pathWalkRow.laid) (((OpenSpec.ofChange Rows.pathWalkSpec).at F).post enc Tryd.prog Tryd.f4 false true false false) := by
  refine returnsInHanded_of_row (C := Tryd.checked) (s := OpenSpec.ofChange Rows.pathWalkSpec) pathWalk_own started (by kernel_rfl) Tryd.func4
    (by
      obtain ⟨w, tape, i, h1, h2, h3, h4, ⟨⟨h5, h6⟩, h7⟩, h8⟩ := ChangeSpec.witness_shaped (enc := enc) (C := Tryd.checked) (os := os) (fn := Tryd.f4) (f := 4) (s := Rows.pathWalkSpec) (conds := Rows.pathWalkRow.domain) (apart := false) (X := fun w _ => laidMetH Tryd.prog Rows.pathWalkRow.laid w) false (World.laidAll Tryd.prog os Rows.pathWalkRow.laid) #[.agg #[.string .empty, .slice none 0 0, .slice none 0 0], .string .empty] 8 (World.laidAll_os _ _ _)
        (World.shaped_of_ZipB (by kernel_rfl) (by kernel_rfl)) (by kernel_rfl) (by kernel_rfl) (by kernel_rfl)
        (by rw [MakeChecks.laidMetH_plain _ _ _ (by kernel_rfl)]; exact laidMet_laidAll _ (by kernel_rfl) (by kernel_rfl))
      exact ⟨w, tape, i, h1, h2, h3, h4, ⟨⟨h5, h6⟩, h7⟩, h8⟩) ?_
  intro W base args ds gs before hval hW _ _ _ _ hsh _
  exact pathWalk_contract H enc W base args ds gs before hval hW hsh

theorem pathWalk_holds : Rows.PathWalkSaid :=
  OpenClaim.holds_of_cond 4 Tryd.f4 rfl rfl rfl rfl rfl rfl rfl ⟨rfl, rfl, rfl, rfl, rfl⟩ rfl rfl rfl rfl rfl (by kernel_rfl) Tryd.func4 (by kernel_rfl)
    (of_decide_eq_true (by kernel_rfl)) (by unfold Func.isWrapper; first | (rw [if_pos (by decide +kernel)]; kernel_rfl) | (rw [if_neg (by decide +kernel)]; exact ⟨rfl, rfl⟩))
    (fun os started H enc _ F => by rw [OpenClaim.pre_eq_preRow]; exact pathWalk_lifted os started H enc F)

theorem pathWalk_card : Rows.PathWalkCardSaid :=
  Claim7.holds_tied_plain_at .later [] _ _ _ _ pathWalk_holds (fun _ h => by cases h) (by kernel_rfl) (fun _ h => by cases h) pathWalk_row_tie rfl ⟨rfl, rfl⟩ (by kernel_rfl) rfl
    (fun f fn hf hfn => by
      obtain rfl : f = 4 := Option.some.inj ((show Tryd.prog.funcNamed "postilion/postilionlaw16.PathWalk" = some 4 by kernel_rfl).symm.trans hf) |>.symm
      obtain rfl : fn = Tryd.f4 := (Option.some.inj (Tryd.func4.symm.trans hfn)).symm
      exact ⟨by kernel_rfl, fun j t ht => by
        rw [Tryd.params4] at ht
        have hm : t ∈ [25, 9] := by simpa using Array.mem_of_getElem? ht
        have hall : ([25, 9].all fun u => !Tryd.prog.wantsStandIn u) = true := by kernel_rfl
        exact (show Tryd.prog.wantsStandIn t = false by simpa using List.all_eq_true.1 hall t hm)⟩)
    (by kernel_rfl)
end Go.Proofs.YticlelmlnadclaaDoor
