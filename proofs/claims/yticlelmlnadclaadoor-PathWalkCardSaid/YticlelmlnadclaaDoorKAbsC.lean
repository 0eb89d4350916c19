/-
  From a run to what a row asks: the arguments read as they did, and the answer is true. Lemmas alone; no condition.
-/
import Derived.Test.YticlelmlnadclaaDoorKAbsW
import Derived.ChangeShapes
import Derived.OpenShut
import Derived.Carry
import Derived.Deep.DeepHandedRow
set_option linter.unusedVariables false
set_option linter.unusedSimpArgs false
set_option linter.unusedSectionVars false
set_option linter.unnecessarySimpa false
set_option linter.deprecated false
namespace Go.Abs
open Go Go.RowKit Go.ChangeShapes Go.WideShapes Go.ChangeAt

theorem trodAll_below {H : Type} {enc : TypeId × Value → H} {P : Program} (hl : laidOutB P = true) {W W' : World} (hb : Below W.heap.size W W') :
    ∀ (ts : List TypeId) (vs : List Value) (ds : List (DataW H)) (ps : List MemPlace), (∀ t ∈ ts, P.readableRec t = true ∧ t < P.types.size) → DataW.TrodAll enc P W 0 (fun _ => true) true ts vs ds ps → (∀ x ∈ ps, x.block < W.heap.size) →
      DataW.TrodAll enc P W' 0 (fun b => decide (b < W.heap.size)) true ts vs ds ps := by
  intro ts
  induction ts with
  | nil =>
    intro vs ds ps _ h _
    obtain ⟨rfl, rfl, rfl⟩ := trodAll_nil h
    exact trodAll_mk0
  | cons t ts ih =>
    intro vs ds ps ht h hlt
    obtain ⟨v, vs', d, ds', p, q, rfl, rfl, rfl, h0, h1⟩ := trodAll_cons h
    obtain ⟨hr, hs⟩ := ht t (List.mem_cons_self ..)
    exact trodAll_cons_mk (Below.trod hl hr hs h0 hb fun x hx => hlt x (List.mem_append_left _ hx)) (ih vs' ds' q (fun u hu => ht u (List.mem_cons_of_mem _ hu)) h1 fun x hx => hlt x (List.mem_append_right _ hx))

/-- a law's contract -/
theorem law_contract {H : Type} {enc : TypeId × Value → H} {P : Program} {f : FuncId} {fn : Func} {s : ChangeSpec} {W : World} {args : Array Value} {ds gs : List (DataW H)} {before : List MemPlace} {tb : TypeId} {ps : List TypeId}
    (hl : laidOutB P = true) (hb : P.underlying tb = some .bool) (hres : fn.resultTypes = #[tb]) (hps : fn.params = ps.toArray) (hr : (ps.all fun t => P.readableRec t && decide (t < P.types.size)) = true) (hv : s.vars = [])
    (hW : DataW.Whole enc P fn.params.toList s.vars false W args.toList ds gs before)
    (hs : ds.length = ps.length → s.fn H ds = { results := [.lit (.bool true)], args := ds })
    (hrun : Calls P f args W fun e w' => ∃ v c, e = .returned v ∧ Below W.heap.size W w' ∧ Rep c (.sc (.bool true)) v) :
    Calls P f args W fun e W' => ∃ v, e = .returned v ∧ s.post enc P fn false true false false W args v W' := by
  refine hrun.mono fun e W' ⟨v, c, he, hbel, hrep⟩ => ?_
  subst he
  have hW' := hW
  obtain ⟨p, q, hA0, hV, rfl, hfz, hnd⟩ := hW
  have hA : DataW.TrodAll enc P W 0 (fun _ => true) true fn.params.toList args.toList ds p := hA0
  rw [hv] at hV
  obtain ⟨rfl, rfl⟩ := trodVars_none hV
  have hlen : ds.length = ps.length := by
    have key : ∀ (ts : List TypeId) (vs : List Value) (ds : List (DataW H)) (ps : List MemPlace), DataW.TrodAll enc P W 0 (fun _ => true) true ts vs ds ps → ds.length = ts.length := by
      intro ts
      induction ts with
      | nil => intro vs ds ps h; obtain ⟨_, rfl, _⟩ := trodAll_nil h; rfl
      | cons t ts ih =>
        intro vs ds ps h
        obtain ⟨v, vs', d, ds', p, q, rfl, rfl, rfl, h0, h1⟩ := trodAll_cons h
        simp [ih _ _ _ h1]
    have := key _ _ _ _ hA
    rw [hps] at this
    simpa using this
  have hf := hs hlen
  cases hrep with
  | sc _ _ =>
    have hlt := hW'.lt
    refine ⟨_, rfl, ds, [], p ++ [], [], p, [], hW', ?_, ?_, ?_, hbel.frame _, fun h => by cases h⟩
    · rw [List.append_nil, hf, hres]
      exact trodAll_mk1 (shut_bool hb _)
    · rw [List.append_nil, hf]
      refine trodAll_below hl hbel _ _ _ _ ?_ hA (fun x hx => hlt x (by simpa using hx))
      intro t ht
      rw [hps] at ht
      have := List.all_eq_true.1 hr t (by simpa using ht)
      simpa using this
    · rw [List.append_nil, hf, hv]
      rfl

end Go.Abs
