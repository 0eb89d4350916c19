/-
  Each operation of the evaluator goes as the model's does. A lemma alone; no condition.
-/
import Derived.Test.YticlelmlnadclaaDoorKAbs12
set_option linter.unusedVariables false
set_option linter.unusedSimpArgs false
set_option linter.unusedSectionVars false
set_option linter.unnecessarySimpa false
set_option linter.deprecated false
namespace Go.Abs
open Go

theorem map_some_pair {α β : Type} {x : Option α} {y : β} {r : α} {s : β} (h : x.map (·, y) = some (r, s)) : x = some r ∧ s = y := by
  cases x with
  | none => simp at h
  | some v => simp at h; exact ⟨by rw [h.1], h.2.symm⟩

section
variable {P : Program} {E : Env} (hT : TbOk P E.tb) {call : Caller} (hcall : CallOk P call) {fid : FuncId} {tm : List AV} {a : Act} {c : Cx} (hi : Inv c) (hr : Reps c tm a.tmps.toList)
include hT hcall hi hr

theorem call_goes {o : Oper} {ca : Call} {f : Operand} (ho : o.op = .call ca) (hf : ca.callee = .value f) {g : FuncId} {caps : List AV} (hfn : aeval tm f = .fn g caps) {r : AV} {st' : Store}
    (h : call g (ca.args.toList.map (aeval tm) ++ caps) c.st = some (r, st')) : OpGoes P a o c r st' := by
  intro next Q hn
  have hfr := aeval_rep hr f
  rw [hfn] at hfr
  generalize hfv : a.eval f = fv at hfr
  cases hfr with
  | fn _ _ vs hcaps =>
  have hargs := (aeval_reps hr ca.args.toList).append hcaps
  have hal : (ca.args.map a.eval ++ vs).toList = ca.args.toList.map a.eval ++ vs.toList := by simp
  rw [← hal] at hargs
  obtain ⟨hent, hcalls⟩ := hcall g _ c.st r st' h c _ hi rfl hargs
  have hex : (execOp a.eval o).run P c.w = .ok (.enter g (ca.args.map a.eval ++ vs)) c.w := by
    unfold execOp
    rw [ho]
    simp only [resolve, hf, hfv, Deferred.ofValue, Sem.run_bind, Sem.run_pure, Result.andThen_ok, invoke]
    have : (#[] ++ ca.args.map a.eval ++ vs : Array Value) = ca.args.map a.eval ++ vs := by simp
    rw [this]
    exact hent c.w
  unfold Oper.wp
  rw [hex, Oper.upon_enter]
  refine hcalls.mono fun e w' hh => ?_
  obtain ⟨c', v, rfl, rfl, hst, hi', hs', hr'⟩ := hh
  exact hn c' v hst hi' hs' hr'

theorem aop_sound {o : Oper} {r : AV} {st' : Store} (h : aop E call fid o tm c.st = some (r, st')) : OpGoes P a o c r st' := by
  have ev := fun x => aeval_rep hr x
  unfold aop at h
  dsimp only at h
  split at h
  · -- move
    rename_i x ho
    simp only [Option.some.injEq, Prod.mk.injEq] at h
    obtain ⟨rfl, rfl⟩ := h
    exact .of_pure hi (by unfold execOp; rw [ho]) (ev x)
  · -- assign
    rename_i x ho
    split at h
    · rename_i d hx hd
      split at h
      · split at h
        · rename_i i ht
          split at h
          · rename_i e hk
            split at h
            · rename_i q he
              split at h
              · cases h
              · simp only [Option.some.injEq, Prod.mk.injEq] at h
                obtain ⟨rfl, rfl⟩ := h
                have hxv := ev x
                rw [hx] at hxv
                generalize hxe : a.eval x = xv at hxv
                cases hxv
                exact .of_value (s := pure (.slice none 0 0)) (by unfold execOp; rw [ho]; simp only [hxe]; rfl) (ends_nil hi (by omega) rfl)
            · cases h
          · simp only [Option.some.injEq, Prod.mk.injEq] at h
            obtain ⟨rfl, rfl⟩ := h
            exact .of_pure hi (by unfold execOp; rw [ho]) (ev x)
        · cases h
      · simp only [Option.some.injEq, Prod.mk.injEq] at h
        obtain ⟨rfl, rfl⟩ := h
        exact .of_pure hi (by unfold execOp; rw [ho]) (ev x)
    · simp only [Option.some.injEq, Prod.mk.injEq] at h
      obtain ⟨rfl, rfl⟩ := h
      exact .of_pure hi (by unfold execOp; rw [ho]) (ev x)
  · -- pick
    rename_i cc x y ho
    split at h
    · rename_i q hq
      simp only [Option.some.injEq, Prod.mk.injEq] at h
      obtain ⟨rfl, rfl⟩ := h
      have hcv := ev cc
      rw [hq] at hcv
      generalize hce : a.eval cc = cv at hcv
      cases hcv
      refine .of_value (s := do pure (if ← asBool (a.eval cc) then a.eval x else a.eval y)) ?_ (Ends.same hi (v := if q then a.eval x else a.eval y) ?_ ?_)
      · unfold execOp; rw [ho]; simp [bind_assoc]
      · rw [hce]; simp [asBool]
      · cases q <;> simp [ev]
    · cases h
  · -- alloc
    rename_i t ho
    split at h
    · rename_i i ht
      simp only [Option.some.injEq, Prod.mk.injEq] at h
      obtain ⟨rfl, rfl⟩ := h
      exact .of_value (s := Instr.alloc t true (.tuple #[])) (by unfold execOp; rw [ho]) (ends_alloc hT hi ht _)
    · cases h
  · -- box
    rename_i t x ho
    split at h
    · rename_i hone
      simp only [Option.some.injEq, Prod.mk.injEq] at h
      obtain ⟨rfl, rfl⟩ := h
      refine .of_value (s := Instr.box t (a.eval x)) (by unfold execOp; rw [ho]) (ends_box hi ((ev x).cells hone) ?_)
      simp [Instr.box, newVar, newRow]
    · cases h
  · -- build
    rename_i t parts ho
    split at h
    · rename_i i ht
      have hps := aeval_parts hr parts.toList
      have hpe : (parts.map fun (x : Nat × Operand) => (x.1, a.eval x.2)).toList = parts.toList.map fun p => (p.1, a.eval p.2) := by simp
      split at h
      · rename_i fs hk
        obtain ⟨h1, rfl⟩ := map_some_pair h
        cases hf : fillA (fun j => (fs[j]?).map fun g => (g.off, g.size)) i.zero (parts.toList.map fun p => (p.1, aeval tm p.2)) with
        | none => simp [hf] at h1
        | some cs =>
          simp only [hf, Option.map_some, Option.some.injEq] at h1
          subst h1
          exact .of_value (s := Instr.build t (parts.map fun (x : Nat × Operand) => (x.1, a.eval x.2))) (by unfold execOp; rw [ho]) (ends_build_struct hT hi ht hk (by rw [hpe]; exact hps) hf)
      · rename_i n e hk
        split at h
        · rename_i q he
          obtain ⟨h1, rfl⟩ := map_some_pair h
          cases hf : fillA (fun j => some (j * q.size, q.size)) i.zero (parts.toList.map fun p => (p.1, aeval tm p.2)) with
          | none => simp [hf] at h1
          | some cs =>
            simp only [hf, Option.map_some, Option.some.injEq] at h1
            subst h1
            exact .of_value (s := Instr.build t (parts.map fun (x : Nat × Operand) => (x.1, a.eval x.2))) (by unfold execOp; rw [ho]) (ends_build_array hT hi ht he hk (by rw [hpe]; exact hps) hf)
        · cases h
      · cases h
    · cases h
  · -- buildSlice
    rename_i t len parts ho
    split at h
    · rename_i i ht
      have hps := aeval_parts hr parts.toList
      have hpe : (parts.map fun (x : Nat × Operand) => (x.1, a.eval x.2)).toList = parts.toList.map fun p => (p.1, a.eval p.2) := by simp
      split at h
      · rename_i e hk
        split at h
        · rename_i q he
          split at h
          · rename_i hc
            obtain ⟨hs, hp⟩ := hc
            split at h
            · rename_i cs hf
              obtain ⟨e1, e2⟩ := ends_buildSlice hT hi ht hk he hs hp (qs := parts.map fun (x : Nat × Operand) => (x.1, a.eval x.2)) (by rw [hpe]; exact hps) hf
              split at h
              · simp only [Option.some.injEq, Prod.mk.injEq] at h
                obtain ⟨rfl, rfl⟩ := h
                exact .of_value (by unfold execOp; rw [ho]) e1
              · simp only [Option.some.injEq, Prod.mk.injEq] at h
                obtain ⟨rfl, rfl⟩ := h
                exact .of_value (by unfold execOp; rw [ho]) e2
            · cases h
          · cases h
        · cases h
      · cases h
    · cases h
  · -- load
    rename_i t p ho
    obtain ⟨h1, rfl⟩ := map_some_pair h
    exact .of_value (s := Instr.loadAt t (a.eval p)) (by unfold execOp; rw [ho]) (ends_of_run hT hi (run_aload hT hi (ev p) h1))
  · -- store
    rename_i t p x ho
    split at h
    · rename_i i ht
      split at h
      · rename_i hsz
        cases hs : astore c.st (aeval tm p) (aeval tm x).cells with
        | none => simp [hs] at h
        | some st2 =>
          simp only [hs, Option.map_some, Option.some.injEq, Prod.mk.injEq] at h
          obtain ⟨rfl, rfl⟩ := h
          exact .of_unit (s := Instr.storeAt t (a.eval p) (a.eval x)) (by unfold execOp; rw [ho]) (ends_store hT hi ht (ev p) (ev x) hsz hs)
      · cases h
    · cases h
  · -- nilCheck
    rename_i x ho
    have hxv := ev x
    split at h
    · rename_i id ver off hx
      split at h
      · rename_i hrow
        simp only [Option.some.injEq, Prod.mk.injEq] at h
        obtain ⟨rfl, rfl⟩ := h
        rw [hx] at hxv
        cases hq : row c.st (.ref id ver off) with
        | none => simp [hq] at hrow
        | some ro =>
          obtain ⟨cs, off'⟩ := ro
          obtain ⟨base, vs, hv, _⟩ := row_cells hi hxv hq
          refine .of_pure hi (v := a.eval x) ?_ hxv
          unfold execOp; rw [ho]; simp only [hv]
      · cases h
    · rename_i cs off hx
      simp only [Option.some.injEq, Prod.mk.injEq] at h
      obtain ⟨rfl, rfl⟩ := h
      rw [hx] at hxv
      generalize hxe : a.eval x = xv at hxv
      cases hxv with
      | fp cs off ad vs k1 k2 k3 k4 =>
        refine .of_pure hi ?_ (.fp cs off ad vs k1 k2 k3 k4)
        unfold execOp; rw [ho]; simp only [hxe]
    · rename_i f caps hx
      simp only [Option.some.injEq, Prod.mk.injEq] at h
      obtain ⟨rfl, rfl⟩ := h
      rw [hx] at hxv
      generalize hxe : a.eval x = xv at hxv
      cases hxv with
      | fn f cs vs k1 =>
        refine .of_pure hi ?_ (.fn f _ vs k1)
        unfold execOp; rw [ho]; simp only [hxe]
    · cases h
  · -- binOp
    rename_i op t x y yt ho
    obtain ⟨h1, rfl⟩ := map_some_pair h
    exact .of_value (s := do eqGuard op t x y (a.eval x) (a.eval y); binOp op t (a.eval x) (a.eval y)) (by unfold execOp; rw [ho]) (ends_of_run hT hi (run_abin hT hi (ev x) (ev y) h1 x y))
  · -- unOp
    rename_i op t x ho
    have hxv := ev x
    split at h
    · rename_i b hx
      simp only [Option.some.injEq, Prod.mk.injEq] at h
      obtain ⟨rfl, rfl⟩ := h
      rw [hx] at hxv
      generalize hxe : a.eval x = xv at hxv
      cases hxv
      exact .of_value (s := Op.unary .not (a.eval x)) (by unfold execOp; rw [ho]) (Ends.same hi (v := .bool !b) (by rw [hxe]; rfl) (.sc _ rfl))
    · rename_i k n hx
      simp only [Option.some.injEq, Prod.mk.injEq] at h
      obtain ⟨rfl, rfl⟩ := h
      rw [hx] at hxv
      generalize hxe : a.eval x = xv at hxv
      cases hxv
      exact .of_value (s := Op.unary .neg (a.eval x)) (by unfold execOp; rw [ho]) (Ends.same hi (v := .int k (k.wrap (0 - n))) (by rw [hxe]; rfl) (.sc _ rfl))
    · cases h
  · -- convert
    rename_i s d x ho
    have hxv := ev x
    split at h
    · rename_i y hx
      obtain ⟨h1, rfl⟩ := map_some_pair h
      rw [hx] at hxv
      generalize hxe : a.eval x = xv at hxv
      refine .of_value (s := Go.convert s d (a.eval x)) (by unfold execOp; rw [ho]) ?_
      rw [hxe]
      unfold aconvert at h1
      split at h1
      · rename_i i j hs hd
        obtain ⟨ds, hds, hks⟩ := (hT.get hs).desc
        obtain ⟨dd, hdd, hkd⟩ := (hT.get hd).desc
        split at h1
        · rename_i k1 k2 k n hk1 hk2
          simp only [Option.some.injEq] at h1
          subst h1
          rw [‹j.kind = TK.int _›] at hkd
          cases dd <;> simp [kindB] at hkd
          subst hkd
          cases hxv
          cases ‹AV.sc y = AV.sc _›
          refine Ends.same hi ?_ (.sc _ rfl)
          cases ds <;> simp [Go.convert, run_underlying hds, run_underlying hdd, Conv.intToInt]
        · simp only [Option.some.injEq] at h1
          subst h1
          rw [‹j.kind = TK.str›] at hkd
          rw [‹i.kind = TK.str›] at hks
          cases dd <;> simp [kindB] at hkd
          cases ds <;> simp [kindB] at hks
          cases hxv
          cases ‹AV.sc y = AV.sc _›
          refine Ends.same hi ?_ (.sc _ rfl)
          simp [Go.convert, run_underlying hds, run_underlying hdd]
        · split at h1
          · rename_i q he
            split at h1
            · rename_i hq
              simp only [Option.ite_none_right_eq_some, Option.some.injEq] at h1
              obtain ⟨hle, rfl⟩ := h1
              cases hxv
              cases ‹AV.sc y = AV.sc _›
              exact ends_bytes hT hi hs hd he ‹_› ‹_› hq hle
            · cases h1
          · cases h1
        · cases h1
      · cases h1
    · split at h
      · rename_i i j hs hd
        split at h
        · rename_i e hk hk2
          split at h
          · rename_i q he
            split at h
            · rename_i hq
              split at h
              · rename_i n cs hsl
                obtain ⟨h1, rfl⟩ := map_some_pair h
                cases hb : bytesOfCells cs with
                | none => simp [hb] at h1
                | some l =>
                  simp only [hb, Option.map_some, Option.some.injEq] at h1
                  subst h1
                  exact .of_value (s := Go.convert s d (a.eval x)) (by unfold execOp; rw [ho]) (Ends.same hi (run_toString hT hi hs hd he ‹_› ‹_› hq (ev x) hsl hb) (.sc _ rfl))
              · cases h
            · cases h
          · cases h
        · cases h
      · cases h
  · -- makeFunc
    rename_i f first caps ho
    split at h
    · rename_i he
      simp only [Option.some.injEq, Prod.mk.injEq] at h
      obtain ⟨rfl, rfl⟩ := h
      refine .of_value (s := Instr.makeFunc (.func f) (first.map a.eval) (caps.map a.eval)) (by unfold execOp; rw [ho]) (Ends.same hi (v := .func (.func f) #[] (caps.map a.eval)) ?_ (.fn f _ _ ?_))
      · have : first = #[] := by simpa using he
        simp [Instr.makeFunc, this]
      · simpa using aeval_reps hr caps.toList
    · cases h
  · -- makeMap
    rename_i t ho
    simp only [Option.some.injEq, Prod.mk.injEq] at h
    obtain ⟨rfl, rfl⟩ := h
    exact .of_value (s := Instr.makeMap t none) (by unfold execOp; rw [ho]; rfl) (ends_makeMap hT hi)
  · -- makeSlice
    rename_i t l cc ho
    have hl := ev l
    have hcv := ev cc
    split at h
    · rename_i i k n k' m ht hle hce
      split at h
      · rename_i e hk
        split at h
        · rename_i q he
          split at h
          · rename_i hcond
            obtain ⟨h0, rfl, hn, hb, hp⟩ := hcond
            simp only [Option.some.injEq, Prod.mk.injEq] at h
            obtain ⟨rfl, rfl⟩ := h
            rw [hle] at hl
            rw [hce] at hcv
            generalize hlv : a.eval l = lv at hl
            generalize hcw : a.eval cc = cw at hcv
            cases hl; cases hcv
            exact .of_value (s := Instr.makeSlice t (.int k n) (.int k' n)) (by unfold execOp; rw [ho]; simp only [hlv, hcw]) (ends_makeSlice hT hi ht hk he h0 hn hb hp)
          · cases h
        · cases h
      · cases h
    · cases h
  · -- slice
    rename_i t x lo hi' ho
    obtain ⟨h1, rfl⟩ := map_some_pair h
    exact .of_value (s := Instr.sliceAt t (a.eval x) (lo.map a.eval) (hi'.map a.eval) none) (by unfold execOp; rw [ho]; rfl) (ends_of_run hT hi (run_aslice hT hi (ev x) (repo_map hr lo) (repo_map hr hi') h1))
  · -- fieldAddr
    rename_i t x f ho
    obtain ⟨h1, rfl⟩ := map_some_pair h
    exact .of_value (s := Instr.fieldAt t (a.eval x) f) (by unfold execOp; rw [ho]) (ends_of_run hT hi (run_afieldAddr hT hi (ev x) h1))
  · -- field
    rename_i t x f ho
    obtain ⟨h1, rfl⟩ := map_some_pair h
    exact .of_value (s := Instr.field t (a.eval x) f) (by unfold execOp; rw [ho]) (ends_of_run hT hi (run_afield hT hi (ev x) h1))
  · -- indexAddr
    rename_i t x i ho
    obtain ⟨h1, rfl⟩ := map_some_pair h
    exact .of_value (s := Instr.indexAt t (a.eval x) (a.eval i)) (by unfold execOp; rw [ho]) (ends_of_run hT hi (run_aindexAddr hT hi (ev x) (ev i) h1))
  · -- index
    rename_i t x i ho
    obtain ⟨h1, rfl⟩ := map_some_pair h
    exact .of_value (s := Instr.index t (a.eval x) (a.eval i)) (by unfold execOp; rw [ho]) (ends_of_run hT hi (run_aindex hT hi (ev x) (ev i) h1))
  · -- lookup
    rename_i t x i ok ho
    obtain ⟨h1, rfl⟩ := map_some_pair h
    exact .of_value (s := Instr.lookup t (a.eval x) (a.eval i) ok) (by unfold execOp; rw [ho]) (ends_of_run hT hi (run_alookup hT hi (ev x) (ev i) h1))
  · -- mapUpdate
    rename_i t m k x ho
    cases hs : amapUpdate E.tb c.st t (aeval tm m) (aeval tm k) (aeval tm x) with
    | none => simp [hs] at h
    | some st2 =>
      simp only [hs, Option.map_some, Option.some.injEq, Prod.mk.injEq] at h
      obtain ⟨rfl, rfl⟩ := h
      exact .of_unit (s := Instr.mapUpdate t (a.eval m) (a.eval k) (a.eval x)) (by unfold execOp; rw [ho]) (ends_mapUpdate hT hi (ev m) (ev k) (ev x) hs)
  · -- insert
    rename_i t m k x ho
    cases hs : amapUpdate E.tb c.st t (aeval tm m) (aeval tm k) (aeval tm x) with
    | none => simp [hs] at h
    | some st2 =>
      simp only [hs, Option.map_some, Option.some.injEq, Prod.mk.injEq] at h
      obtain ⟨rfl, rfl⟩ := h
      exact .of_unit (s := Instr.mapUpdate t (a.eval m) (a.eval k) (a.eval x)) (by unfold execOp; rw [ho]) (ends_mapUpdate hT hi (ev m) (ev k) (ev x) hs)
  · -- extract
    rename_i t i ho
    have htv := ev t
    split at h
    · rename_i vs hv
      obtain ⟨h1, rfl⟩ := map_some_pair h
      rw [hv] at htv
      generalize hte : a.eval t = tv at htv
      cases htv with
      | tup cs us hus =>
        obtain ⟨u, hu, hru⟩ := hus.get h1
        have hu' : us[i]? = some u := by simpa using hu
        refine .of_value (s := Instr.extract (a.eval t) i) (by unfold execOp; rw [ho]) (Ends.same hi (v := u) ?_ hru)
        rw [hte]
        simp [Instr.extract, hu']
    · cases h
  · -- call
    rename_i ca ho
    split at h
    · rename_i f hf
      split at h
      · rename_i g caps hfn
        exact call_goes hT hcall hi hr ho hf hfn h
      · cases h
    · rename_i b hb
      exact builtin_goes hT hcall hi hr ho hb h
    · cases h
  · cases h

end
end Go.Abs
