/-
  One operation, and a list of them. Lemmas alone; no condition.
-/
import Derived.Test.YticlelmlnadclaaDoorKAbs11
set_option linter.unusedVariables false
set_option linter.unusedSimpArgs false
set_option linter.unusedSectionVars false
set_option linter.unnecessarySimpa false
set_option linter.deprecated false
namespace Go.Abs
open Go

/-- what is asked of the way functions are called -/
def CallOk (P : Program) (call : Caller) : Prop :=
  ∀ f args st r st', call f args st = some (r, st') → ∀ (c : Cx) (vs : Array Value), Inv c → c.st = st → Reps c args vs.toList →
    (∀ w : World, (callFunc f vs).run P w = .ok (.enter f vs) w) ∧
    Calls P f vs c.w fun e w' => ∃ c' v, e = .returned v ∧ c'.w = w' ∧ c'.st = st' ∧ Inv c' ∧ Step c c' ∧ Rep c' r v

/-- how an operation goes on -/
def OpGoes (P : Program) (a : Act) (o : Oper) (c : Cx) (r : AV) (st' : Store) : Prop :=
  ∀ (next : Act → World → Prop) (Q : Exit → Act → World → Prop),
    (∀ c' v, c'.st = st' → Inv c' → Step c c' → Rep c' r v → next (a.put o.dst v) c'.w) → o.wp P a c.w next Q

theorem OpGoes.of_value {P : Program} {a : Act} {o : Oper} {c : Cx} {r : AV} {st' : Store} {s : Sem Value} (he : execOp a.eval o = (do pure (.value (← s)))) (h : Ends P c s r st') : OpGoes P a o c r st' := by
  intro next Q hn
  obtain ⟨c', v, hrun, hst, hi, hs, hr⟩ := h
  unfold Oper.wp
  rw [he, Sem.run_bind, hrun]
  exact hn c' v hst hi hs hr

theorem OpGoes.of_pure {P : Program} {a : Act} {o : Oper} {c : Cx} {r : AV} {v : Value} (hi : Inv c) (he : execOp a.eval o = pure (.value v)) (h : Rep c r v) : OpGoes P a o c r c.st := by
  intro next Q hn
  unfold Oper.wp
  rw [he, Sem.run_pure]
  exact hn c v rfl hi (Step.refl c) h

theorem OpGoes.of_unit {P : Program} {a : Act} {o : Oper} {c : Cx} {st' : Store} {s : Sem Unit} (he : execOp a.eval o = (do s; pure .skip)) (h : ∃ c', s.run P c.w = .ok () c'.w ∧ c'.st = st' ∧ Inv c' ∧ Step c c') : OpGoes P a o c .bad st' := by
  intro next Q hn
  obtain ⟨c', hrun, hst, hi, hs⟩ := h
  unfold Oper.wp
  rw [he, Sem.run_bind, hrun]
  exact hn c' undef hst hi hs (.bad _)

theorem aeval_rep {c : Cx} {tm : List AV} {a : Act} (hr : Reps c tm a.tmps.toList) : ∀ x : Operand, Rep c (aeval tm x) (a.eval x)
  | .tmp t => by
    simp only [aeval, Act.eval]
    cases h : tm[t]? with
    | none => simp [List.getD, h]; exact .bad _
    | some v =>
      obtain ⟨u, hu, hru⟩ := hr.get h
      have : a.tmps[t]? = some u := by simpa using hu
      simp [List.getD, h, Array.getD_eq_getD_getElem?, this]
      exact hru
  | .const v => by
    simp only [aeval, Act.eval]
    split
    · rename_i h; exact .sc v h
    · exact .bad _
  | .global g => .bad _
  | .func f => .fn f [] #[] .nil

theorem aeval_reps {c : Cx} {tm : List AV} {a : Act} (hr : Reps c tm a.tmps.toList) : ∀ xs : List Operand, Reps c (xs.map (aeval tm)) (xs.map a.eval)
  | [] => .nil
  | x :: xs => .cons _ _ _ _ (aeval_rep hr x) (aeval_reps hr xs)

theorem aeval_parts {c : Cx} {tm : List AV} {a : Act} (hr : Reps c tm a.tmps.toList) : ∀ ps : List (Nat × Operand), RepParts c (ps.map fun p => (p.1, aeval tm p.2)) (ps.map fun p => (p.1, a.eval p.2))
  | [] => trivial
  | p :: ps => ⟨rfl, aeval_rep hr p.2, aeval_parts hr ps⟩

theorem repo_map {c : Cx} {tm : List AV} {a : Act} (hr : Reps c tm a.tmps.toList) : ∀ x : Option Operand, RepO c (x.map (aeval tm)) (x.map a.eval)
  | none => trivial
  | some x => aeval_rep hr x

section
variable {P : Program} {E : Env} (hT : TbOk P E.tb) {call : Caller} (hcall : CallOk P call) {fid : FuncId} {tm : List AV} {a : Act} {c : Cx} (hi : Inv c) (hr : Reps c tm a.tmps.toList)
include hT hcall hi hr

omit hcall hr in
theorem ends_of_run {s : Sem Value} {r : AV} (h : ∃ u, s.run P c.w = .ok u c.w ∧ Rep c r u) : Ends P c s r c.st := by
  obtain ⟨u, h1, h2⟩ := h
  exact Ends.same hi h1 h2

theorem builtin_goes {o : Oper} {b : Builtin} {ca : Call} (ho : o.op = .call ca) (hb : ca.callee = .builtin b) {r : AV} {st' : Store}
    (h : abuiltin E.tb c.st b ca.argTypes.toList (ca.args.toList.map (aeval tm)) = some (r, st')) : OpGoes P a o c r st' := by
  have hargs := aeval_reps hr ca.args.toList
  have hex : execOp a.eval o = (do let d ← (resolve a.eval ca o.type); invoke d.target d.args) := by unfold execOp; rw [ho]
  have hres : ∃ consts, ∀ w, (do let d ← (resolve a.eval ca o.type); invoke d.target d.args : Sem Next).run P w = (builtin b ca.argTypes o.type consts (ca.args.map a.eval)).run P w := by
    apply Exists.intro
    intro w
    simp only [resolve, hb, Sem.run_bind, Sem.run_pure, Result.andThen_ok, invoke]
    rfl
  obtain ⟨consts, hres⟩ := hres
  have hal : (ca.args.map a.eval).toList = ca.args.toList.map a.eval := by simp
  generalize hL : ca.args.toList.map (aeval tm) = L at h hargs
  generalize hV : ca.args.toList.map a.eval = V at hargs hal
  generalize hA : ca.args.map a.eval = A at hres hal
  generalize hTs : ca.argTypes.toList = ts at h
  have hts : ∀ i : Nat, ca.argTypes[i]? = ts[i]? := fun i => by rw [← hTs, Array.getElem?_toList]
  have hAs : ∀ i : Nat, A[i]? = V[i]? := fun i => by rw [← hal, Array.getElem?_toList]
  have goal : ∀ {s : Sem Value}, (∀ w, (builtin b ca.argTypes o.type consts A).run P w = (do pure (Next.value (← s)) : Sem Next).run P w) → Ends P c s r st' → OpGoes P a o c r st' := by
    intro s hs he next Q hn
    obtain ⟨c', v, hrun, hst, hi', hs', hr'⟩ := he
    unfold Oper.wp
    rw [hex, hres, hs, Sem.run_bind, hrun]
    exact hn c' v hst hi' hs' hr'
  unfold abuiltin at h
  split at h
  · rename_i t _ x _
    split at h
    · rename_i i ht
      cases hargs with
      | cons _ xv _ _ hx _ =>
      split at h
      · simp only [Option.some.injEq, Prod.mk.injEq] at h
        obtain ⟨rfl, rfl⟩ := h
        obtain ⟨d, hd, hkb⟩ := (hT.get ht).desc
        rw [‹i.kind = TK.array _ _›] at hkb
        cases d <;> simp [kindB] at hkb
        obtain ⟨rfl, rfl⟩ := hkb
        refine goal (s := Builtin.len_ ca.argTypes o.type A) (fun w => rfl) (Ends.same hi ?_ (.sc _ rfl))
        have e1 : ca.argTypes[0]? = some t := by rw [hts]; rfl
        have e2 : A[0]? = some xv := by rw [hAs]; rfl
        simp [Builtin.len_, e1, e2, run_underlying hd, goInt]
      · split at h
        · rename_i hf
          cases hn : lenOf c.st x with
          | none => simp [hn] at h
          | some n =>
            simp only [hn, Option.map_some, Option.some.injEq, Prod.mk.injEq] at h
            obtain ⟨rfl, rfl⟩ := h
            refine goal (s := Builtin.len_ ca.argTypes o.type A) (fun w => rfl) (Ends.same hi (run_len hT hi ht hf hx hn (by rw [hts]; rfl) (by rw [hAs]; rfl)) (.sc _ rfl))
        · cases h
    · cases h
  · rename_i t u _ s x _
    split at h
    · rename_i i j ht hu
      cases hargs with
      | cons _ sv _ _ hsv hargs =>
      cases hargs with
      | cons _ xv _ _ hxv hargs =>
      split at h
      · rename_i e e' hk hk'
        split at h
        · rename_i q he
          split at h
          · rename_i news hs
            obtain ⟨d, hd, hkb⟩ := (hT.get ht).desc
            obtain ⟨d', hd', hkb'⟩ := (hT.get hu).desc
            rw [‹i.kind = TK.slice _›] at hkb
            rw [‹j.kind = TK.slice _›] at hkb'
            cases d <;> simp [kindB] at hkb
            cases d' <;> simp [kindB] at hkb'
            subst hkb hkb'
            have hends := ends_append hT hi (ty := o.type) he hd hd' hsv hxv hs h
            refine goal (s := Builtin.append_ #[t, u] o.type #[sv, xv]) (fun w => ?_) hends
            have e1 : Builtin.append_ ca.argTypes o.type A = Builtin.append_ #[t, u] o.type #[sv, xv] := by
              unfold Builtin.append_
              simp only [hts, hAs]
              rfl
            rw [← e1]
            rfl
          · cases h
        · cases h
      · cases h
    · cases h
  · rename_i k x k' y
    simp only [Option.some.injEq, Prod.mk.injEq] at h
    obtain ⟨rfl, rfl⟩ := h
    cases hargs with
    | cons _ _ _ _ h1 hargs =>
    cases hargs with
    | cons _ _ _ _ h2 hargs =>
    cases hargs; cases h1; cases h2
    refine goal (s := Builtin.max_ ca.argTypes o.type A) (fun w => rfl) (Ends.same hi (v := .int k (if y > x then y else x)) ?_ (.sc _ rfl))
    simp [Builtin.max_, hal, Builtin.max2]
  · rename_i k x k' y
    simp only [Option.some.injEq, Prod.mk.injEq] at h
    obtain ⟨rfl, rfl⟩ := h
    cases hargs with
    | cons _ _ _ _ h1 hargs =>
    cases hargs with
    | cons _ _ _ _ h2 hargs =>
    cases hargs; cases h1; cases h2
    refine goal (s := Builtin.min_ ca.argTypes o.type A) (fun w => rfl) (Ends.same hi (v := .int k (if y < x then y else x)) ?_ (.sc _ rfl))
    simp [Builtin.min_, hal, Builtin.min2]
  · cases h

end
end Go.Abs
