/-
  Regions that draw their order: the text's order gives what every order gives. Lemmas alone; no condition.
-/
import Derived.Test.YticlelmlnadclaaDoorKAbsD1
import Derived.Orders
set_option linter.unusedVariables false
set_option linter.unusedSimpArgs false
set_option linter.unusedSectionVars false
set_option linter.unnecessarySimpa false
set_option linter.deprecated false
namespace Go.Abs
open Go

section
variable {E : Env} {call : Caller} {fid : FuncId} {ops : Array Oper}

/-- what an operation yields, done or passed over -/
def aout (E : Env) (call : Caller) (fid : FuncId) (ops : Array Oper) (o : Oper) (tm : List AV) (st : Store) : ARes :=
  match awanted o ops tm with
  | some true => aop E call fid o tm st
  | some false => some (.tup [], st)
  | none => none

theorem astep_eq (o : Oper) (tm : List AV) (st : Store) : astep E call fid ops o tm st = (aout E call fid ops o tm st).map fun r => (aput tm o.dst r.1, r.2) := by
  unfold astep aout
  split <;> simp_all

def clsAt (E : Env) (fid : FuncId) (ops : Array Oper) (o : Oper) (tm : List AV) : Cls := if awanted o ops tm = some true then cls E fid o tm else .free

theorem mem_tmpsOf {o : Oper} {t : Tmp} (h : Operand.tmp t ∈ o.op.operands.toList) : t ∈ tmpsOf o := List.mem_filterMap.2 ⟨_, h, rfl⟩

/-- two tables that agree where the operation looks -/
def Agree (l : List Tmp) (tm tm' : List AV) : Prop := ∀ t ∈ l, tm[t]? = tm'[t]?

theorem awanted_congr {o : Oper} {tm tm' : List AV} (h : Agree (looksAt ops o) tm tm') : awanted o ops tm = awanted o ops tm' := by
  unfold awanted
  cases hg : o.guard with
  | none => rfl
  | some jw =>
    obtain ⟨j, want⟩ := jw
    cases hd : (ops[j]?).bind (·.dst) with
    | none => simp [hd]
    | some d =>
      have : tm[d]? = tm'[d]? := h d (by simp [looksAt, hg, hd])
      simp [hd, this]

theorem operands_congr {o : Oper} {tm tm' : List AV} (h : Agree (looksAt ops o) tm tm') : ∀ x ∈ o.op.operands.toList, aeval tm x = aeval tm' x := by
  intro x hx
  refine aeval_congr fun t ht => ?_
  subst ht
  have := h t (by simp only [looksAt, List.mem_append]; exact .inl (mem_tmpsOf hx))
  simp [List.getD_eq_getElem?_getD, this]

theorem aout_congr {o : Oper} {tm tm' : List AV} {st : Store} (h : Agree (looksAt ops o) tm tm') : aout E call fid ops o tm st = aout E call fid ops o tm' st ∧ clsAt E fid ops o tm = clsAt E fid ops o tm' := by
  unfold aout clsAt
  rw [awanted_congr h, (aop_congr (operands_congr h)).1, (aop_congr (E := E) (call := call) (fid := fid) (st := st) (operands_congr h)).2]
  exact ⟨rfl, rfl⟩

theorem aout_free (hcf : CallFree E call) {o : Oper} {tm : List AV} {st : Store} {r : AV} {st' : Store} (hc : clsAt E fid ops o tm = .free) (h : aout E call fid ops o tm st = some (r, st')) :
    st' = st ∧ ∀ s, aout E call fid ops o tm s = some (r, s) := by
  unfold clsAt at hc
  unfold aout at h ⊢
  split at h
  · rename_i hw
    rw [if_pos hw] at hc
    exact aop_free hcf hc h
  · simp only [Option.some.injEq, Prod.mk.injEq] at h
    obtain ⟨rfl, rfl⟩ := h
    exact ⟨rfl, fun s => rfl⟩
  · cases h

theorem aout_reads {o : Oper} {tm : List AV} {st : Store} {r : AV} {st' : Store} (hc : clsAt E fid ops o tm = .reads) (h : aout E call fid ops o tm st = some (r, st')) :
    st' = st ∧ ∀ x, aout E call fid ops o tm (st ++ [x]) = some (r, st ++ [x]) := by
  unfold clsAt at hc
  unfold aout at h ⊢
  split at h
  · rename_i hw
    rw [if_pos hw] at hc
    exact aop_reads hc h
  · rename_i hw
    rw [hw] at hc
    simp at hc
  · cases h

theorem aout_allocs {o : Oper} {tm : List AV} {st : Store} {r : AV} {st' : Store} (hc : clsAt E fid ops o tm = .allocs) (h : aout E call fid ops o tm st = some (r, st')) : ∃ x, st' = st ++ [x] := by
  unfold clsAt at hc
  unfold aout at h
  split at h
  · rename_i hw
    rw [if_pos hw] at hc
    exact aop_allocs hc h
  · rename_i hw
    rw [hw] at hc
    simp at hc
  · cases h

/-- a run in which each operation is of the class that is told -/
def crun (E : Env) (call : Caller) (fid : FuncId) (ops : Array Oper) (cl : Nat → Cls) : List Nat → List AV → Store → Option (List AV × Store)
  | [], tm, st => some (tm, st)
  | i :: l, tm, st =>
    match ops[i]? with
    | none => none
    | some o =>
      if clsAt E fid ops o tm = cl i then
        match astep E call fid ops o tm st with
        | some (tm', st') => crun E call fid ops cl l tm' st'
        | none => none
      else none

theorem agree_put {l : List Tmp} {tm : List AV} {d : Option Tmp} {v : AV} (h : ∀ t, d = some t → l.contains t = false) : Agree l (aput tm d v) tm := by
  intro t ht
  cases d with
  | none => rfl
  | some d =>
    have hne : d ≠ t := by
      rintro rfl
      have := h d rfl
      simp at this
      exact this ht
    simp [aput, List.getElem?_set_ne hne]

theorem aput_comm {tm : List AV} {d e : Option Tmp} {v u : AV} (h : ∀ t, d = some t → e ≠ some t) : aput (aput tm d v) e u = aput (aput tm e u) d v := by
  cases d with
  | none => rfl
  | some d =>
    cases e with
    | none => rfl
    | some e =>
      have hne : d ≠ e := fun he => h d rfl (by rw [he])
      simp only [aput]
      exact List.set_comm _ _ hne

theorem swap_step (hcf : CallFree E call) {x y : Oper} {tm : List AV} {st : Store} {tm1 : List AV} {st1 : Store} {tm2 : List AV} {st2 : Store}
    (hap : apart ops x y = true) (hm : (clsAt E fid ops x tm).meet (clsAt E fid ops y tm1) = true)
    (h1 : astep E call fid ops x tm st = some (tm1, st1)) (h2 : astep E call fid ops y tm1 st1 = some (tm2, st2)) :
    ∃ tm1' st1', astep E call fid ops y tm st = some (tm1', st1') ∧ astep E call fid ops x tm1' st1' = some (tm2, st2) ∧ clsAt E fid ops y tm = clsAt E fid ops y tm1 ∧ clsAt E fid ops x tm1' = clsAt E fid ops x tm := by
  rw [astep_eq] at h1 h2
  cases ha : aout E call fid ops x tm st with
  | none => simp [ha] at h1
  | some r =>
    obtain ⟨r, s1⟩ := r
    simp only [ha, Option.map_some, Option.some.injEq, Prod.mk.injEq] at h1
    obtain ⟨rfl, rfl⟩ := h1
    have hap' := hap
    unfold apart at hap'
    simp only [Bool.and_eq_true] at hap'
    obtain ⟨hx, hy⟩ := hap'
    have hagy : Agree (looksAt ops y) (aput tm x.dst r) tm := agree_put fun t ht => by
      rw [ht] at hx
      simp at hx
      simpa using hx.1
    have hdst : ∀ t, x.dst = some t → y.dst ≠ some t := fun t ht => by
      rw [ht] at hx
      simp at hx
      simpa using hx.2
    have hagx : ∀ q, Agree (looksAt ops x) (aput tm y.dst q) tm := fun q => agree_put fun t ht => by
      rw [ht] at hy
      simp at hy
      simpa using hy
    cases hb : aout E call fid ops y (aput tm x.dst r) s1 with
    | none => simp [hb] at h2
    | some q =>
      obtain ⟨q, s2⟩ := q
      simp only [hb, Option.map_some, Option.some.injEq, Prod.mk.injEq] at h2
      obtain ⟨rfl, rfl⟩ := h2
      have hcy := (aout_congr (E := E) (call := call) (fid := fid) (st := s1) hagy).2
      rw [(aout_congr hagy).1] at hb
      rw [hcy] at hm
      have fin : ∀ s1', aout E call fid ops y tm st = some (q, s1') → aout E call fid ops x tm s1' = some (r, s2) →
          ∃ tm1' st1', astep E call fid ops y tm st = some (tm1', st1') ∧ astep E call fid ops x tm1' st1' = some (aput (aput tm x.dst r) y.dst q, s2) ∧ clsAt E fid ops y tm = clsAt E fid ops y (aput tm x.dst r) ∧ clsAt E fid ops x tm1' = clsAt E fid ops x tm := by
        intro s1' e1 e2
        refine ⟨aput tm y.dst q, s1', by rw [astep_eq, e1]; rfl, ?_, hcy.symm, (aout_congr (E := E) (call := call) (fid := fid) (st := s1) (hagx q)).2⟩
        rw [astep_eq, (aout_congr (hagx q)).1, e2]
        simp only [Option.map_some]
        rw [aput_comm hdst]
      have key : ∃ s1', aout E call fid ops y tm st = some (q, s1') ∧ aout E call fid ops x tm s1' = some (r, s2) := by
        cases hclx : clsAt E fid ops x tm with
        | free =>
          obtain ⟨rfl, hall⟩ := aout_free hcf hclx ha
          exact ⟨_, hb, hall _⟩
        | reads =>
          obtain ⟨rfl, hpush⟩ := aout_reads hclx ha
          cases hcly : clsAt E fid ops y tm with
          | free => 
            obtain ⟨rfl, hall2⟩ := aout_free hcf hcly hb
            exact ⟨_, hb, ha⟩
          | reads =>
            obtain ⟨rfl, _⟩ := aout_reads hcly hb
            exact ⟨_, hb, ha⟩
          | allocs =>
            obtain ⟨o, rfl⟩ := aout_allocs hcly hb
            exact ⟨_, hb, hpush o⟩
          | writes => rw [hclx, hcly] at hm; cases hm
        | allocs =>
          cases hcly : clsAt E fid ops y tm with
          | free =>
            obtain ⟨rfl, hall2⟩ := aout_free hcf hcly hb
            exact ⟨_, hall2 st, ha⟩
          | _ => rw [hclx, hcly] at hm; cases hm
        | writes =>
          cases hcly : clsAt E fid ops y tm with
          | free =>
            obtain ⟨rfl, hall2⟩ := aout_free hcf hcly hb
            exact ⟨_, hall2 st, ha⟩
          | _ => rw [hclx, hcly] at hm; cases hm
      obtain ⟨s1', e1, e2⟩ := key
      exact fin s1' e1 e2

/-- x, y: y may go ahead of x -/
def may (ops : Array Oper) (cl : Nat → Cls) (i j : Nat) : Prop := ∀ x y, ops[i]? = some x → ops[j]? = some y → (cl i).meet (cl j) = true ∧ apart ops x y = true

theorem crun_swap (hcf : CallFree E call) {cl : Nat → Cls} {i j : Nat} (hm : may ops cl i j) {l : List Nat} {tm : List AV} {st : Store} {r : List AV × Store} (h : crun E call fid ops cl (i :: j :: l) tm st = some r) :
    crun E call fid ops cl (j :: i :: l) tm st = some r := by
  simp only [crun] at h
  cases hi : ops[i]? with
  | none => simp [hi] at h
  | some x =>
    simp only [hi] at h
    split at h
    · rename_i hcx
      split at h
      · rename_i tm1 st1 h1
        cases hj : ops[j]? with
        | none => simp [hj] at h
        | some y =>
          simp only [hj] at h
          split at h
          · rename_i hcy
            split at h
            · rename_i tm2 st2 h2
              obtain ⟨hmm, hap⟩ := hm x y hi hj
              obtain ⟨tm1', st1', e1, e2, c1, c2⟩ := swap_step hcf hap (by rw [hcx, hcy]; exact hmm) h1 h2
              simp only [crun, hj, c1.trans hcy, if_true, e1, hi, c2.trans hcx, e2]
              exact h
            · cases h
          · cases h
      · cases h
    · cases h

theorem crun_bubble (hcf : CallFree E call) {cl : Nat → Cls} {j : Nat} : ∀ (l1 : List Nat) {l2 : List Nat} {tm : List AV} {st : Store} {r : List AV × Store}, (∀ i ∈ l1, may ops cl i j) →
    crun E call fid ops cl (l1 ++ j :: l2) tm st = some r → crun E call fid ops cl (j :: (l1 ++ l2)) tm st = some r
  | [], l2, tm, st, r, _, h => h
  | i :: l1, l2, tm, st, r, hm, h => by
    refine crun_swap hcf (hm i (by simp)) ?_
    simp only [List.cons_append, crun] at h ⊢
    cases hi : ops[i]? with
    | none => simp [hi] at h
    | some x =>
      simp only [hi] at h ⊢
      split at h
      · rename_i hc
        rw [if_pos hc]
        split at h
        · rename_i tm1 st1 h1
          exact crun_bubble hcf l1 (fun k hk => hm k (by simp [hk])) h
        · cases h
      · cases h

end
end Go.Abs
