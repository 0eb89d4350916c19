/-
  The evaluator's run, step by step: one rule for each word of the code, each in the form 'what is to be shown of the rest suffices'. Definitions and lemmas; no condition.
-/
import Derived.Test.YticlelmlnadclaaDoorKAbsL
import Derived.KernelRfl
set_option linter.unusedVariables false
set_option linter.unusedSimpArgs false
set_option linter.unusedSectionVars false
set_option linter.unnecessarySimpa false
set_option linter.deprecated false
namespace Go.Abs
open Go

/-- a code's run -/
noncomputable def X (E : Env) (f : FuncId) (code : Code) (tm : List AV) (st : Store) : Out := ex E (acall E) f code tm st

/-- a region's run -/
noncomputable def S (E : Env) (f : FuncId) (ops : Array Oper) (l : List Oper) (tm : List AV) (st : Store) : Option (List AV × Store) := asteps E (fcall E) f ops l tm st

/-- what is still to come: a code, or the end of a block -/
inductive Fm where
  | sq (b : Code)
  | bl (id : Nat)

noncomputable def runK (E : Env) (f : FuncId) : List Fm → AX × List AV × Store → Out
  | [], r => some r
  | .sq b :: k, (.normal, tm, st) => (X E f b tm st).bind (runK E f k)
  | .sq _ :: k, (.exit i, tm, st) => runK E f k (.exit i, tm, st)
  | .sq _ :: k, (.ret, tm, st) => runK E f k (.ret, tm, st)
  | .bl id :: k, (.exit i, tm, st) => if i = id then runK E f k (.normal, tm, st) else runK E f k (.exit i, tm, st)
  | .bl _ :: k, (.normal, tm, st) => runK E f k (.normal, tm, st)
  | .bl _ :: k, (.ret, tm, st) => runK E f k (.ret, tm, st)

/-- Q holds of a code's run and of what comes behind it -/
def J (E : Env) (f : FuncId) (Q : Out → Prop) (k : List Fm) (code : Code) (tm : List AV) (st : Store) : Prop := Q ((X E f code tm st).bind (runK E f k))
def JK (E : Env) (f : FuncId) (Q : Out → Prop) (k : List Fm) (r : AX × List AV × Store) : Prop := Q (runK E f k r)

noncomputable def Sj (E : Env) (f : FuncId) (ops : Array Oper) (i : Nat) (tm : List AV) (st : Store) : Option (List AV × Store) := S E f ops (ops.toList.drop i) tm st

/-- Q holds of what is left of a region -/
def JS (E : Env) (f : FuncId) (ops : Array Oper) (Q : Option (List AV × Store) → Prop) (i : Nat) (tm : List AV) (st : Store) : Prop := Q (Sj E f ops i tm st)

/-- behind a region -/
def Reg (E : Env) (f : FuncId) (Q : Out → Prop) (k : List Fm) (o : Option (List AV × Store)) : Prop := Q ((o.bind fun r => some (.normal, r.1, r.2)).bind (runK E f k))

section
variable {E : Env} {f : FuncId} {Q : Out → Prop} {k : List Fm} {tm : List AV} {st : Store}

theorem J_seq {a b : Code} (h : J E f Q (.sq b :: k) a tm st) : J E f Q k (.seq a b) tm st := by
  unfold J at *
  have : X E f (.seq a b) tm st = (X E f a tm st).bind (andThen (X E f b)) := ex_seq (acall_monoC E) a b tm st
  rw [this, Option.bind_assoc]
  have hk : (fun x => (andThen (X E f b) x).bind (runK E f k)) = runK E f (.sq b :: k) := by
    funext r
    obtain ⟨e, t, s⟩ := r
    cases e <;> rfl
  rw [hk]
  exact h

theorem J_block {id : Nat} {b : Code} (h : J E f Q (.bl id :: k) b tm st) : J E f Q k (.block id b) tm st := by
  unfold J at *
  have : X E f (.block id b) tm st = (X E f b tm st).bind (outBlock id) := ex_block (acall_monoC E) id b tm st
  rw [this, Option.bind_assoc]
  have hk : (fun x => (outBlock id x).bind (runK E f k)) = runK E f (.bl id :: k) := by
    funext r
    obtain ⟨e, t, s⟩ := r
    cases e with
    | exit i => simp only [outBlock, runK]; split <;> rfl
    | _ => rfl
  rw [hk]
  exact h

theorem J_cond {q : Operand} {a b : Code} (v : Bool) (hv : aeval tm q = .sc (.bool v)) (h : J E f Q k (if v = true then a else b) tm st) : J E f Q k (.cond q a b) tm st := by
  unfold J at *
  have : X E f (.cond q a b) tm st = if v then X E f a tm st else X E f b tm st := ex_cond q a b tm st hv
  rw [this]
  cases v <;> exact h

theorem J_condT {q : Operand} {a b : Code} {v : Bool} (hv : aeval tm q = .sc (.bool v)) (ht : v = true) (h : J E f Q k a tm st) : J E f Q k (.cond q a b) tm st :=
  J_cond v hv (by rw [if_pos ht]; exact h)
theorem J_condF {q : Operand} {a b : Code} {v : Bool} (hv : aeval tm q = .sc (.bool v)) (ht : v = false) (h : J E f Q k b tm st) : J E f Q k (.cond q a b) tm st :=
  J_cond v hv (by rw [if_neg (by simp [ht])]; exact h)

theorem J_skip (h : JK E f Q k (.normal, tm, st)) : J E f Q k .skip tm st := by
  unfold J
  have : X E f .skip tm st = some (.normal, tm, st) := ex_skip tm st
  rw [this]
  exact h
theorem J_exit {i : Nat} (h : JK E f Q k (.exit i, tm, st)) : J E f Q k (.exit i) tm st := by
  unfold J
  have : X E f (.exit i) tm st = some (.exit i, tm, st) := ex_exit i tm st
  rw [this]
  exact h
theorem J_ret (h : JK E f Q k (.ret, tm, st)) : J E f Q k .ret tm st := by
  unfold J
  have : X E f .ret tm st = some (.ret, tm, st) := ex_ret tm st
  rw [this]
  exact h

theorem JK_sq {b : Code} (h : J E f Q k b tm st) : JK E f Q (.sq b :: k) (.normal, tm, st) := h
theorem JK_sq_exit {b : Code} {i : Nat} (h : JK E f Q k (.exit i, tm, st)) : JK E f Q (.sq b :: k) (.exit i, tm, st) := h
theorem JK_sq_ret {b : Code} (h : JK E f Q k (.ret, tm, st)) : JK E f Q (.sq b :: k) (.ret, tm, st) := h
theorem JK_bl {id : Nat} (h : JK E f Q k (.normal, tm, st)) : JK E f Q (.bl id :: k) (.normal, tm, st) := h
theorem JK_bl_ret {id : Nat} (h : JK E f Q k (.ret, tm, st)) : JK E f Q (.bl id :: k) (.ret, tm, st) := h
theorem JK_bl_hit {id : Nat} (h : JK E f Q k (.normal, tm, st)) : JK E f Q (.bl id :: k) (.exit id, tm, st) := by
  unfold JK at *
  simp only [runK, if_true]
  exact h
theorem JK_bl_miss {id i : Nat} (hn : (i == id) = false) (h : JK E f Q k (.exit i, tm, st)) : JK E f Q (.bl id :: k) (.exit i, tm, st) := by
  unfold JK at *
  have : ¬ i = id := by simpa using hn
  simp only [runK, if_neg this]
  exact h
theorem JK_nil {r : AX × List AV × Store} (h : Q (some r)) : JK E f Q [] r := h

theorem J_region {id : Nat} {ops : Array Oper} (h : JS E f ops (Reg E f Q k) 0 (hR E f id tm st).1 (hR E f id tm st).2) : J E f Q k (.region id ops false) tm st := by
  unfold J
  have : X E f (.region id ops false) tm st = (asteps E (fcall E) f ops ops.toList (hR E f id tm st).1 (hR E f id tm st).2).bind fun r => some (.normal, r) := ex_region (acall_monoC E) id ops tm st
  rw [this]
  exact h

end

section
variable {E : Env} {f : FuncId} {ops : Array Oper} {Q : Option (List AV × Store) → Prop} {i : Nat} {tm : List AV} {st : Store}

/-- some operations that are plain -/
theorem JS_seg (j : Nat) (tm' : List AV) (st' : Store) (h : Sj E f ops i tm st = Sj E f ops j tm' st') (h2 : JS E f ops Q j tm' st') : JS E f ops Q i tm st := by
  unfold JS at *
  rw [h]
  exact h2

/-- a region's end -/
theorem JS_end {E' : Env} {f' : FuncId} {Q' : Out → Prop} {k : List Fm} (tm' : List AV) (st' : Store) (h : Sj E f ops i tm st = some (tm', st')) (h2 : JK E' f' Q' k (.normal, tm', st')) : JS E f ops (Reg E' f' Q' k) i tm st := by
  unfold JS Reg
  rw [h]
  exact h2

noncomputable def aopN (E : Env) (f : FuncId) (ops : Array Oper) (i : Nat) (tm : List AV) (st : Store) : ARes :=
  match ops.toList.drop i with
  | o :: _ => match awanted o ops tm with
    | some true => aop E (fcall E) f o tm st
    | _ => none
  | [] => none

def dstN (ops : Array Oper) (i : Nat) : Option Tmp :=
  match ops.toList.drop i with
  | o :: _ => o.dst
  | [] => none

theorem Sj_op : Sj E f ops i tm st = (aopN E f ops i tm st).bind (fun r => Sj E f ops (i + 1) (aput tm (dstN ops i) r.1) r.2) ∨ aopN E f ops i tm st = none := by
  unfold Sj aopN dstN S
  cases hd : ops.toList.drop i with
  | nil => exact .inr rfl
  | cons o l =>
    have hl : ops.toList.drop (i + 1) = l := by
      have h : ops.toList.drop (i + 1) = (ops.toList.drop i).drop 1 := by rw [List.drop_drop]
      rw [h, hd]
      rfl
    simp only [asteps, astep]
    cases hw : awanted o ops tm with
    | none => exact .inr rfl
    | some b =>
      cases b with
      | false => exact .inr rfl
      | true =>
        refine .inl ?_
        rw [hl]
        dsimp only
        cases aop E (fcall E) f o tm st <;> rfl

/-- an operation whose value is known by a fact -/
theorem JS_fact {x : ARes} {v : AV} {st' : Store} (h : aopN E f ops i tm st = x) (h1 : x = some (v, st')) (h2 : JS E f ops Q (i + 1) (aput tm (dstN ops i) v) st') : JS E f ops Q i tm st := by
  unfold JS at *
  rcases Sj_op (E := E) (f := f) (ops := ops) (i := i) (tm := tm) (st := st) with hs | hs
  · rw [hs, h, h1]
    exact h2
  · rw [hs] at h
    rw [← h] at h1
    cases h1

theorem pair_some {o : Option AV} {v : AV} (st : Store) (h : o = some v) : (o.map fun r => (r, st)) = some (v, st) := by rw [h]; rfl
theorem bad_some {o : Option Store} {s : Store} (h : o = some s) : (o.map fun r => (AV.bad, r)) = some (AV.bad, s) := by rw [h]; rfl

/-- what a body leaves -/
noncomputable def fin (E : Env) (rs : List ResultVar) (r : AX × List AV × Store) : ARes :=
  match r with
  | (.normal, tm, st) => (aresults E.tb st tm rs).map (·, st)
  | (.ret, tm, st) => (aresults E.tb st tm rs).map (·, st)
  | _ => none

/-- what is to be shown of a call that is gone into: of its value, and of the store behind it -/
def RetM (E : Env) (rs : List ResultVar) (n0 : Nat) (C : AV → Store → Prop) (o : Out) : Prop := ∃ r s, (o.bind (fin E rs)).bind (back n0) = some (r, s) ∧ C r s

theorem bd_J {fn : Func} {code : Code} {n : Nat} {rs : List ResultVar} (hb : fn.body = some code) (hn : fn.ntmps = n) (hr : fn.results.toList = rs) (args : List AV) (st : Store) :
    bd E (acall E) f fn args st = (X E f code (args ++ List.replicate (n - args.length) .bad) st).bind (fin E rs) := by
  subst hn hr
  unfold bd
  rw [hb]
  show (X E f code _ _).bind _ = _
  congr 1
  funext r
  obtain ⟨e, t, s⟩ := r
  cases e <;> simp [fin]

theorem run_nil (o : Out) : o.bind (runK E f []) = o := by cases o <;> rfl

/-- a call that is gone into, on the store -/
theorem JS_call {g : FuncId} {av : List AV} {fn : Func} {code : Code} {n : Nat} {rs : List ResultVar} {n0 : Nat} {av' : List AV} (h : aopN E f ops i tm st = fcall E g av st) (he : E.ext g = none) (hf : E.fn g = some fn) (hk : E.keep g = false)
    (hp : pureL av = false) (hb : fn.body = some code) (hn : fn.ntmps = n) (hr : fn.results.toList = rs) (hn0 : st.length = n0) (has : scrubL n0 av ++ List.replicate (n - (scrubL n0 av).length) .bad = av')
    (hbody : J E g (RetM E rs n0 (fun r s => JS E f ops Q (i + 1) (aput tm (dstN ops i) r) s)) [] code av' st) : JS E f ops Q i tm st := by
  subst hn0 has
  obtain ⟨r, s, h1, h2⟩ := hbody
  refine JS_fact h ?_ h2
  rw [fcall_eq he hf, hk, hp]
  simp only [Bool.false_eq_true, if_false]
  rw [bd_J hb hn hr]
  rw [run_nil] at h1
  exact h1

/-- a call that is gone into, alone -/
def RetA (E : Env) (rs : List ResultVar) (st : Store) (C : AV → Store → Prop) (o : Out) : Prop := ∃ r s, (o.bind (fin E rs)).bind (alone st) = some (r, s) ∧ C r s

theorem JS_callA {g : FuncId} {av : List AV} {fn : Func} {code : Code} {n : Nat} {rs : List ResultVar} {av' : List AV} (h : aopN E f ops i tm st = fcall E g av st) (he : E.ext g = none) (hf : E.fn g = some fn) (hk : E.keep g = false)
    (hp : pureL av = true) (hb : fn.body = some code) (hn : fn.ntmps = n) (hr : fn.results.toList = rs) (has : scrubL 0 av ++ List.replicate (n - (scrubL 0 av).length) .bad = av')
    (hbody : J E g (RetA E rs st (fun r s => JS E f ops Q (i + 1) (aput tm (dstN ops i) r) s)) [] code av' []) : JS E f ops Q i tm st := by
  subst has
  obtain ⟨r, s, h1, h2⟩ := hbody
  refine JS_fact h ?_ h2
  rw [fcall_eq he hf, hk, hp]
  simp only [Bool.false_eq_true, if_false, if_true]
  rw [bd_J hb hn hr]
  rw [run_nil] at h1
  exact h1

/-- a call that keeps what it makes -/
def RetK (E : Env) (rs : List ResultVar) (C : AV → Store → Prop) (o : Out) : Prop := ∃ r s, o.bind (fin E rs) = some (r, s) ∧ C r s

theorem JS_callK {g : FuncId} {av : List AV} {fn : Func} {code : Code} {n : Nat} {rs : List ResultVar} {av' : List AV} (h : aopN E f ops i tm st = fcall E g av st) (he : E.ext g = none) (hf : E.fn g = some fn) (hk : E.keep g = true)
    (hb : fn.body = some code) (hn : fn.ntmps = n) (hr : fn.results.toList = rs) (has : av ++ List.replicate (n - av.length) .bad = av')
    (hbody : J E g (RetK E rs (fun r s => JS E f ops Q (i + 1) (aput tm (dstN ops i) r) s)) [] code av' st) : JS E f ops Q i tm st := by
  subst has
  obtain ⟨r, s, h1, h2⟩ := hbody
  refine JS_fact h ?_ h2
  rw [fcall_eq he hf, hk]
  simp only [if_true]
  rw [bd_J hb hn hr]
  rw [run_nil] at h1
  exact h1

theorem ret_M {rs : List ResultVar} {n0 : Nat} {C : AV → Store → Prop} {r r' : AV} {st2 : Store} {e : AX} (he : e = .ret ∨ e = .normal) (hres : aresults E.tb st tm rs = some r) (hfr : frz n0 st frzFuel r = r') (hc : cut n0 st = st2) (h : C r' st2) : RetM E rs n0 C (some (e, tm, st)) := by
  subst hfr hc
  rcases he with rfl | rfl <;> exact ⟨_, _, by simp [fin, hres, back], h⟩

theorem ret_A {rs : List ResultVar} {st0 : Store} {C : AV → Store → Prop} {r r' : AV} {e : AX} (he : e = .ret ∨ e = .normal) (hres : aresults E.tb st tm rs = some r) (hfr : frz 0 st frzFuel r = r') (hp : r'.pure = true) (h : C r' st0) : RetA E rs st0 C (some (e, tm, st)) := by
  subst hfr
  rcases he with rfl | rfl <;> exact ⟨_, _, by simp [fin, hres, alone, hp], h⟩

theorem ret_K {rs : List ResultVar} {C : AV → Store → Prop} {r : AV} {e : AX} (he : e = .ret ∨ e = .normal) (hres : aresults E.tb st tm rs = some r) (h : C r st) : RetK E rs C (some (e, tm, st)) := by
  rcases he with rfl | rfl <;> exact ⟨r, st, by simp [fin, hres], h⟩

end

/-- a function: what it answers, called alone -/
theorem fn_alone {E : Env} {g : FuncId} {av : List AV} {fn : Func} {code : Code} {n : Nat} {rs : List ResultVar} {av' : List AV} {st : Store} {R : AV} (he : E.ext g = none) (hf : E.fn g = some fn) (hk : E.keep g = false)
    (hp : pureL av = true) (hb : fn.body = some code) (hn : fn.ntmps = n) (hr : fn.results.toList = rs) (has : scrubL 0 av ++ List.replicate (n - (scrubL 0 av).length) .bad = av')
    (hbody : J E g (RetA E rs st (fun r s => r = R ∧ s = st)) [] code av' []) : fcall E g av st = some (R, st) := by
  subst has
  obtain ⟨r, s, h1, rfl, rfl⟩ := hbody
  rw [fcall_eq he hf, hk, hp]
  simp only [Bool.false_eq_true, if_false, if_true]
  rw [bd_J hb hn hr]
  rw [run_nil] at h1
  exact h1

theorem fn_keep {E : Env} {g : FuncId} {av : List AV} {fn : Func} {code : Code} {n : Nat} {rs : List ResultVar} {av' : List AV} {st : Store} {C : AV → Store → Prop} (he : E.ext g = none) (hf : E.fn g = some fn) (hk : E.keep g = true)
    (hb : fn.body = some code) (hn : fn.ntmps = n) (hr : fn.results.toList = rs) (has : av ++ List.replicate (n - av.length) .bad = av')
    (hbody : J E g (RetK E rs C) [] code av' st) : ∃ r s, fcall E g av st = some (r, s) ∧ C r s := by
  subst has
  obtain ⟨r, s, h1, h2⟩ := hbody
  refine ⟨r, s, ?_, h2⟩
  rw [fcall_eq he hf, hk]
  simp only [if_true]
  rw [bd_J hb hn hr]
  rw [run_nil] at h1
  exact h1

theorem fn_back {E : Env} {g : FuncId} {av : List AV} {fn : Func} {code : Code} {n : Nat} {rs : List ResultVar} {n0 : Nat} {av' : List AV} {st : Store} {C : AV → Store → Prop} (he : E.ext g = none) (hf : E.fn g = some fn) (hk : E.keep g = false)
    (hp : pureL av = false) (hb : fn.body = some code) (hn : fn.ntmps = n) (hr : fn.results.toList = rs) (hn0 : st.length = n0) (has : scrubL n0 av ++ List.replicate (n - (scrubL n0 av).length) .bad = av')
    (hbody : J E g (RetM E rs n0 C) [] code av' st) : ∃ r s, fcall E g av st = some (r, s) ∧ C r s := by
  subst hn0 has
  obtain ⟨r, s, h1, h2⟩ := hbody
  refine ⟨r, s, ?_, h2⟩
  rw [fcall_eq he hf, hk, hp]
  simp only [Bool.false_eq_true, if_false]
  rw [bd_J hb hn hr]
  rw [run_nil] at h1
  exact h1

/-- a step of a loop, by a function on what the loop's state is -/
inductive Runs {σ ρ : Type} (body : σ → Option (σ ⊕ ρ)) : σ → ρ → Prop
  | done {s : σ} {r : ρ} : body s = some (.inr r) → Runs body s r
  | step {s s' : σ} {r : ρ} : body s = some (.inl s') → Runs body s' r → Runs body s r

theorem Runs.unique {σ ρ : Type} {body : σ → Option (σ ⊕ ρ)} {s : σ} {r r' : ρ} (h : Runs body s r) (h' : Runs body s r') : r = r' := by
  induction h with
  | done h =>
    cases h' with
    | done h2 => rw [h] at h2; simpa using h2
    | step h2 _ => rw [h] at h2; simp at h2
  | step h _ ih =>
    cases h' with
    | done h2 => rw [h] at h2; simp at h2
    | step h2 h3 =>
      rw [h] at h2
      simp only [Option.some.injEq, Sum.inl.injEq] at h2
      subst h2
      exact ih h3

open Classical in
/-- a loop -/
noncomputable def loopN {σ ρ : Type} (body : σ → Option (σ ⊕ ρ)) (s : σ) : Option ρ := if h : ∃ r, Runs body s r then some (Classical.choose h) else none

theorem loopN_some {σ ρ : Type} {body : σ → Option (σ ⊕ ρ)} {s : σ} {r : ρ} : loopN body s = some r ↔ Runs body s r := by
  unfold loopN
  constructor
  · intro h
    split at h
    · rename_i hh
      simp only [Option.some.injEq] at h
      rw [← h]
      exact Classical.choose_spec hh
    · cases h
  · intro h
    have hh : ∃ r, Runs body s r := ⟨r, h⟩
    rw [dif_pos hh]
    rw [(Classical.choose_spec hh).unique h]

theorem loopN_eq {σ ρ : Type} (body : σ → Option (σ ⊕ ρ)) (s : σ) : loopN body s = match body s with | none => none | some (.inl s') => loopN body s' | some (.inr r) => some r := by
  apply Option.ext
  intro r
  rw [loopN_some]
  constructor
  · intro h
    cases h with
    | done h => rw [h]
    | step h h2 => rw [h]; exact loopN_some.2 h2
  · intro h
    cases hb : body s with
    | none => rw [hb] at h; cases h
    | some y =>
      rw [hb] at h
      cases y with
      | inl s' => exact .step hb (loopN_some.1 h)
      | inr r' => simp only [Option.some.injEq] at h; subst h; exact .done hb

/-- what a turn of a loop is to show -/
def Turn {σ ρ γ : Type} (E : Env) (f : FuncId) (b : Code) (n0 : Nat) (T : σ → γ → List AV) (St : σ → γ → Store) (R : ρ → γ → AX × List AV × Store) (y : σ ⊕ ρ) (o : Out) : Prop :=
  match y with
  | .inl s' => ∃ g, ∃ tm st, o = some (.normal, tm, st) ∧ kill (E.live f (firstReg b)) n0 0 tm = T s' g ∧ cut n0 st = St s' g
  | .inr r => ∃ g, ∃ e tm st, o = some (e, tm, st) ∧ e ≠ .normal ∧ R r g = (e, kill (E.liveX f (firstReg b)) n0 0 tm, cut n0 st)

theorem turn_next {σ ρ γ : Type} {E : Env} {f : FuncId} {b : Code} {n0 : Nat} {T : σ → γ → List AV} {St : σ → γ → Store} {R : ρ → γ → AX × List AV × Store} {s' : σ} {tm : List AV} {st : Store} (g : γ)
    (h1 : kill (E.live f (firstReg b)) n0 0 tm = T s' g) (h2 : cut n0 st = St s' g) : Turn E f b n0 T St R (.inl s' : σ ⊕ ρ) (some (.normal, tm, st)) := ⟨g, tm, st, rfl, h1, h2⟩

theorem turn_exit {σ ρ γ : Type} {E : Env} {f : FuncId} {b : Code} {n0 : Nat} {T : σ → γ → List AV} {St : σ → γ → Store} {R : ρ → γ → AX × List AV × Store} {r : ρ} {i : Nat} {tm tm' : List AV} {st st' : Store} (g : γ)
    (h1 : kill (E.liveX f (firstReg b)) n0 0 tm = tm') (h2 : cut n0 st = st') (h3 : R r g = (.exit i, tm', st')) : Turn E f b n0 T St R (.inr r : σ ⊕ ρ) (some (.exit i, tm, st)) := ⟨g, _, tm, st, rfl, by simp, by rw [h1, h2, h3]⟩

theorem turn_ret {σ ρ γ : Type} {E : Env} {f : FuncId} {b : Code} {n0 : Nat} {T : σ → γ → List AV} {St : σ → γ → Store} {R : ρ → γ → AX × List AV × Store} {r : ρ} {tm tm' : List AV} {st st' : Store} (g : γ)
    (h1 : kill (E.liveX f (firstReg b)) n0 0 tm = tm') (h2 : cut n0 st = st') (h3 : R r g = (.ret, tm', st')) : Turn E f b n0 T St R (.inr r : σ ⊕ ρ) (some (.ret, tm, st)) := ⟨g, _, tm, st, rfl, by simp, by rw [h1, h2, h3]⟩

theorem J_loop {σ ρ γ : Type} {E : Env} {f : FuncId} {Q : Out → Prop} {k : List Fm} {b : Code} {tm : List AV} {st : Store} {body : σ → Option (σ ⊕ ρ)} {s : σ} {r : ρ} (hr : loopN body s = some r)
    (n0 : Nat) (tm0 : List AV) (st0 : Store) (T : σ → γ → List AV) (St : σ → γ → Store) (R : ρ → γ → AX × List AV × Store) (g : γ)
    (hh : hL E f b tm st = (tm0, st0)) (hn : st0.length = n0) (htm : kill (E.live f (firstReg b)) n0 0 tm0 = T s g) (hst : cut n0 st0 = St s g)
    (hstep : ∀ s g y, body s = some y → J E f (Turn E f b n0 T St R y) [] b (T s g) (St s g))
    (hcont : ∀ g, JK E f Q k (R r g)) : J E f Q k (.loop b) tm st := by
  have key : ∀ s r, Runs body s r → ∀ g, ∃ g', (loopL E (acall E) f b n0 (T s g) (St s g)).bind (leave' (E.liveX f (firstReg b)) n0) = some (R r g') := by
    intro s r h
    induction h with
    | done h =>
      intro g
      have hs := hstep _ g _ h
      unfold J at hs
      rw [run_nil] at hs
      obtain ⟨g', e, tm, st, h1, h2, h3⟩ := hs
      refine ⟨g', ?_⟩
      rw [loopL_eq (acall_monoC E)]
      have h1 : ex E (acall E) f b (T _ g) (St _ g) = some (e, tm, st) := h1
      rw [h1, h3]
      cases e with
      | normal => exact absurd rfl h2
      | exit i => rfl
      | ret => rfl
    | step h _ ih =>
      intro g
      have hs := hstep _ g _ h
      unfold J at hs
      rw [run_nil] at hs
      obtain ⟨g', tm, st, h1, h2, h3⟩ := hs
      obtain ⟨g'', h4⟩ := ih g'
      refine ⟨g'', ?_⟩
      rw [loopL_eq (acall_monoC E)]
      have h1 : ex E (acall E) f b (T _ g) (St _ g) = some (.normal, tm, st) := h1
      rw [h1]
      simp only [Option.bind_some, next]
      rw [h2, h3]
      exact h4
  obtain ⟨g', hg⟩ := key s r (loopN_some.1 hr) g
  unfold J
  have : X E f (.loop b) tm st = _ := ex_loop (acall_monoC E) b tm st
  rw [this, hh]
  dsimp only
  rw [hn, htm, hst, hg]
  exact hcont g'

/-- a region that draws its order -/
noncomputable def DR (E : Env) (f : FuncId) (ops : Array Oper) (i : Nat) (tm : List AV) (st : Store) : Option (List Cls × List AV × Store) := adrawRun E (fcall E) f ops (ops.toList.drop i) tm st

def JD (E : Env) (f : FuncId) (ops : Array Oper) (Q : Option (List AV × Store) → Prop) (i : Nat) (cs : List Cls) (tm : List AV) (st : Store) : Prop :=
  Q ((DR E f ops i tm st).bind fun q => if adrawOk ops (cs ++ q.1) = true then some q.2 else none)

section
variable {E : Env} {f : FuncId} {ops : Array Oper} {Q : Option (List AV × Store) → Prop} {i : Nat} {tm : List AV} {st : Store} {cs : List Cls}

theorem J_draw {Q : Out → Prop} {k : List Fm} {id : Nat} (h : JD E f ops (Reg E f Q k) 0 [] (hR E f id tm st).1 (hR E f id tm st).2) : J E f Q k (.region id ops true) tm st := by
  unfold J
  have : X E f (.region id ops true) tm st = (adraw E (fcall E) f ops (hR E f id tm st).1 (hR E f id tm st).2).bind fun r => some (.normal, r) := ex_draw (acall_monoC E) id ops tm st
  rw [this]
  have h2 : adraw E (fcall E) f ops (hR E f id tm st).1 (hR E f id tm st).2 = (DR E f ops 0 (hR E f id tm st).1 (hR E f id tm st).2).bind fun q => if adrawOk ops ([] ++ q.1) = true then some q.2 else none := by
    unfold adraw DR
    show _ = (adrawRun E (fcall E) f ops ops.toList _ _).bind _
    cases adrawRun E (fcall E) f ops ops.toList (hR E f id tm st).1 (hR E f id tm st).2 <;> rfl
  rw [h2]
  exact h

def clsN (E : Env) (f : FuncId) (ops : Array Oper) (i : Nat) (tm : List AV) : Cls :=
  match ops.toList.drop i with
  | o :: _ => if awanted o ops tm = some true then cls E f o tm else .free
  | [] => .free

/-- an operation that is not wanted -/
def unwN (ops : Array Oper) (i : Nat) (tm : List AV) : Bool :=
  match ops.toList.drop i with
  | o :: _ => (match awanted o ops tm with | some false => true | _ => false)
  | [] => false

theorem drop_next {α : Type} {l r : List α} {o : α} {i : Nat} (hd : l.drop i = o :: r) : l.drop (i + 1) = r := by
  have h : l.drop (i + 1) = (l.drop i).drop 1 := by rw [List.drop_drop]
  rw [h, hd]
  rfl

theorem JD_fact {x : ARes} {v : AV} {st' : Store} {c : Cls} (h : aopN E f ops i tm st = x) (h1 : x = some (v, st')) (hc : clsN E f ops i tm = c) (h2 : JD E f ops Q (i + 1) (cs ++ [c]) (aput tm (dstN ops i) v) st') : JD E f ops Q i cs tm st := by
  subst hc
  unfold JD at *
  have : ((DR E f ops i tm st).bind fun q => if adrawOk ops (cs ++ q.1) = true then some q.2 else none) = ((DR E f ops (i + 1) (aput tm (dstN ops i) v) st').bind fun q => if adrawOk ops (cs ++ [clsN E f ops i tm] ++ q.1) = true then some q.2 else none) := by
    unfold aopN at h
    unfold DR dstN clsN
    split at h
    · rename_i o l hd
      rw [drop_next hd]
      simp only [hd, adrawRun, astep]
      split at h
      · rename_i hw
        simp only [hw, if_true]
        rw [h, h1]
        simp only [Option.map_some]
        cases adrawRun E (fcall E) f ops l (aput tm o.dst v) st' with
        | none => rfl
        | some r => simp [List.append_assoc]
      · rw [← h] at h1; cases h1
    · rw [← h] at h1; cases h1
  rw [this]
  exact h2

theorem JD_not (h : unwN ops i tm = true) (h2 : JD E f ops Q (i + 1) (cs ++ [.free]) (aput tm (dstN ops i) (.tup [])) st) : JD E f ops Q i cs tm st := by
  unfold JD at *
  have : ((DR E f ops i tm st).bind fun q => if adrawOk ops (cs ++ q.1) = true then some q.2 else none) = ((DR E f ops (i + 1) (aput tm (dstN ops i) (.tup [])) st).bind fun q => if adrawOk ops (cs ++ [.free] ++ q.1) = true then some q.2 else none) := by
    unfold unwN at h
    unfold DR dstN
    split at h
    · rename_i o l hd
      rw [drop_next hd]
      simp only [hd, adrawRun, astep]
      split at h
      · rename_i hw
        simp only [hw]
        have hn : ¬ (some false = some true) := by simp
        simp only [if_neg hn]
        cases adrawRun E (fcall E) f ops l (aput tm o.dst (.tup [])) st with
        | none => rfl
        | some r => simp [List.append_assoc]
      · cases h
    · cases h
  rw [this]
  exact h2

theorem JD_end {E' : Env} {f' : FuncId} {Q' : Out → Prop} {k : List Fm} (hd : ops.toList.drop i = []) (ha : adrawOk ops cs = true) (h2 : JK E' f' Q' k (.normal, tm, st)) : JD E f ops (Reg E' f' Q' k) i cs tm st := by
  unfold JD Reg DR
  rw [hd]
  simp only [adrawRun, Option.bind_some, List.append_nil, ha, if_true]
  exact h2

theorem JD_call {g : FuncId} {av : List AV} {fn : Func} {code : Code} {n : Nat} {rs : List ResultVar} {n0 : Nat} {av' : List AV} {c : Cls} (h : aopN E f ops i tm st = fcall E g av st) (hc : clsN E f ops i tm = c) (he : E.ext g = none) (hf : E.fn g = some fn) (hk : E.keep g = false)
    (hp : pureL av = false) (hb : fn.body = some code) (hn : fn.ntmps = n) (hr : fn.results.toList = rs) (hn0 : st.length = n0) (has : scrubL n0 av ++ List.replicate (n - (scrubL n0 av).length) .bad = av')
    (hbody : J E g (RetM E rs n0 (fun r s => JD E f ops Q (i + 1) (cs ++ [c]) (aput tm (dstN ops i) r) s)) [] code av' st) : JD E f ops Q i cs tm st := by
  subst hn0 has
  obtain ⟨r, s, h1, h2⟩ := hbody
  refine JD_fact h ?_ hc h2
  rw [fcall_eq he hf, hk, hp]
  simp only [Bool.false_eq_true, if_false]
  rw [bd_J hb hn hr]
  rw [run_nil] at h1
  exact h1

theorem JD_callK {g : FuncId} {av : List AV} {fn : Func} {code : Code} {n : Nat} {rs : List ResultVar} {av' : List AV} {c : Cls} (h : aopN E f ops i tm st = fcall E g av st) (hc : clsN E f ops i tm = c) (he : E.ext g = none) (hf : E.fn g = some fn) (hk : E.keep g = true)
    (hb : fn.body = some code) (hn : fn.ntmps = n) (hr : fn.results.toList = rs) (has : av ++ List.replicate (n - av.length) .bad = av')
    (hbody : J E g (RetK E rs (fun r s => JD E f ops Q (i + 1) (cs ++ [c]) (aput tm (dstN ops i) r) s)) [] code av' st) : JD E f ops Q i cs tm st := by
  subst has
  obtain ⟨r, s, h1, h2⟩ := hbody
  refine JD_fact h ?_ hc h2
  rw [fcall_eq he hf, hk]
  simp only [if_true]
  rw [bd_J hb hn hr]
  rw [run_nil] at h1
  exact h1

end
end Go.Abs
