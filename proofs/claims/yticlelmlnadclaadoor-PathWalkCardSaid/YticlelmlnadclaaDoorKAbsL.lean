/-
  The evaluator without a limit on depth and turns: the limit of its runs, and the equations that hold of it. Definitions and lemmas; no condition.
-/
import Derived.Test.YticlelmlnadclaaDoorKAbs14
set_option linter.unusedVariables false
set_option linter.unusedSimpArgs false
set_option linter.unusedSectionVars false
set_option linter.unnecessarySimpa false
set_option linter.deprecated false
namespace Go.Abs
open Go

section
variable {α β : Type}

def Mono (s : Nat → Option α) : Prop := ∀ n r, s n = some r → s (n + 1) = some r

theorem Mono.le {s : Nat → Option α} (h : Mono s) {n m : Nat} (hnm : n ≤ m) {r : α} (hr : s n = some r) : s m = some r := by
  induction hnm with
  | refl => exact hr
  | step _ ih => exact h _ _ ih

open Classical in
noncomputable def lim (s : Nat → Option α) : Option α := if h : ∃ r n, s n = some r then some (Classical.choose h) else none

theorem lim_some {s : Nat → Option α} (hs : Mono s) {r : α} : lim s = some r ↔ ∃ n, s n = some r := by
  unfold lim
  constructor
  · intro h
    split at h
    · rename_i hh
      obtain ⟨n, hn⟩ := Classical.choose_spec hh
      simp only [Option.some.injEq] at h
      exact ⟨n, by rw [← h]; exact hn⟩
    · cases h
  · rintro ⟨n, hn⟩
    have hh : ∃ r n, s n = some r := ⟨r, n, hn⟩
    rw [dif_pos hh]
    obtain ⟨m, hm⟩ := Classical.choose_spec hh
    have h1 := hs.le (Nat.le_max_left n m) hn
    have h2 := hs.le (Nat.le_max_right n m) hm
    rw [h1] at h2
    injection h2 with h2
    rw [← h2]

theorem lim_const (x : Option α) : lim (fun _ => x) = x := by
  cases x with
  | none => unfold lim; rw [dif_neg]; rintro ⟨r, n, h⟩; cases h
  | some v => exact (lim_some (s := fun _ => some v) (fun _ _ h => h)).2 ⟨0, rfl⟩

theorem lim_ext {s : Nat → Option α} {o : Option α} (hs : Mono s) (h : ∀ r, (∃ n, s n = some r) ↔ o = some r) : lim s = o := by
  apply Option.ext
  intro r
  exact (lim_some hs).trans (h r)

theorem mono_const (x : Option α) : Mono (fun _ => x) := fun _ _ h => h

theorem lim_shift {s : Nat → Option α} (hs : Mono s) : lim (fun n => s (n + 1)) = lim s :=
  lim_ext (fun n r h => hs _ _ h) fun r => ⟨fun ⟨n, h⟩ => (lim_some hs).2 ⟨_, h⟩, fun h => by
    obtain ⟨n, hn⟩ := (lim_some hs).1 h
    exact ⟨n, hs _ _ hn⟩⟩

theorem mono_bind {s : Nat → Option α} {t : α → Nat → Option β} (hs : Mono s) (ht : ∀ a, Mono (t a)) : Mono (fun n => (s n).bind fun a => t a n) := by
  intro n r h
  simp only [Option.bind_eq_some_iff] at h ⊢
  obtain ⟨a, ha, hr⟩ := h
  exact ⟨a, hs _ _ ha, ht a _ _ hr⟩

theorem lim_bind {s : Nat → Option α} {t : α → Nat → Option β} (hs : Mono s) (ht : ∀ a, Mono (t a)) : lim (fun n => (s n).bind fun a => t a n) = (lim s).bind fun a => lim (t a) := by
  refine lim_ext (mono_bind hs ht) fun r => ?_
  simp only [Option.bind_eq_some_iff]
  constructor
  · rintro ⟨n, a, ha, hr⟩
    exact ⟨a, (lim_some hs).2 ⟨n, ha⟩, (lim_some (ht a)).2 ⟨n, hr⟩⟩
  · rintro ⟨a, ha, hr⟩
    obtain ⟨n, hn⟩ := (lim_some hs).1 ha
    obtain ⟨m, hm⟩ := (lim_some (ht a)).1 hr
    exact ⟨max n m, a, hs.le (Nat.le_max_left _ _) hn, (ht a).le (Nat.le_max_right _ _) hm⟩

end

def MonoC (c : Nat → Caller) : Prop := ∀ g args st, Mono fun n => c n g args st

noncomputable def limC (c : Nat → Caller) : Caller := fun g args st => lim fun n => c n g args st

section
variable {E : Env} {c : Nat → Caller} (hc : MonoC c) {fid : FuncId}
include hc

omit hc in
theorem aop_indep {o : Oper} (h : ∀ ca f, o.op = .call ca → ca.callee ≠ .value f) (c1 c2 : Caller) (tm : List AV) (st : Store) : aop E c1 fid o tm st = aop E c2 fid o tm st := by
  unfold aop
  dsimp only
  split <;> try rfl
  rename_i ca ho
  split
  · rename_i f hf
    exact absurd hf (h ca f ho)
  · rfl
  · rfl

theorem aop_lim (o : Oper) (tm : List AV) (st : Store) : Mono (fun n => aop E (c n) fid o tm st) ∧ lim (fun n => aop E (c n) fid o tm st) = aop E (limC c) fid o tm st := by
  by_cases h : ∀ ca f, o.op = .call ca → ca.callee ≠ .value f
  · have : (fun n => aop E (c n) fid o tm st) = fun _ => aop E (limC c) fid o tm st := funext fun n => aop_indep h _ _ tm st
    rw [this]
    exact ⟨mono_const _, lim_const _⟩
  · simp only [Classical.not_forall, Classical.not_not] at h
    obtain ⟨ca, f, ho, hf⟩ := h
    have he : ∀ call : Caller, aop E call fid o tm st = match aeval tm f with
        | .fn g caps => call g (ca.args.toList.map (aeval tm) ++ caps) st
        | _ => none := fun call => by unfold aop; simp only [ho, hf]; rfl
    simp only [he]
    split
    · exact ⟨hc _ _ _, rfl⟩
    · exact ⟨mono_const _, lim_const _⟩

theorem map_eq_bind' {α β : Type} (f : α → β) (x : Option α) : x.map f = x.bind fun a => some (f a) := by cases x <;> rfl

theorem astep_lim (ops : Array Oper) (o : Oper) (tm : List AV) (st : Store) : Mono (fun n => astep E (c n) fid ops o tm st) ∧ lim (fun n => astep E (c n) fid ops o tm st) = astep E (limC c) fid ops o tm st := by
  unfold astep
  split
  · obtain ⟨hm, hl⟩ := aop_lim hc (E := E) (fid := fid) o tm st
    simp only [Option.map_eq_bind]
    refine ⟨mono_bind hm fun a => mono_const _, ?_⟩
    have := lim_bind (t := fun (a : AV × Store) (_ : Nat) => (some (aput tm o.dst a.1, a.2) : Option (List AV × Store))) hm fun a => mono_const _
    simp only [lim_const, hl] at this
    exact this
  · exact ⟨mono_const _, lim_const _⟩
  · exact ⟨mono_const _, lim_const _⟩

theorem asteps_lim (ops : Array Oper) : ∀ (l : List Oper) (tm : List AV) (st : Store), Mono (fun n => asteps E (c n) fid ops l tm st) ∧ lim (fun n => asteps E (c n) fid ops l tm st) = asteps E (limC c) fid ops l tm st
  | [], tm, st => ⟨mono_const _, lim_const _⟩
  | o :: rest, tm, st => by
    have hb : ∀ call, asteps E call fid ops (o :: rest) tm st = (astep E call fid ops o tm st).bind fun r => asteps E call fid ops rest r.1 r.2 := fun call => by
      simp only [asteps]; cases astep E call fid ops o tm st <;> rfl
    obtain ⟨hm, hl⟩ := astep_lim hc (E := E) (fid := fid) ops o tm st
    simp only [hb]
    refine ⟨mono_bind hm fun a => (asteps_lim ops rest a.1 a.2).1, ?_⟩
    rw [lim_bind hm fun a => (asteps_lim ops rest a.1 a.2).1, hl]
    congr 1
    funext a
    exact (asteps_lim ops rest a.1 a.2).2

theorem adrawRun_lim (ops : Array Oper) : ∀ (l : List Oper) (tm : List AV) (st : Store), Mono (fun n => adrawRun E (c n) fid ops l tm st) ∧ lim (fun n => adrawRun E (c n) fid ops l tm st) = adrawRun E (limC c) fid ops l tm st
  | [], tm, st => ⟨mono_const _, lim_const _⟩
  | o :: rest, tm, st => by
    have hb : ∀ call, adrawRun E call fid ops (o :: rest) tm st = (astep E call fid ops o tm st).bind fun r => (adrawRun E call fid ops rest r.1 r.2).bind fun q => some ((if awanted o ops tm = some true then cls E fid o tm else .free) :: q.1, q.2) := fun call => by
      simp only [adrawRun]
      cases astep E call fid ops o tm st with
      | none => rfl
      | some r => dsimp only [Option.bind_some]; rw [Option.map_eq_bind]; rfl
    obtain ⟨hm, hl⟩ := astep_lim hc (E := E) (fid := fid) ops o tm st
    simp only [hb]
    refine ⟨mono_bind hm fun a => mono_bind (adrawRun_lim ops rest a.1 a.2).1 fun _ => mono_const _, ?_⟩
    rw [lim_bind hm fun a => mono_bind (adrawRun_lim ops rest a.1 a.2).1 fun _ => mono_const _, hl]
    congr 1
    funext a
    rw [lim_bind (adrawRun_lim ops rest a.1 a.2).1 fun _ => mono_const _, (adrawRun_lim ops rest a.1 a.2).2]
    simp only [lim_const]

theorem adraw_lim (ops : Array Oper) (tm : List AV) (st : Store) : Mono (fun n => adraw E (c n) fid ops tm st) ∧ lim (fun n => adraw E (c n) fid ops tm st) = adraw E (limC c) fid ops tm st := by
  have hb : ∀ call, adraw E call fid ops tm st = (adrawRun E call fid ops ops.toList tm st).bind fun q => if adrawOk ops q.1 then some q.2 else none := fun call => by
    simp only [adraw]; cases adrawRun E call fid ops ops.toList tm st <;> rfl
  obtain ⟨hm, hl⟩ := adrawRun_lim hc (E := E) (fid := fid) ops ops.toList tm st
  simp only [hb]
  refine ⟨mono_bind hm fun a => mono_const _, ?_⟩
  rw [lim_bind hm fun a => mono_const _, hl]
  simp only [lim_const]

end

section
variable {c : Nat → List AV → Store → Out}

/-- the run of a loop: the limit -/
noncomputable def iterL (live : List Nat) (n0 : Nat) (body : Nat → List AV → Store → Out) (tm : List AV) (st : Store) : Out := lim fun n => iter live n0 (body n) n tm st

theorem iter_mono {live : List Nat} {n0 : Nat} {b b' : List AV → Store → Out} (hb : ∀ tm st r, b tm st = some r → b' tm st = some r) : ∀ (k k' : Nat), k ≤ k' → ∀ (tm : List AV) (st : Store) (r : AX × List AV × Store), iter live n0 b k tm st = some r → iter live n0 b' k' tm st = some r
  | 0, _, _, _, _, _, h => by simp [iter] at h
  | k + 1, 0, hk, _, _, _, h => by omega
  | k + 1, k' + 1, hk, tm, st, r, h => by
    simp only [iter] at h ⊢
    split at h
    · rename_i tm1 st1 h1
      rw [hb _ _ _ h1]
      exact iter_mono hb k k' (by omega) _ _ _ h
    · rename_i hne
      rw [hb _ _ _ h]
      split
      · rename_i tm1 st1 h1
        simp only [Option.some.injEq] at h1
        subst h1
        exact absurd h (hne _ _)
      · rfl

/-- what follows a turn -/
noncomputable def next (F : List AV → Store → Out) (live : List Nat) (n0 : Nat) : AX × List AV × Store → Out
  | (.normal, tm, st) => F (kill live n0 0 tm) (cut n0 st)
  | r => some r

theorem iterL_eq {live : List Nat} {n0 : Nat} {body : Nat → List AV → Store → Out} (hb : ∀ tm st, Mono fun n => body n tm st) (tm : List AV) (st : Store) :
    iterL live n0 body tm st = (lim fun n => body n tm st).bind (next (iterL live n0 body) live n0) := by
  have hle : ∀ n tm st r, body n tm st = some r → body (n + 1) tm st = some r := fun n tm st r h => hb tm st n r h
  have hmi : ∀ tm st, Mono fun n => iter live n0 (body n) n tm st := fun tm st n r h => iter_mono (hle n) n (n + 1) (by omega) tm st r h
  have hmi2 : ∀ tm st, Mono fun n => iter live n0 (body (n + 1)) n tm st := fun tm st n r h => iter_mono (hle (n + 1)) n (n + 1) (by omega) tm st r h
  have hl2 : ∀ tm st, lim (fun n => iter live n0 (body (n + 1)) n tm st) = iterL live n0 body tm st := fun tm st => by
    refine lim_ext (hmi2 tm st) fun r => ⟨fun ⟨n, h⟩ => (lim_some (hmi tm st)).2 ⟨n + 1, iter_mono (fun _ _ _ h => h) n (n + 1) (by omega) tm st r h⟩, fun h => ?_⟩
    obtain ⟨n, hn⟩ := (lim_some (hmi tm st)).1 h
    exact ⟨n, iter_mono (hle n) n n (Nat.le_refl _) tm st r hn⟩
  let t : AX × List AV × Store → Nat → Out := fun x n => next (iter live n0 (body (n + 1)) n) live n0 x
  have ht : ∀ a, Mono (t a) := by
    rintro ⟨ex, tm1, st1⟩
    cases ex with
    | normal => exact hmi2 _ _
    | _ => exact mono_const _
  have hs : Mono (fun n => body (n + 1) tm st) := fun n r h => hle (n + 1) tm st r h
  have heq : ∀ n, iter live n0 (body (n + 1)) (n + 1) tm st = (body (n + 1) tm st).bind fun x => t x n := fun n => by
    simp only [iter]
    cases hbd : body (n + 1) tm st with
    | none => rfl
    | some x =>
      obtain ⟨ex, tm1, st1⟩ := x
      cases ex <;> rfl
  show lim (fun n => iter live n0 (body n) n tm st) = _
  rw [← lim_shift (hmi tm st)]
  simp only [heq]
  rw [lim_bind hs ht, ← lim_shift (hb tm st)]
  congr 1
  funext x
  obtain ⟨ex, tm1, st1⟩ := x
  cases ex with
  | normal => exact hl2 _ _
  | exit i => exact lim_const _
  | ret => exact lim_const _

end

section
variable {E : Env} {c : Nat → Caller} (hc : MonoC c) {fid : FuncId}

/-- a code's run, without limits -/
noncomputable def ex (E : Env) (c : Nat → Caller) (fid : FuncId) (code : Code) (tm : List AV) (st : Store) : Out := lim fun n => aexec E (c n) fid n code tm st

noncomputable def loopL (E : Env) (c : Nat → Caller) (fid : FuncId) (b : Code) (n0 : Nat) (tm : List AV) (st : Store) : Out := iterL (E.live fid (firstReg b)) n0 (fun n => aexec E (c n) fid n b) tm st

/-- what follows a code -/
def andThen (F : List AV → Store → Out) : AX × List AV × Store → Out
  | (.normal, tm, st) => F tm st
  | r => some r

def outBlock (id : Nat) : AX × List AV × Store → Out
  | (.exit i, tm, st) => if i = id then some (.normal, tm, st) else some (.exit i, tm, st)
  | r => some r

def leave' (live : List Nat) (n0 : Nat) (r : AX × List AV × Store) : Out := some (r.1, kill live n0 0 r.2.1, cut n0 r.2.2)

include hc
theorem aexec_mono : ∀ (code : Code) (tm : List AV) (st : Store), Mono fun n => aexec E (c n) fid n code tm st
  | .skip, tm, st => mono_const _
  | .region _ ops draw, tm, st => by
    simp only [aexec]
    cases draw with
    | true => simp only [if_true, Option.map_eq_bind]; exact mono_bind (adraw_lim hc ops _ _).1 fun _ => mono_const _
    | false => simp only [Bool.false_eq_true, if_false, Option.map_eq_bind]; exact mono_bind (asteps_lim hc ops ops.toList _ _).1 fun _ => mono_const _
  | .seq a b, tm, st => by
    have hb : ∀ n, aexec E (c n) fid n (.seq a b) tm st = (aexec E (c n) fid n a tm st).bind fun x => andThen (aexec E (c n) fid n b) x := fun n => by
      simp only [aexec]
      cases aexec E (c n) fid n a tm st with
      | none => rfl
      | some x => obtain ⟨e, t, s⟩ := x; cases e <;> rfl
    simp only [hb]
    refine mono_bind (aexec_mono a tm st) ?_
    rintro ⟨e, t, s⟩
    cases e with
    | normal => exact aexec_mono b t s
    | _ => exact mono_const _
  | .cond q a b, tm, st => by
    simp only [aexec]
    split
    · split
      · exact aexec_mono a tm st
      · exact aexec_mono b tm st
    · exact mono_const _
  | .block id b, tm, st => by
    have hb : ∀ n, aexec E (c n) fid n (.block id b) tm st = (aexec E (c n) fid n b tm st).bind (outBlock id) := fun n => by
      simp only [aexec]
      cases aexec E (c n) fid n b tm st with
      | none => rfl
      | some x => obtain ⟨e, t, s⟩ := x; cases e <;> rfl
    simp only [hb]
    exact mono_bind (aexec_mono b tm st) fun _ => mono_const _
  | .loop b, tm, st => by
    intro n r h
    simp only [aexec] at h ⊢
    unfold leave at h ⊢
    split at h
    · rename_i e t s hi
      rw [iter_mono (fun tm st r h => aexec_mono b tm st n r h) n (n + 1) (by omega) _ _ _ hi]
      exact h
    · cases h
  | .exit i, tm, st => mono_const _
  | .ret, tm, st => mono_const _
  | .rangeFunc .., tm, st => mono_const _
  | .scope _, tm, st => mono_const _
  | .label _, tm, st => mono_const _
  | .goto _, tm, st => mono_const _
  | .refuse _, tm, st => mono_const _

omit hc in
theorem ex_skip (tm : List AV) (st : Store) : ex E c fid .skip tm st = some (.normal, tm, st) := lim_const _

omit hc in
theorem ex_exit (i : Nat) (tm : List AV) (st : Store) : ex E c fid (.exit i) tm st = some (.exit i, tm, st) := lim_const _

omit hc in
theorem ex_ret (tm : List AV) (st : Store) : ex E c fid .ret tm st = some (.ret, tm, st) := lim_const _

/-- the hints at a region's head, at a loop's -/
def hR (E : Env) (fid : FuncId) (id : Nat) (tm : List AV) (st : Store) : List AV × Store := hints E.tb (E.preR fid id) (tm, st)
def hL (E : Env) (fid : FuncId) (b : Code) (tm : List AV) (st : Store) : List AV × Store := hints E.tb (E.preL fid (firstReg b)) (tm, st)

theorem ex_region (id : Nat) (ops : Array Oper) (tm : List AV) (st : Store) : ex E c fid (.region id ops false) tm st = (asteps E (limC c) fid ops ops.toList (hR E fid id tm st).1 (hR E fid id tm st).2).bind fun r => some (.normal, r) := by
  unfold ex hR
  simp only [aexec, Bool.false_eq_true, if_false, Option.map_eq_bind]
  generalize hints E.tb (E.preR fid id) (tm, st) = x
  have := lim_bind (t := fun (a : List AV × Store) (_ : Nat) => (some (AX.normal, a) : Out)) (asteps_lim hc (E := E) (fid := fid) ops ops.toList x.1 x.2).1 fun _ => mono_const _
  simp only [lim_const, (asteps_lim hc (E := E) (fid := fid) ops ops.toList x.1 x.2).2] at this
  exact this

theorem ex_draw (id : Nat) (ops : Array Oper) (tm : List AV) (st : Store) : ex E c fid (.region id ops true) tm st = (adraw E (limC c) fid ops (hR E fid id tm st).1 (hR E fid id tm st).2).bind fun r => some (.normal, r) := by
  unfold ex hR
  simp only [aexec, if_true, Option.map_eq_bind]
  generalize hints E.tb (E.preR fid id) (tm, st) = x
  have := lim_bind (t := fun (a : List AV × Store) (_ : Nat) => (some (AX.normal, a) : Out)) (adraw_lim hc (E := E) (fid := fid) ops x.1 x.2).1 fun _ => mono_const _
  simp only [lim_const, (adraw_lim hc (E := E) (fid := fid) ops x.1 x.2).2] at this
  exact this

theorem ex_seq (a b : Code) (tm : List AV) (st : Store) : ex E c fid (.seq a b) tm st = (ex E c fid a tm st).bind (andThen (ex E c fid b)) := by
  unfold ex
  have hb : ∀ n, aexec E (c n) fid n (.seq a b) tm st = (aexec E (c n) fid n a tm st).bind fun x => andThen (aexec E (c n) fid n b) x := fun n => by
    simp only [aexec]
    cases aexec E (c n) fid n a tm st with
    | none => rfl
    | some x => obtain ⟨e, t, s⟩ := x; cases e <;> rfl
  simp only [hb]
  rw [lim_bind (t := fun x n => andThen (aexec E (c n) fid n b) x) (aexec_mono hc a tm st) ?_]
  · congr 1
    funext x
    obtain ⟨e, t, s⟩ := x
    cases e with
    | normal => rfl
    | _ => exact lim_const _
  · rintro ⟨e, t, s⟩
    cases e with
    | normal => exact aexec_mono hc b t s
    | _ => exact mono_const _

omit hc in
theorem ex_cond (q : Operand) (a b : Code) (tm : List AV) (st : Store) {v : Bool} (h : aeval tm q = .sc (.bool v)) : ex E c fid (.cond q a b) tm st = if v then ex E c fid a tm st else ex E c fid b tm st := by
  unfold ex
  simp only [aexec, h]
  cases v <;> rfl

theorem ex_block (id : Nat) (b : Code) (tm : List AV) (st : Store) : ex E c fid (.block id b) tm st = (ex E c fid b tm st).bind (outBlock id) := by
  unfold ex
  have hb : ∀ n, aexec E (c n) fid n (.block id b) tm st = (aexec E (c n) fid n b tm st).bind (outBlock id) := fun n => by
    simp only [aexec]
    cases aexec E (c n) fid n b tm st with
    | none => rfl
    | some x => obtain ⟨e, t, s⟩ := x; cases e <;> rfl
  simp only [hb]
  have := lim_bind (t := fun x (_ : Nat) => outBlock id x) (aexec_mono hc (E := E) (fid := fid) b tm st) fun _ => mono_const _
  simp only [lim_const] at this
  exact this

theorem ex_loop (b : Code) (tm : List AV) (st : Store) : ex E c fid (.loop b) tm st = (loopL E c fid b (hL E fid b tm st).2.length (kill (E.live fid (firstReg b)) (hL E fid b tm st).2.length 0 (hL E fid b tm st).1) (cut (hL E fid b tm st).2.length (hL E fid b tm st).2)).bind (leave' (E.liveX fid (firstReg b)) (hL E fid b tm st).2.length) := by
  unfold ex loopL iterL
  have hb : ∀ n, aexec E (c n) fid n (.loop b) tm st = (iter (E.live fid (firstReg b)) (hL E fid b tm st).2.length (aexec E (c n) fid n b) n (kill (E.live fid (firstReg b)) (hL E fid b tm st).2.length 0 (hL E fid b tm st).1) (cut (hL E fid b tm st).2.length (hL E fid b tm st).2)).bind (leave' (E.liveX fid (firstReg b)) (hL E fid b tm st).2.length) := fun n => by
    unfold hL
    simp only [aexec, leave]
    split
    · rename_i e t s h; rw [h]; rfl
    · rename_i h; rw [h]; rfl
  simp only [hb]
  generalize hL E fid b tm st = x
  have hm : Mono fun n => iter (E.live fid (firstReg b)) x.2.length (aexec E (c n) fid n b) n (kill (E.live fid (firstReg b)) x.2.length 0 x.1) (cut x.2.length x.2) := fun n r h =>
    iter_mono (fun tm st r h => aexec_mono hc b tm st n r h) n (n + 1) (by omega) _ _ _ h
  have := lim_bind (t := fun x' (_ : Nat) => leave' (E.liveX fid (firstReg b)) x.2.length x') hm fun _ => mono_const _
  simp only [lim_const] at this
  exact this

theorem loopL_eq (b : Code) (n0 : Nat) (tm : List AV) (st : Store) : loopL E c fid b n0 tm st = (ex E c fid b tm st).bind (next (loopL E c fid b n0) (E.live fid (firstReg b)) n0) :=
  iterL_eq (fun tm st => aexec_mono hc b tm st) tm st

/-- a function's body, without limits -/
noncomputable def bd (E : Env) (c : Nat → Caller) (f : FuncId) (fn : Func) (args : List AV) (st : Store) : ARes :=
  match fn.body with
  | none => none
  | some code => (ex E c f code (args ++ List.replicate (fn.ntmps - args.length) .bad) st).bind fun r =>
    if r.1 = .normal ∨ r.1 = .ret then (aresults E.tb r.2.2 r.2.1 fn.results.toList).map (·, r.2.2) else none

theorem bd_lim (f : FuncId) (fn : Func) (args : List AV) (st : Store) : Mono (fun n => abody E (c n) n f fn args st) ∧ lim (fun n => abody E (c n) n f fn args st) = bd E c f fn args st := by
  cases hb : fn.body with
  | none =>
    have : (fun n => abody E (c n) n f fn args st) = fun _ => none := funext fun n => by simp [abody, hb]
    rw [this]
    refine ⟨mono_const _, ?_⟩
    rw [lim_const]
    simp [bd, hb]
  | some code =>
    have he : (fun n => abody E (c n) n f fn args st) = fun n => (aexec E (c n) f n code (args ++ List.replicate (fn.ntmps - args.length) .bad) st).bind fun r => if r.1 = .normal ∨ r.1 = .ret then (aresults E.tb r.2.2 r.2.1 fn.results.toList).map (·, r.2.2) else none := funext fun n => by
      unfold abody
      rw [hb]
      dsimp only
      cases aexec E (c n) f n code (args ++ List.replicate (fn.ntmps - args.length) .bad) st with
      | none => rfl
      | some x => obtain ⟨e, t, s⟩ := x; cases e <;> simp
    have hm := aexec_mono hc (E := E) (fid := f) code (args ++ List.replicate (fn.ntmps - args.length) .bad) st
    rw [he]
    refine ⟨mono_bind (t := fun r (_ : Nat) => if r.1 = .normal ∨ r.1 = .ret then (aresults E.tb r.2.2 r.2.1 fn.results.toList).map (·, r.2.2) else none) hm (fun _ => mono_const _), ?_⟩
    have := lim_bind (t := fun r (_ : Nat) => if r.1 = .normal ∨ r.1 = .ret then (aresults E.tb r.2.2 r.2.1 fn.results.toList).map (·, r.2.2) else none) hm (fun _ => mono_const _)
    simp only [lim_const] at this
    rw [this]
    simp [bd, hb, ex]

end

/-- a call that is made alone -/
def alone (st : Store) (r : AV × Store) : ARes := if (frz 0 r.2 frzFuel r.1).pure then some (frz 0 r.2 frzFuel r.1, st) else none
def back (n0 : Nat) (r : AV × Store) : ARes := some (frz n0 r.2 frzFuel r.1, cut n0 r.2)

theorem acall_monoC (E : Env) : MonoC (acall E) := by
  have key : ∀ n f args st r, acall E n f args st = some r → acall E (n + 1) f args st = some r := by
    intro n
    induction n with
    | zero => intro f args st r h; simp [acall] at h
    | succ n ih =>
      intro f args st r h
      let c : Nat → Caller := fun k => if k = 0 then acall E n else acall E (n + 1)
      have hbody : ∀ fn args st r, abody E (acall E n) n f fn args st = some r → abody E (acall E (n + 1)) (n + 1) f fn args st = some r := by
        intro fn args st r hb
        have hm : MonoC (fun k => if k ≤ n then acall E n else acall E (n + 1)) := by
          intro g as s k r hk
          by_cases h1 : k ≤ n
          · by_cases h2 : k + 1 ≤ n
            · simpa [h1, h2] using hk
            · simp only [h1, if_true, h2, if_false] at hk ⊢
              exact ih _ _ _ _ hk
          · have h2 : ¬ k + 1 ≤ n := by omega
            simpa [h1, h2] using hk
        have := (bd_lim hm (E := E) f fn args st).1 n r (by simpa using hb)
        simpa [show ¬ n + 1 ≤ n by omega] using this
      rw [acall] at h ⊢
      split at h
      · exact h
      · split at h
        · exact h
        · split at h
          · rename_i hk
            rw [if_pos hk]
            exact hbody _ _ _ _ h
          · rename_i hk
            rw [if_neg hk]
            split at h
            · rename_i hp
              rw [if_pos hp]
              split at h
              · rename_i hb
                rw [hbody _ _ _ _ hb]
                exact h
              · cases h
            · rename_i hp
              rw [if_neg hp]
              split at h
              · rename_i hb
                rw [hbody _ _ _ _ hb]
                exact h
              · cases h
  exact fun g args st n r h => key n g args st r h

/-- a call, without limits -/
noncomputable def fcall (E : Env) : Caller := limC (acall E)

theorem fcall_some {E : Env} {f : FuncId} {args : List AV} {st : Store} {r : AV × Store} : fcall E f args st = some r ↔ ∃ n, acall E n f args st = some r := lim_some (acall_monoC E f args st)

theorem fcall_ext {E : Env} {f : FuncId} {g : List AV → Option AV} (hg : E.ext f = some g) {args : List AV} {st : Store} (hp : pureL args = true) {r : AV} (hr : g (scrubL 0 args) = some r) (hpr : r.pure = true) : fcall E f args st = some (r, st) :=
  fcall_some.2 ⟨1, by simp [acall, hg, hp, hr, hpr]⟩

theorem fcall_eq {E : Env} {f : FuncId} {fn : Func} (he : E.ext f = none) (hf : E.fn f = some fn) (args : List AV) (st : Store) :
    fcall E f args st = if E.keep f then bd E (acall E) f fn args st else if pureL args then (bd E (acall E) f fn (scrubL 0 args) []).bind (alone st) else (bd E (acall E) f fn (scrubL st.length args) st).bind (back st.length) := by
  have hB := fun args st => bd_lim (acall_monoC E) (E := E) f fn args st
  have hA : (fun n => acall E (n + 1) f args st) = fun n => if E.keep f then abody E (acall E n) n f fn args st else if pureL args then (abody E (acall E n) n f fn (scrubL 0 args) []).bind (alone st) else (abody E (acall E n) n f fn (scrubL st.length args) st).bind (back st.length) := funext fun n => by
    rw [acall, he, hf]
    dsimp only
    split
    · rfl
    · split
      · cases abody E (acall E n) n f fn (scrubL 0 args) [] <;> rfl
      · cases abody E (acall E n) n f fn (scrubL st.length args) st <;> rfl
  unfold fcall limC
  rw [← lim_shift (acall_monoC E f args st), hA]
  split
  · exact (hB args st).2
  · split
    · rw [lim_bind (t := fun x (_ : Nat) => alone st x) (hB (scrubL 0 args) []).1 fun _ => mono_const _, (hB (scrubL 0 args) []).2]
      simp only [lim_const]
    · rw [lim_bind (t := fun x (_ : Nat) => back st.length x) (hB (scrubL st.length args) st).1 fun _ => mono_const _, (hB (scrubL st.length args) st).2]
      simp only [lim_const]

end Go.Abs
