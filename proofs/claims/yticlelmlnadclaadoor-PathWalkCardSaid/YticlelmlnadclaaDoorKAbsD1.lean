/-
  Regions that draw their order: operations that can change places. Lemmas alone; no condition.
-/
import Derived.Test.YticlelmlnadclaaDoorKAbs13
set_option linter.unusedVariables false
set_option linter.unusedSimpArgs false
set_option linter.unusedSectionVars false
set_option linter.unnecessarySimpa false
set_option linter.deprecated false
namespace Go.Abs
open Go

/-- a call that is made alone neither asks the store nor turns it -/
def CallFree (E : Env) (call : Caller) : Prop :=
  ∀ g args st r st', (!E.keep g || (E.ext g).isSome) = true → pureL args = true → call g args st = some (r, st') → st' = st ∧ ∀ s, call g args s = some (r, s)

theorem acall_free (E : Env) : ∀ k, CallFree E (acall E k)
  | 0 => fun g args st r st' _ _ h => by simp [acall] at h
  | k + 1 => fun g args st r st' hk hp h => by
    simp only [acall] at h ⊢
    split at h
    · rename_i f hf
      rw [if_pos hp] at h
      simp only [if_pos hp]
      split at h
      · rename_i r2 hr2
        split at h
        · rename_i hpure
          simp only [Option.some.injEq, Prod.mk.injEq] at h
          obtain ⟨rfl, rfl⟩ := h
          exact ⟨rfl, fun s => by simp [hr2, hpure]⟩
        · cases h
      · cases h
    · rename_i hf
      have hkeep : E.keep g = false := by rw [hf] at hk; simpa using hk
      split at h
      · cases h
      · rename_i fn hfn
        simp only [hkeep, Bool.false_eq_true, if_false, if_pos hp] at h ⊢
        split at h
        · rename_i r2 st2 hb
          split at h
          · rename_i hpure
            simp only [Option.some.injEq, Prod.mk.injEq] at h
            obtain ⟨rfl, rfl⟩ := h
            exact ⟨rfl, fun s => by simp [hpure]⟩
          · cases h
        · cases h

theorem aeval_congr {tm tm' : List AV} {x : Operand} (h : ∀ t, x = .tmp t → tm.getD t .bad = tm'.getD t .bad) : aeval tm x = aeval tm' x := by
  cases x with
  | tmp t => exact h t rfl
  | _ => rfl

theorem map_congr' {α β : Type} {f g : α → β} {l : List α} (h : ∀ x ∈ l, f x = g x) : l.map f = l.map g := List.map_congr_left h

theorem aop_congr {E : Env} {call : Caller} {fid : FuncId} {o : Oper} {tm tm' : List AV} {st : Store} (h : ∀ x ∈ o.op.operands.toList, aeval tm x = aeval tm' x) : aop E call fid o tm st = aop E call fid o tm' st ∧ cls E fid o tm = cls E fid o tm' := by
  unfold aop cls
  cases ho : o.op with
  | move x | assign x | load t x | nilCheck x | unOp _ _ x | convert _ _ x | fieldAddr _ x _ | field _ x _ | extract x _ | box _ x =>
    have h1 : aeval tm x = aeval tm' x := h x (by simp [ho, Op.operands])
    simp [h1]
  | pick a b d =>
    have h1 := h a (by simp [ho, Op.operands]); have h2 := h b (by simp [ho, Op.operands]); have h3 := h d (by simp [ho, Op.operands])
    simp [h1, h2, h3]
  | store t a b | binOp _ _ a b _ | makeSlice _ a b | indexAddr _ a b | index _ a b | lookup _ a b _ =>
    have h1 := h a (by simp [ho, Op.operands]); have h2 := h b (by simp [ho, Op.operands])
    simp [h1, h2]
  | mapUpdate t a b d | insert t a b d =>
    have h1 := h a (by simp [ho, Op.operands]); have h2 := h b (by simp [ho, Op.operands]); have h3 := h d (by simp [ho, Op.operands])
    simp [h1, h2, h3]
  | build t parts | buildSlice t _ parts =>
    have h1 : (parts.toList.map fun p => (p.1, aeval tm p.2)) = parts.toList.map fun p => (p.1, aeval tm' p.2) := map_congr' fun p hp => by
      rw [h p.2 (by simp only [ho, Op.operands, List.toList_toArray]; exact List.mem_map_of_mem hp)]
    simp [h1]
  | makeFunc fn first caps =>
    have h1 : caps.toList.map (aeval tm) = caps.toList.map (aeval tm') := map_congr' fun x hx => h x (by simp [ho, Op.operands]; right; simpa using hx)
    cases fn <;> simp [h1]
  | slice t x lo hi mx =>
    have h1 := h x (by simp [ho, Op.operands])
    have h2 : lo.map (aeval tm) = lo.map (aeval tm') := by cases lo with | none => rfl | some y => simp [h y (by simp [ho, Op.operands])]
    have h3 : hi.map (aeval tm) = hi.map (aeval tm') := by cases hi with | none => rfl | some y => simp [h y (by simp [ho, Op.operands])]
    cases mx <;> simp [h1, h2, h3]
  | call ca =>
    have h1 : ca.args.toList.map (aeval tm) = ca.args.toList.map (aeval tm') := map_congr' fun x hx => h x (by simp [ho, Op.operands, Call.operands]; right; simpa using hx)
    cases hc : ca.callee with
    | value f =>
      have h2 := h f (by simp [ho, Op.operands, Call.operands, hc])
      simp [h1, h2, hc]
    | invoke r m => simp [hc]
    | builtin b => cases b <;> simp [h1, hc]
  | makeMap t r => cases r <;> simp
  | _ => simp

theorem row_push {st : Store} {v : AV} {r : List AV × Nat} (x : AObj) (h : row st v = some r) : row (st ++ [x]) v = some r := by
  cases v with
  | ref id ver off =>
    simp only [row] at h ⊢
    cases hq : st[id]? with
    | none => simp [hq] at h
    | some o => rw [List.getElem?_append_left (lt_of_get hq), hq]; rw [hq] at h; exact h
  | fp cs off => exact h
  | _ => simp [row] at h

theorem sliceOf_push {k : Nat} {st : Store} {v : AV} {r : Nat × List AV} (x : AObj) (h : sliceOf k st v = some r) : sliceOf k (st ++ [x]) v = some r := by
  cases v with
  | own id ver off len =>
    simp only [sliceOf] at h ⊢
    cases hq : st[id]? with
    | none => simp [hq] at h
    | some o => rw [List.getElem?_append_left (lt_of_get hq), hq]; rw [hq] at h; exact h
  | sc v =>
    by_cases hv : v = .slice none 0 0
    · subst hv; exact h
    · unfold sliceOf at h; split at h <;> simp_all
  | _ => simpa [sliceOf] using h

theorem lenOf_push {st : Store} {v : AV} {r : Nat} (x : AObj) (h : lenOf st v = some r) : lenOf (st ++ [x]) v = some r := by
  cases v with
  | own id ver off len =>
    simp only [lenOf] at h ⊢
    cases hq : st[id]? with
    | none => simp [hq] at h
    | some o => rw [List.getElem?_append_left (lt_of_get hq), hq]; rw [hq] at h; exact h
  | mref id =>
    simp only [lenOf] at h ⊢
    cases hq : st[id]? with
    | none => simp [hq] at h
    | some o => rw [List.getElem?_append_left (lt_of_get hq), hq]; rw [hq] at h; exact h
  | sc v => unfold lenOf at h ⊢; split at h <;> simp_all
  | _ => simpa [lenOf] using h

theorem get_push {st : Store} {id : Nat} {o : AObj} (x : AObj) (h : st[id]? = some o) : (st ++ [x])[id]? = some o := by
  rw [List.getElem?_append_left (lt_of_get h), h]

/-- the answer stays where an object is added -/
def Push? {α : Type} (f : Store → Option α) : Prop := ∀ st r x, f st = some r → f (st ++ [x]) = some r

theorem aload_push (tb : Tb) (t : TypeId) (p : AV) : Push? fun st => aload tb st t p := by
  intro st r x h
  simp only [aload] at h ⊢
  split at h
  · rename_i i cs off ht hrow
    rw [ht, row_push x hrow]
    exact h
  · cases h

theorem afieldAddr_push (tb : Tb) (t : TypeId) (p : AV) (f : Nat) : Push? fun st => afieldAddr tb st t p f := by
  intro st r x h
  simp only [afieldAddr] at h ⊢
  split at h
  · rename_i i ht
    split at h
    · rename_i fs hk
      split at h
      · rename_i g ro hg hrow
        simp only [hg, row_push x hrow]
        exact h
      · cases h
    · cases h
  · cases h

theorem aslice_push (tb : Tb) (t : TypeId) (p : AV) (lo hi : Option AV) : Push? fun st => aslice tb st t p lo hi := by
  intro st r x h
  simp only [aslice] at h ⊢
  split at h
  · cases h
  · rename_i i ht
    split at h
    · exact h
    · split at h
      · cases h
      · rename_i q he
        split at h
        · split at h
          · rename_i nc hs
            simp only [sliceOf_push x hs]
            exact h
          · cases h
        · split at h
          · rename_i n cs hs
            simp only [sliceOf_push x hs]
            exact h
          · cases h
    · cases h

theorem aindexAddr_push (tb : Tb) (t : TypeId) (p ix : AV) : Push? fun st => aindexAddr tb st t p ix := by
  intro st r x h
  simp only [aindexAddr] at h ⊢
  split at h
  · rename_i i k n ht
    split at h
    · cases h
    · rename_i hn
      rw [if_neg hn]
      split at h
      · split at h
        · rename_i q he
          split at h
          · rename_i nc hs
            simp only [sliceOf_push x hs]
            exact h
          · cases h
        · cases h
      · exact h
      · split at h
        · rename_i q ro he hro
          simp only [he, row_push x hro]
          exact h
        · cases h
      · cases h
  · cases h

theorem alookup_push (tb : Tb) (t : TypeId) (m k : AV) (ok : Bool) : Push? fun st => alookup tb st t m k ok := by
  intro st r x h
  simp only [alookup] at h ⊢
  split at h
  · rename_i i ht
    split at h
    · split at h
      · rename_i ki vi hki hvi
        split at h
        · cases h
        · rename_i hkey
          rw [if_neg hkey]
          cases m with
          | mref id =>
            simp only at h ⊢
            cases hq : st[id]? with
            | none => simp [hq] at h
            | some o => rw [get_push x hq]; rw [hq] at h; exact h
          | sc v =>
            by_cases hv : v = .map none
            · subst hv; exact h
            · split at h
              · cases h
              · rename_i es hes
                split at hes <;> simp_all
          | _ => exact h
      · cases h
    · cases h
  · cases h

theorem abin_push (tb : Tb) (op : BinOp) (t : TypeId) (a b : AV) : Push? fun st => abin tb st op t a b := by
  intro st r x h
  simp only [abin] at h ⊢
  split at h <;> try exact h
  rename_i id ver off
  simp only [Bool.and_eq_true] at h ⊢
  split at h
  · rename_i hz
    obtain ⟨hrow, hp⟩ := hz
    cases hq : row st (.ref id ver off) with
    | none => simp [hq] at hrow
    | some ro => rw [if_pos ⟨by rw [row_push x hq]; rfl, hp⟩]; exact h
  · cases h

theorem map_push {f : Store → Option AV} (hf : Push? f) {st : Store} {r : AV} {st' : Store} (h : (f st).map (·, st) = some (r, st')) : st' = st ∧ ∀ x, (f (st ++ [x])).map (·, st ++ [x]) = some (r, st ++ [x]) := by
  obtain ⟨h1, rfl⟩ := map_some_pair h
  exact ⟨rfl, fun x => by rw [hf st' r x h1]; rfl⟩

theorem aop_free {E : Env} {call : Caller} (hcf : CallFree E call) {fid : FuncId} {o : Oper} {tm : List AV} {st : Store} {r : AV} {st' : Store} (hc : cls E fid o tm = .free) (h : aop E call fid o tm st = some (r, st')) :
    st' = st ∧ ∀ s, aop E call fid o tm s = some (r, s) := by
  unfold cls at hc
  unfold aop at h ⊢
  cases ho : o.op with
  | move x =>
    simp only [ho, Option.some.injEq, Prod.mk.injEq] at h
    obtain ⟨rfl, rfl⟩ := h
    exact ⟨rfl, fun s => rfl⟩
  | assign x =>
    simp only [ho] at h hc
    have hno : ∀ d, o.dst = some d → E.ownNil fid d = false := by
      intro d hd
      rw [hd] at hc
      simp only [Option.any_some] at hc
      cases hh : E.ownNil fid d with
      | false => rfl
      | true => simp [hh] at hc
    dsimp only
    by_cases hx : aeval tm x = .sc (.slice none 0 0)
    · simp only [hx] at h ⊢
      cases hd : o.dst with
      | none =>
        simp only [hd, Option.some.injEq, Prod.mk.injEq] at h
        obtain ⟨rfl, rfl⟩ := h
        exact ⟨rfl, fun s => rfl⟩
      | some d =>
        simp only [hd, hno d hd, Bool.false_eq_true, if_false, Option.some.injEq, Prod.mk.injEq] at h
        obtain ⟨rfl, rfl⟩ := h
        exact ⟨rfl, fun s => by simp [hno d hd]⟩
    · have he : ∀ s : Store, (match aeval tm x, o.dst with
          | .sc (.slice none 0 0), some d =>
            if E.ownNil fid d then
              match E.tb o.type with
              | some i => match i.kind with
                | .slice e => match E.tb e with
                  | some q => if q.size = 0 then none else some (.own s.length 0 0 0, s ++ [.arr e q.size 0 0 []])
                  | none => none
                | _ => some (aeval tm x, s)
              | none => none
            else some (aeval tm x, s)
          | y, _ => some (y, s) : ARes) = some (aeval tm x, s) := by
        intro s
        split
        · rename_i d hx' hd
          exact absurd hx' hx
        · rfl
      have h := (he st).symm.trans h
      simp only [Option.some.injEq, Prod.mk.injEq] at h
      obtain ⟨rfl, rfl⟩ := h
      exact ⟨rfl, he⟩
  | pick a b d =>
    simp only [ho] at h ⊢
    split at h
    · simp only [Option.some.injEq, Prod.mk.injEq] at h
      obtain ⟨rfl, rfl⟩ := h
      exact ⟨rfl, fun s => rfl⟩
    · cases h
  | unOp a b d =>
    simp only [ho] at h ⊢
    split at h
    · simp only [Option.some.injEq, Prod.mk.injEq] at h
      obtain ⟨rfl, rfl⟩ := h
      exact ⟨rfl, fun s => rfl⟩
    · simp only [Option.some.injEq, Prod.mk.injEq] at h
      obtain ⟨rfl, rfl⟩ := h
      exact ⟨rfl, fun s => rfl⟩
    · cases h
  | makeFunc fn first caps =>
    cases fn with
    | func f =>
      simp only [ho] at h ⊢
      split at h
      · rename_i hf
        simp only [Option.some.injEq, Prod.mk.injEq] at h
        obtain ⟨rfl, rfl⟩ := h
        exact ⟨rfl, fun s => by simp [hf]⟩
      · cases h
    | _ => simp [ho] at h
  | extract t i =>
    simp only [ho] at h ⊢
    split at h
    · obtain ⟨h1, rfl⟩ := map_some_pair h
      exact ⟨rfl, fun s => by simp [h1]⟩
    · cases h
  | field t x f =>
    simp only [ho] at h ⊢
    obtain ⟨h1, rfl⟩ := map_some_pair h
    exact ⟨rfl, fun s => by simp [h1]⟩
  | index t x f =>
    simp only [ho] at h ⊢
    obtain ⟨h1, rfl⟩ := map_some_pair h
    exact ⟨rfl, fun s => by simp [h1]⟩
  | build t parts =>
    simp only [ho] at h ⊢
    split at h
    · rename_i i ht
      split at h
      · obtain ⟨h1, rfl⟩ := map_some_pair h
        exact ⟨rfl, fun s => by simp [h1]⟩
      · split at h
        · obtain ⟨h1, rfl⟩ := map_some_pair h
          exact ⟨rfl, fun s => by simp [h1]⟩
        · cases h
      · cases h
    · cases h
  | buildSlice t len parts =>
    simp only [ho] at h hc ⊢
    have hlit : o.dst.any (E.ownLit fid) = false := by
      cases hh : o.dst.any (E.ownLit fid) with
      | false => rfl
      | true => simp [hh] at hc
    split at h
    · rename_i i ht
      split at h
      · split at h
        · rename_i q he
          split at h
          · rename_i hcond
            split at h
            · rename_i cs hf
              simp only [hlit, Bool.false_eq_true, if_false, Option.some.injEq, Prod.mk.injEq] at h
              obtain ⟨rfl, rfl⟩ := h
              exact ⟨rfl, fun s => by simp [hcond, hlit]⟩
            · cases h
          · cases h
        · cases h
      · cases h
    · cases h
  | call ca =>
    simp only [ho] at h hc ⊢
    cases hcl : ca.callee with
    | value f =>
      simp only [hcl] at h hc ⊢
      split at h
      · rename_i g caps hfn
        simp only [hfn] at hc ⊢
        split at hc
        · rename_i hcond
          simp only [Bool.and_eq_true] at hcond
          exact hcf g _ st r st' hcond.1 hcond.2 h
        · cases hc
      · cases h
    | invoke a b => simp [hcl] at hc
    | builtin b => cases b <;> simp [hcl] at hc
  | _ => simp [ho] at hc

theorem aop_reads {E : Env} {call : Caller} {fid : FuncId} {o : Oper} {tm : List AV} {st : Store} {r : AV} {st' : Store} (hc : cls E fid o tm = .reads) (h : aop E call fid o tm st = some (r, st')) :
    st' = st ∧ ∀ x, aop E call fid o tm (st ++ [x]) = some (r, st ++ [x]) := by
  unfold cls at hc
  unfold aop at h ⊢
  cases ho : o.op with
  | load t p =>
    simp only [ho] at h ⊢
    exact map_push (aload_push E.tb t _) h
  | lookup t m k ok =>
    simp only [ho] at h ⊢
    exact map_push (alookup_push E.tb t _ _ ok) h
  | fieldAddr t p f =>
    simp only [ho] at h ⊢
    exact map_push (afieldAddr_push E.tb t _ f) h
  | indexAddr t p i =>
    simp only [ho] at h ⊢
    exact map_push (aindexAddr_push E.tb t _ _) h
  | slice t x lo hi mx =>
    cases mx with
    | none =>
      simp only [ho] at h ⊢
      exact map_push (aslice_push E.tb t _ _ _) h
    | some m => simp [ho] at h
  | binOp op t a b ty =>
    simp only [ho] at h ⊢
    exact map_push (abin_push E.tb op t _ _) h
  | nilCheck x =>
    simp only [ho] at h ⊢
    split at h
    · rename_i id ver off hx
      split at h
      · rename_i hrow
        simp only [Option.some.injEq, Prod.mk.injEq] at h
        obtain ⟨rfl, rfl⟩ := h
        refine ⟨rfl, fun y => ?_⟩
        cases hq : row st (.ref id ver off) with
        | none => simp [hq] at hrow
        | some ro => simp [row_push y hq]
      · cases h
    · simp only [Option.some.injEq, Prod.mk.injEq] at h
      obtain ⟨rfl, rfl⟩ := h
      exact ⟨rfl, fun y => rfl⟩
    · simp only [Option.some.injEq, Prod.mk.injEq] at h
      obtain ⟨rfl, rfl⟩ := h
      exact ⟨rfl, fun y => rfl⟩
    · cases h
  | convert s d x =>
    simp only [ho] at h ⊢
    split at h
    · obtain ⟨h1, rfl⟩ := map_some_pair h
      exact ⟨rfl, fun y => by simp [h1]⟩
    · split at h
      · rename_i i j hs hd
        split at h
        · split at h
          · rename_i q he
            split at h
            · rename_i hq
              split at h
              · rename_i n cs hsl
                obtain ⟨h1, rfl⟩ := map_some_pair h
                exact ⟨rfl, fun y => by simp [sliceOf_push y hsl, hq, h1]⟩
              · cases h
            · cases h
          · cases h
        · cases h
      · cases h
  | call ca =>
    simp only [ho] at h hc ⊢
    cases hcl : ca.callee with
    | value f =>
      simp only [hcl] at hc
      split at hc
      · split at hc <;> cases hc
      · cases hc
    | invoke a b => simp [hcl] at hc
    | builtin b =>
      simp only [hcl] at h ⊢
      have key : ∀ ts xs, (b = .len ∨ b = .max ∨ b = .min) → abuiltin E.tb st b ts xs = some (r, st') → st' = st ∧ ∀ x, abuiltin E.tb (st ++ [x]) b ts xs = some (r, st ++ [x]) := by
        intro ts xs hb hh
        unfold abuiltin at hh ⊢
        split at hh
        · rename_i t _ x _
          split at hh
          · rename_i i ht
            split at hh
            · simp only [Option.some.injEq, Prod.mk.injEq] at hh
              obtain ⟨rfl, rfl⟩ := hh
              exact ⟨rfl, fun y => rfl⟩
            · split at hh
              · rename_i hf
                cases hl : lenOf st x with
                | none => simp [hl] at hh
                | some n =>
                  simp only [hl, Option.map_some, Option.some.injEq, Prod.mk.injEq] at hh
                  obtain ⟨rfl, rfl⟩ := hh
                  refine ⟨rfl, fun y => ?_⟩
                  simp [hf, lenOf_push y hl]
              · cases hh
          · cases hh
        · simp at hb
        · simp only [Option.some.injEq, Prod.mk.injEq] at hh
          obtain ⟨rfl, rfl⟩ := hh
          exact ⟨rfl, fun y => rfl⟩
        · simp only [Option.some.injEq, Prod.mk.injEq] at hh
          obtain ⟨rfl, rfl⟩ := hh
          exact ⟨rfl, fun y => rfl⟩
        · cases hh
      refine key _ _ ?_ h
      cases b <;> simp [hcl] at hc <;> simp
  | buildSlice t len parts =>
    simp only [ho] at hc
    split at hc <;> cases hc
  | assign x =>
    simp only [ho] at hc
    split at hc <;> cases hc
  | _ => simp [ho] at hc

theorem aop_allocs {E : Env} {call : Caller} {fid : FuncId} {o : Oper} {tm : List AV} {st : Store} {r : AV} {st' : Store} (hc : cls E fid o tm = .allocs) (h : aop E call fid o tm st = some (r, st')) : ∃ x, st' = st ++ [x] := by
  unfold cls at hc
  unfold aop at h
  cases ho : o.op with
  | alloc t =>
    simp only [ho] at h
    split at h
    · simp only [Option.some.injEq, Prod.mk.injEq] at h
      exact ⟨_, h.2.symm⟩
    · cases h
  | box t x =>
    simp only [ho] at h
    split at h
    · simp only [Option.some.injEq, Prod.mk.injEq] at h
      exact ⟨_, h.2.symm⟩
    · cases h
  | buildSlice t len parts =>
    simp only [ho] at h hc
    have hlit : o.dst.any (E.ownLit fid) = true := by
      cases hh : o.dst.any (E.ownLit fid) with
      | true => rfl
      | false => simp [hh] at hc
    split at h
    · split at h
      · split at h
        · split at h
          · split at h
            · simp only [hlit, if_true, Option.some.injEq, Prod.mk.injEq] at h
              exact ⟨_, h.2.symm⟩
            · cases h
          · cases h
        · cases h
      · cases h
    · cases h
  | assign x =>
    simp only [ho] at hc
    split at hc <;> cases hc
  | call ca =>
    simp only [ho] at hc
    cases hcl : ca.callee with
    | value f =>
      simp only [hcl] at hc
      split at hc
      · split at hc <;> cases hc
      · cases hc
    | invoke a b => simp [hcl] at hc
    | builtin b => cases b <;> simp [hcl] at hc
  | _ => simp [ho] at hc

end Go.Abs
