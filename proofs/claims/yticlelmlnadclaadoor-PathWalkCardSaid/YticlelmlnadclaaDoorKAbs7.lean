/-
  Arithmetic, comparisons, conversions of numbers. Lemmas alone; no condition.
-/
import Derived.Test.YticlelmlnadclaaDoorKAbs6
set_option linter.unusedVariables false
set_option linter.unusedSimpArgs false
set_option linter.unusedSectionVars false
set_option linter.unnecessarySimpa false
set_option linter.deprecated false
namespace Go.Abs
open Go

theorem intB_run {P : Program} {w : World} {op : BinOp} {k : IntKind} {a b : Int} {r : Value} (h : intB op k a b = some r) (t : TypeId) (hs : op ≠ .shl ∧ op ≠ .shr) :
    (binOp op t (.int k a) (.int k b)).run P w = .ok r w := by
  cases op <;> simp [intB] at h <;> simp_all [binOp, Op.intArith, Op.intDiv, Op.intBits, Op.intCmp]

theorem plain_intB {op : BinOp} {k : IntKind} {a b : Int} {r : Value} (h : intB op k a b = some r) : plainV r = true := by
  cases op <;> simp [intB] at h <;> (first | (obtain ⟨_, rfl⟩ := h; rfl) | (subst h; rfl))

theorem strB_run {P : Program} {w : World} {op : BinOp} {a b : ByteArray} {r : Value} (h : strB op a b = some r) (t : TypeId) : (binOp op t (.string a) (.string b)).run P w = .ok r w := by
  cases op <;> simp [strB] at h <;> (try (subst h; simp [binOp, Op.stringOp]))
  obtain ⟨hl, rfl⟩ := h
  have hm : IntKind.i64.max = 9223372036854775807 := by decide
  have : ¬ (((a.size + b.size : Nat) : Int) > IntKind.i64.max) := by rw [hm]; omega
  simp only [binOp, Op.stringOp]
  rw [if_neg this]
  rfl

theorem plain_strB {op : BinOp} {a b : ByteArray} {r : Value} (h : strB op a b = some r) : plainV r = true := by
  cases op <;> simp [strB] at h <;> (first | (obtain ⟨_, rfl⟩ := h; rfl) | (subst h; rfl))

theorem guard_int {P : Program} {w : World} {op : BinOp} {t : TypeId} {ox oy : Operand} {k k' : IntKind} {a b : Int} : (eqGuard op t ox oy (.int k a) (.int k' b)).run P w = .ok () w := by
  cases op <;> rfl
theorem guard_str {P : Program} {w : World} {op : BinOp} {t : TypeId} {ox oy : Operand} {a b : ByteArray} : (eqGuard op t ox oy (.string a) (.string b)).run P w = .ok () w := by
  cases op <;> rfl
theorem guard_bool {P : Program} {w : World} {op : BinOp} {t : TypeId} {ox oy : Operand} {a b : Bool} : (eqGuard op t ox oy (.bool a) (.bool b)).run P w = .ok () w := by
  cases op <;> rfl

theorem guard_ptr {P : Program} {w : World} {op : BinOp} {t : TypeId} {ox oy : Operand} {a b : Option Addr} : (eqGuard op t ox oy (.pointer a) (.pointer b)).run P w = .ok () w := by
  cases op <;> rfl

theorem equalIn_ptr {P : Program} {w : World} {t e : TypeId} (d : Nat) (h : P.underlying t = some (.pointer e)) (a : Option Addr) : (Op.equalIn (d + 1) t (.pointer a) (.pointer none)).run P w = .ok a.isNone w := by
  cases a <;> simp [Op.equalIn, run_underlying h]

theorem eql_ptr {P : Program} {w : World} {t e : TypeId} (h : P.underlying t = some (.pointer e)) (a : Option Addr) : (binOp .eql t (.pointer a) (.pointer none)).run P w = .ok (.bool a.isNone) w := by
  have := equalIn_ptr (w := w) 9999 h a
  simp only [binOp, Op.equal, Op.maxDepth, Sem.run_bind, this, Result.andThen_ok, Sem.run_pure]

theorem neq_ptr {P : Program} {w : World} {t e : TypeId} (h : P.underlying t = some (.pointer e)) (a : Option Addr) : (binOp .neq t (.pointer a) (.pointer none)).run P w = .ok (.bool !a.isNone) w := by
  have := equalIn_ptr (w := w) 9999 h a
  simp only [binOp, Op.equal, Op.maxDepth, Sem.run_bind, this, Result.andThen_ok, Sem.run_pure]

section
variable {P : Program} {tb : Tb} (hT : TbOk P tb) {c : Cx} (hi : Inv c)
include hT hi

theorem run_eqFs {d : Nat} (ih : ∀ {t : TypeId} {x y : AV} {v w : Value} {b : Bool}, Rep c x v → Rep c y w → eqv tb d t x y = some b → (Op.equalIn d t v w).run P c.w = .ok b c.w) {xs ys : List AV} {vs ws : Array Value}
    (hx : Reps c xs vs.toList) (hy : Reps c ys ws.toList) : ∀ {fs : List Field} {gs : List FI}, fieldsB P tb fs gs = true → ∀ {b : Bool}, eqv.eqFs gs xs ys (eqv tb d) = some b → (Op.eqFields d vs ws fs).run P c.w = .ok b c.w
  | [], [], _, b, h => by simp [eqv.eqFs] at h; subst h; rfl
  | [], _ :: _, hb, _, _ => by simp [fieldsB] at hb
  | _ :: _, [], hb, _, _ => by simp [fieldsB] at hb
  | f :: fs, g :: gs, hb, b, h => by
    obtain ⟨f', hf', h1, h2, h3, ti, dd, hti, hd, hsz, hag⟩ := fields_get hb (j := 0) (g := g) rfl
    simp at hf'
    subst hf'
    have hb' : fieldsB P tb fs gs = true := by simp only [fieldsB, Bool.and_eq_true] at hb; exact hb.2
    simp only [eqv.eqFs] at h
    simp only [Op.eqFields]
    cases hbl : g.blank with
    | true =>
      rw [hbl] at h h3
      have : f.name = "_" := by simpa using h3.symm
      simp only [if_true] at h
      simp only [this, ne_eq, not_true_eq_false, if_false]
      exact run_eqFs ih hx hy hb' h
    | false =>
      rw [hbl] at h h3
      have hne : f.name ≠ "_" := by simpa using h3.symm
      simp only [Bool.false_eq_true, if_false] at h
      simp only [ne_eq, hne, not_false_eq_true, if_true]
      split at h
      · rename_i a a' ha ha'
        obtain ⟨u, hu, hru⟩ := run_ofCells hT hi hx ha hti hsz hag hd
        obtain ⟨u', hu', hru'⟩ := run_ofCells hT hi hy ha' hti hsz hag hd
        rw [← h2] at ha ha'
        split at h
        · rename_i heq
          have := ih hru hru' heq
          rw [← h1] at this
          rw [h2]
          simp only [Sem.run_bind, hu, hu', Result.andThen_ok, this, Bool.not_true, Bool.false_eq_true, if_false]
          exact run_eqFs ih hx hy hb' h
        · rename_i o hne1
          cases hv : eqv tb d g.type a a' with
          | none => rw [hv] at h; cases h
          | some q =>
            rw [hv] at h
            cases h
            cases b with
            | true => exact absurd hv hne1
            | false =>
              have := ih hru hru' hv
              rw [← h1] at this
              rw [h2]
              simp only [Sem.run_bind, hu, hu', Result.andThen_ok, this, Bool.not_false, if_true, Sem.run_pure]
      · cases h

theorem run_eqv : ∀ (d : Nat) {t : TypeId} {x y : AV} {v w : Value} {b : Bool}, Rep c x v → Rep c y w → eqv tb d t x y = some b → (Op.equalIn d t v w).run P c.w = .ok b c.w
  | 0, t, x, y, v, w, b, _, _, h => by simp [eqv] at h
  | d + 1, t, x, y, v, w, b, hx, hy, h => by
    unfold eqv at h
    split at h
    · cases h
    · rename_i i ht
      have hI := hT.get ht
      obtain ⟨dd, hd, hkb⟩ := hI.desc
      split at h
      · rename_i hk
        rw [hk] at hkb
        cases dd <;> simp [kindB] at hkb
        cases hx; cases hy
        simp only [Option.some.injEq] at h
        subst h
        exact run_equalIn_bool' c.w d t _ _ hd
      · rename_i hk
        rw [hk] at hkb
        cases dd <;> simp [kindB] at hkb
        cases hx; cases hy
        simp only [Option.ite_none_right_eq_some, Option.some.injEq] at h
        obtain ⟨rfl, rfl⟩ := h
        exact run_equalIn_int c.w d t _ _ _ _ hd
      · rename_i hk
        rw [hk] at hkb
        cases dd <;> simp [kindB] at hkb
        cases hx; cases hy
        simp only [Option.some.injEq] at h
        subst h
        rw [run_equalIn_string c.w d t _ _ hd, beq_toListBytes]
      · have hk := ‹i.kind = TK.struct _›
        rw [hk] at hkb
        cases dd <;> simp [kindB] at hkb
        rename_i fields
        split at h
        · rename_i hsafe
          cases hx with
          | agg xs vs hxs =>
          cases hy with
          | agg ys ws hys =>
          have hf : P.fieldsOf t = fields := by simp [Program.fieldsOf, hd]
          rw [run_equalIn_struct c.w d t vs ws (by rw [hf]; exact hd) (hI.safe hsafe).2, hf]
          exact run_eqFs hT hi (fun a b e => run_eqv d a b e) hxs hys hkb h
        · cases h
      · cases h

theorem ptr_desc {t : TypeId} (h : ((tb t).any (·.kind.isPtr)) = true) : ∃ e, P.underlying t = some (.pointer e) := by
  cases ht : tb t with
  | none => simp [ht] at h
  | some i =>
    rw [ht] at h
    obtain ⟨d, hd, hkb⟩ := (hT.get ht).desc
    simp only [Option.any_some] at h
    cases hk : i.kind <;> simp [hk, TK.isPtr] at h
    rw [hk] at hkb
    cases d <;> simp [kindB] at hkb
    exact ⟨_, hd⟩

theorem run_abin {op : BinOp} {t : TypeId} {x y r : AV} {v w : Value} (hx : Rep c x v) (hy : Rep c y w) (h : abin tb c.st op t x y = some r) (ox oy : Operand) :
    ∃ u, (do eqGuard op t ox oy v w; binOp op t v w : Sem Value).run P c.w = .ok u c.w ∧ Rep c r u := by
  unfold abin at h
  split at h
  · cases hx; cases hy
    rename_i k a k' b _ _
    split at h
    · simp only [Option.ite_none_left_eq_some, Option.some.injEq] at h
      obtain ⟨hb, rfl⟩ := h
      refine ⟨.int k (k.wrap (a * 2 ^ min b.toNat k.bits)), ?_, .sc _ rfl⟩
      simp [guard_int, binOp, Op.shift, hb]
    · simp only [Option.ite_none_left_eq_some, Option.some.injEq] at h
      obtain ⟨hb, rfl⟩ := h
      refine ⟨.int k (a.fdiv (2 ^ min b.toNat k.bits)), ?_, .sc _ rfl⟩
      simp [guard_int, binOp, Op.shift, hb]
    · simp only [Option.ite_none_right_eq_some] at h
      obtain ⟨rfl, h⟩ := h
      cases hb : intB op k a b with
      | none => simp [hb] at h
      | some q =>
        simp only [hb, Option.map_some, Option.some.injEq] at h
        subst h
        refine ⟨q, ?_, .sc _ (plain_intB hb)⟩
        simp only [Sem.run_bind, guard_int, Result.andThen_ok]
        exact intB_run hb t ⟨by assumption, by assumption⟩
  · cases hx; cases hy
    rename_i a b _ _
    cases hb : strB op a b with
    | none => simp [hb] at h
    | some q =>
      simp only [hb, Option.map_some, Option.some.injEq] at h
      subst h
      refine ⟨q, ?_, .sc _ (plain_strB hb)⟩
      simp only [Sem.run_bind, guard_str, Result.andThen_ok]
      exact strB_run hb t
  · cases hx; cases hy
    rename_i a b _ _
    have hbool : ∀ {z : Bool}, (Option.any (fun i => match i.kind with | TK.bool => true | x => false) (tb t) = true) → P.underlying t = some .bool := by
      intro _ hz
      cases ht : tb t with
      | none => simp [ht] at hz
      | some i =>
        rw [ht] at hz
        obtain ⟨d, hd, hkb⟩ := (hT.get ht).desc
        cases hk : i.kind <;> simp [hk] at hz
        rw [hk] at hkb
        cases d <;> simp [kindB] at hkb
        exact hd
    split at h
    · simp only [Option.ite_none_right_eq_some, Option.some.injEq] at h
      obtain ⟨hz, rfl⟩ := h
      have hd := hbool (z := true) hz
      refine ⟨.bool (a == b), ?_, .sc _ rfl⟩
      simp [guard_bool, binOp, Op.equal, Op.maxDepth, run_equalIn_bool' c.w 9999 t a b hd]
    · simp only [Option.ite_none_right_eq_some, Option.some.injEq] at h
      obtain ⟨hz, rfl⟩ := h
      have hd := hbool (z := true) hz
      refine ⟨.bool !(a == b), ?_, .sc _ rfl⟩
      simp [guard_bool, binOp, Op.equal, Op.maxDepth, run_equalIn_bool' c.w 9999 t a b hd]
    · cases h
  · rename_i xs ys
    have hsafe : ((tb t).any (·.safe)) = true → P.eqGuardType P.depth t = false := by
      intro hz
      cases ht : tb t with
      | none => simp [ht] at hz
      | some i => rw [ht] at hz; exact ((hT.get ht).safe (by simpa using hz)).1
    split at h
    · simp only [Option.ite_none_right_eq_some] at h
      obtain ⟨hz, h⟩ := h
      cases hb : eqv tb 10000 t (.agg xs) (.agg ys) with
      | none => simp [hb] at h
      | some q =>
        simp only [hb, Option.map_some, Option.some.injEq] at h
        subst h
        have hrun := run_eqv hT hi 10000 hx hy hb
        cases hx; cases hy
        refine ⟨.bool q, ?_, .sc _ rfl⟩
        rw [Sem.run_bind, run_eqGuard_agg c.w _ t ox oy _ _ (hsafe hz)]
        simp only [Result.andThen_ok]
        rw [run_eql_struct, hrun]
        rfl
    · simp only [Option.ite_none_right_eq_some] at h
      obtain ⟨hz, h⟩ := h
      cases hb : eqv tb 10000 t (.agg xs) (.agg ys) with
      | none => simp [hb] at h
      | some q =>
        simp only [hb, Option.map_some, Option.some.injEq] at h
        subst h
        have hrun := run_eqv hT hi 10000 hx hy hb
        cases hx; cases hy
        refine ⟨.bool !q, ?_, .sc _ rfl⟩
        rw [Sem.run_bind, run_eqGuard_agg c.w _ t ox oy _ _ (hsafe hz)]
        simp only [Result.andThen_ok]
        rw [run_neq_struct, hrun]
        rfl
    · cases h
  · rename_i id ver off
    simp only [Bool.and_eq_true] at h
    split at h
    · rename_i hz
      obtain ⟨hrow, hp⟩ := hz
      obtain ⟨e, hd⟩ := ptr_desc hT hi hp
      cases hq : row c.st (.ref id ver off) with
      | none => simp [hq] at hrow
      | some ro =>
        obtain ⟨cs, o⟩ := ro
        obtain ⟨base, vs, rfl, _⟩ := row_cells hi hx hq
        cases hy
        split at h
        · simp only [Option.some.injEq] at h
          subst h
          exact ⟨.bool false, by rw [Sem.run_bind, guard_ptr]; simp only [Result.andThen_ok]; first | exact eql_ptr hd _ | exact neq_ptr hd _, .sc _ rfl⟩
        · simp only [Option.some.injEq] at h
          subst h
          exact ⟨.bool true, by rw [Sem.run_bind, guard_ptr]; simp only [Result.andThen_ok]; first | exact eql_ptr hd _ | exact neq_ptr hd _, .sc _ rfl⟩
        · cases h
    · cases h
  · split at h
    · rename_i hp
      obtain ⟨e, hd⟩ := ptr_desc hT hi hp
      cases hx; cases hy
      split at h
      · simp only [Option.some.injEq] at h
        subst h
        exact ⟨.bool true, by rw [Sem.run_bind, guard_ptr]; simp only [Result.andThen_ok]; first | exact eql_ptr hd _ | exact neq_ptr hd _, .sc _ rfl⟩
      · simp only [Option.some.injEq] at h
        subst h
        exact ⟨.bool false, by rw [Sem.run_bind, guard_ptr]; simp only [Result.andThen_ok]; first | exact eql_ptr hd _ | exact neq_ptr hd _, .sc _ rfl⟩
      · cases h
    · cases h
  · cases h

end
end Go.Abs
