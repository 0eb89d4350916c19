/-
  Operations that leave the store as it is: loads, fields, indexes, slices of slices, arithmetic. Lemmas alone; no condition.
-/
import Derived.Test.YticlelmlnadclaaDoorKAbs4
import Derived.Laws.StructEq
set_option linter.unusedVariables false
set_option linter.unusedSimpArgs false
set_option linter.unusedSectionVars false
set_option linter.unnecessarySimpa false
set_option linter.deprecated false
namespace Go.Abs
open Go

section
variable {P : Program} {tb : Tb} (hT : TbOk P tb) {c : Cx} (hi : Inv c)
include hT hi

theorem run_aload {t : TypeId} {p r : AV} {v : Value} (hr : Rep c p v) (h : aload tb c.st t p = some r) : ∃ u, (Instr.loadAt t v).run P c.w = .ok u c.w ∧ Rep c r u := by
  unfold aload at h
  split at h
  · rename_i i cs off ht hrow
    obtain ⟨base, vs, rfl, hvs, hc⟩ := row_cells hi hr hrow
    obtain ⟨u, hu, hru⟩ := ofCells_load (hT.get ht) hvs hc h
    exact ⟨u, by simp [Instr.loadAt, Instr.sureAddr, hu], hru⟩
  · cases h

omit hi hT in
theorem fields_get {P : Program} {tb : Tb} : ∀ {fs : List Field} {gs : List FI}, fieldsB P tb fs gs = true → ∀ {j : Nat} {g : FI}, gs[j]? = some g →
    ∃ f, fs[j]? = some f ∧ f.type = g.type ∧ f.offset = g.off ∧ (g.blank = (f.name == "_")) ∧ ∃ ti d, P.info? f.type = some ti ∧ P.underlying f.type = some d ∧ ti.size = g.size ∧ aggD d = g.agg
  | [], [], _, j, g, h => by simp at h
  | [], _ :: _, hb, _, _, _ => by simp [fieldsB] at hb
  | _ :: _, [], hb, _, _, _ => by simp [fieldsB] at hb
  | f :: fs, g :: gs, hb, j, g', h => by
    simp only [fieldsB, Bool.and_eq_true, beq_iff_eq] at hb
    obtain ⟨⟨⟨⟨h1, h2⟩, h3⟩, h4⟩, h5⟩ := hb
    cases j with
    | zero =>
      simp at h
      subst h
      refine ⟨f, rfl, h1, h2, h3, ?_⟩
      split at h4
      · rename_i ti d ht hd
        simp only [Bool.and_eq_true, beq_iff_eq] at h4
        exact ⟨ti, d, ht, hd, h4.1, h4.2⟩
      · cases h4
    | succ j =>
      simp only [List.getElem?_cons_succ] at h ⊢
      exact fields_get h5 h

omit hi hT in
theorem run_sizeOf {t : TypeId} {ti : TypeInfo} (h : P.info? t = some ti) (w : World) : (sizeOf t).run P w = .ok ti.size w := by simp [sizeOf, typeInfo, h]

omit hi hT in
theorem run_isAgg {t : TypeId} {d : TypeDesc} (h : P.underlying t = some d) (w : World) : (isAgg t).run P w = .ok (aggD d) w := by
  unfold isAgg
  rw [Sem.run_bind, run_underlying h]
  cases d <;> simp [aggD]

theorem run_afieldAddr {t : TypeId} {x r : AV} {v : Value} {f : Nat} (hr : Rep c x v) (h : afieldAddr tb c.st t x f = some r) : ∃ u, (Instr.fieldAt t v f).run P c.w = .ok u c.w ∧ Rep c r u := by
  unfold afieldAddr at h
  split at h
  · rename_i i ht
    split at h
    · rename_i fs hk
      split at h
      · rename_i g cso hg hrow
        obtain ⟨cs, off⟩ := cso
        split at h
        · cases h
        · rename_i hz
          obtain ⟨d, hd, hkb⟩ := (hT.get ht).desc
          rw [hk] at hkb
          cases d <;> simp [kindB] at hkb
          rename_i fields
          obtain ⟨fl, hf1, hf2, hf3, _, ti, d', hti, hd', hsz, _⟩ := fields_get hkb hg
          obtain ⟨base, vs, rfl, hvs, hc, hsh⟩ := row_cells' hi hr hrow
          have hfe : fields[f]? = some fl := by simpa using hf1
          have hrun : (Instr.fieldAt t (.pointer (some (base.add off))) f).run P c.w = .ok (.pointer (some ((base.add off).add g.off))) c.w := by
            simp [Instr.fieldAt, run_underlying hd, hfe, Instr.sureAddr, fieldPlace, run_sizeOf hti, hsz, hz, hf3]
          refine ⟨_, hrun, ?_⟩
          rw [add_add]
          have he : r = x.shift g.off := by
            cases x <;> simp_all [AV.shift, row]
          rw [he]
          exact hsh g.off
      · cases h
    · cases h
  · cases h

theorem run_ofCells {agg : Bool} {t : TypeId} {ti : TypeInfo} {d : TypeDesc} {cs : List AV} {vs : Array Value} {off size : Nat} {r : AV} (hr : Reps c cs vs.toList) (h : ofCells agg cs off size = some r)
    (hti : P.info? t = some ti) (hsz : ti.size = size) (hag : aggD d = agg) (hd : P.underlying t = some d) :
    ∃ u, (part t vs off).run P c.w = .ok u c.w ∧ Rep c r u := by
  unfold ofCells at h
  unfold part
  simp only [Sem.run_bind, run_isAgg hd, Result.andThen_ok]
  rw [hag]
  cases agg with
  | true =>
    simp only [if_true, Option.ite_none_right_eq_some, Option.some.injEq] at h ⊢
    obtain ⟨hle, rfl⟩ := h
    simp only [Sem.run_bind, run_sizeOf hti, Result.andThen_ok, Sem.run_pure, hsz]
    refine ⟨_, rfl, .agg _ _ ?_⟩
    rw [Array.toList_extract]
    have := (hr.drop off).take size
    simpa [List.extract_eq_drop_take] using this
  | false =>
    simp only [Bool.false_eq_true, if_false] at h ⊢
    obtain ⟨u, hu, hru⟩ := hr.get h
    have : vs[off]? = some u := by simpa using hu
    simp only [this]
    exact ⟨u, rfl, hru⟩

theorem info_ofCells {t : TypeId} {i : TInfo} (ht : tb t = some i) {cs : List AV} {vs : Array Value} {off : Nat} {r : AV} (hr : Reps c cs vs.toList) (h : ofCells i.kind.agg cs off i.size = some r) :
    ∃ u, (part t vs off).run P c.w = .ok u c.w ∧ Rep c r u := by
  have hI := hT.get ht
  unfold ofCells at h
  unfold part
  simp only [Sem.run_bind, hI.agg, Result.andThen_ok]
  cases hag : i.kind.agg with
  | true =>
    simp only [hag, if_true, Option.ite_none_right_eq_some, Option.some.injEq] at h ⊢
    obtain ⟨hle, rfl⟩ := h
    simp only [Sem.run_bind, hI.size, Result.andThen_ok, Sem.run_pure]
    refine ⟨_, rfl, .agg _ _ ?_⟩
    rw [Array.toList_extract]
    have := (hr.drop off).take i.size
    simpa [List.extract_eq_drop_take] using this
  | false =>
    simp only [hag, Bool.false_eq_true, if_false] at h ⊢
    obtain ⟨u, hu, hru⟩ := hr.get h
    have : vs[off]? = some u := by simpa using hu
    simp only [this]
    exact ⟨u, rfl, hru⟩

theorem run_afield {t : TypeId} {x r : AV} {v : Value} {f : Nat} (hr : Rep c x v) (h : afield tb t x f = some r) : ∃ u, (Instr.field t v f).run P c.w = .ok u c.w ∧ Rep c r u := by
  unfold afield at h
  split at h
  · rename_i i cs ht
    split at h
    · rename_i fs hk
      obtain ⟨d, hd, hkb⟩ := (hT.get ht).desc
      rw [hk] at hkb
      cases d <;> simp [kindB] at hkb
      rename_i fields
      cases hg : fs[f]? with
      | none => simp [hg] at h
      | some g =>
        rw [hg] at h
        simp only [Option.bind_some] at h
        obtain ⟨fl, hf1, hf2, hf3, _, ti, d', hti, hd', hsz, hag⟩ := fields_get hkb hg
        have hfe : fields[f]? = some fl := by simpa using hf1
        cases hr with
        | agg cs vs hrs =>
          obtain ⟨u, hu, hru⟩ := run_ofCells hT hi hrs h hti hsz hag hd'
          exact ⟨u, by simp [Instr.field, run_underlying hd, hfe, asAgg, hf3, hu], hru⟩
    · cases h
  · cases h

theorem run_aindex {t : TypeId} {x ix r : AV} {v y : Value} (hr : Rep c x v) (hx : Rep c ix y) (h : aindex tb t x ix = some r) : ∃ u, (Instr.index t v y).run P c.w = .ok u c.w ∧ Rep c r u := by
  unfold aindex at h
  split at h
  · rename_i i k n ht
    cases hx with
    | sc v0 hp =>
    split at h
    · cases h
    · rename_i hn
      obtain ⟨d, hd, hkb⟩ := (hT.get ht).desc
      have h0 : 0 ≤ n := by omega
      split at h
      · rename_i s hk
        rw [hk] at hkb
        cases d <;> simp [kindB] at hkb
        cases hr with
        | sc v1 hp1 =>
        cases hb : s[n.toNat]? with
        | none => simp [hb] at h
        | some b =>
          simp only [hb, Option.map_some, Option.some.injEq] at h
          subst h
          refine ⟨.int .u8 b.toNat, ?_, .sc _ rfl⟩
          simp [Instr.index, asIntOf, run_underlying hd, h0, hb]
      · rename_i m0 e0 cs0 hk
        rw [hk] at hkb
        cases d <;> simp [kindB] at hkb
        obtain ⟨rfl, rfl⟩ := hkb
        rename_i m e
        split at h
        · rename_i hlt
          split at h
          · rename_i q he
            cases hr with
            | agg cs vs hrs =>
            obtain ⟨u, hu, hru⟩ := info_ofCells hT hi he hrs h
            exact ⟨u, by simp [Instr.index, asIntOf, run_underlying hd, h0, hlt, (hT.get he).size, hu], hru⟩
          · cases h
        · cases h
      · cases h
  · cases h

/-- a slice that is read: its length, its cells -/
theorem slice_cells {k : Nat} {x : AV} {v : Value} (hr : Rep c x v) {n : Nat} {cs : List AV} (h : sliceOf k c.st x = some (n, cs)) :
    ∃ A cap vs, v = .slice A n cap ∧ n ≤ cap ∧ n ≤ 9223372036854775807 ∧ Reps c cs vs ∧ vs.length = n * k ∧ (∀ j u, vs[j]? = some u → ∃ ad, A = some ad ∧ c.w.cell? (ad.add j) = some u) ∧ (0 < n → ∃ ad, A = some ad ∧ ad.spot = none) := by
  unfold sliceOf at h
  split at h
  · rename_i n' cs'
    simp only [Option.ite_none_right_eq_some, Option.some.injEq, Prod.mk.injEq] at h
    obtain ⟨hl, rfl, rfl⟩ := h
    cases hr with
    | lst n cs A cap vs hn hrs hb hx =>
      refine ⟨A, cap, vs, rfl, hn, hb, hrs, by rw [← hrs.length, hl], fun j u hu => ?_, fun hp => (by
        rcases hx with ⟨h0, _⟩ | ⟨ad, hA, hs, _, _⟩
        · omega
        · exact ⟨ad, hA, hs⟩)⟩
      rcases hx with ⟨_, rfl⟩ | ⟨ad, hA, _, _, hc⟩
      · have := hrs.length
        simp at this
        have h6 : vs = [] := List.eq_nil_of_length_eq_zero this.symm
        rw [h6] at hu
        simp at hu
      · exact ⟨ad, hA, hc j u hu⟩
  · simp only [Option.some.injEq, Prod.mk.injEq] at h
    obtain ⟨rfl, rfl⟩ := h
    cases hr with
    | sc v hp => exact ⟨none, 0, [], rfl, Nat.le_refl _, by omega, .nil, by simp, fun j u hu => (by simp at hu), fun h => (by omega)⟩
  · rename_i id ver off len
    cases hr with
    | own id ver off len v ho hid hle hx =>
    split at h
    · rename_i e k' ver' n' cs' hq
      simp only [Option.ite_none_right_eq_some, Option.some.injEq, Prod.mk.injEq] at h
      obtain ⟨⟨rfl, rfl, hl⟩, rfl, rfl⟩ := h
      obtain ⟨A, c', vs, rfl, h1, h2, h3, h4, h5⟩ := own_cells (hi.good id _ hq) (hx _ _ _ _ hq) hl
      refine ⟨A, c', vs, rfl, h1, by simp only [maxLen] at h2; omega, h3, h4, fun j u hu => ?_, fun hp => (by obtain ⟨g, hA, _⟩ := h5 hp; exact ⟨_, hA, rfl⟩)⟩
      have hp : 0 < len := by
        rcases Nat.eq_zero_or_pos len with hz | hz
        · subst hz
          have h6 : vs = [] := List.eq_nil_of_length_eq_zero (by simpa using h4)
          rw [h6] at hu
          simp at hu
        · exact hz
      obtain ⟨g, hA, _, hc⟩ := h5 hp
      exact ⟨_, hA, hc j u hu⟩
    · cases h
  · cases h

end
end Go.Abs
