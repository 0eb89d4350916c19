/-
  Operations that leave the store as it is, further: addresses of elements, cuts, lengths, arithmetic, comparisons. Lemmas alone; no condition.
-/
import Derived.Test.YticlelmlnadclaaDoorKAbs5
set_option linter.unusedVariables false
set_option linter.unusedSimpArgs false
set_option linter.unusedSectionVars false
set_option linter.unnecessarySimpa false
set_option linter.deprecated false
namespace Go.Abs
open Go

section
variable {P : Program} {tb : Tb} (hT : TbOk P tb) {c : Cx} (hi : Inv c)
include hT hi

omit hT hi in
theorem sliceOf_own {k id ver off len n : Nat} {st : Store} {cs : List AV} (h : sliceOf k st (.own id ver off len) = some (n, cs)) :
    ∃ e n0 cs0, st[id]? = some (.arr e k ver n0 cs0) ∧ off + len ≤ n0 ∧ n = len ∧ cs = (cs0.drop (off * k)).take (len * k) := by
  unfold sliceOf at h
  dsimp only at h
  split at h
  · rename_i e k' ver' nn cs'' hq
    simp only [Option.ite_none_right_eq_some, Option.some.injEq, Prod.mk.injEq] at h
    obtain ⟨⟨rfl, rfl, hl⟩, rfl, rfl⟩ := h
    exact ⟨_, _, _, hq, hl, rfl, rfl⟩
  · cases h

theorem run_aindexAddr {t : TypeId} {x ix r : AV} {v y : Value} (hr : Rep c x v) (hx : Rep c ix y) (h : aindexAddr tb c.st t x ix = some r) :
    ∃ u, (Instr.indexAt t v y).run P c.w = .ok u c.w ∧ Rep c r u := by
  unfold aindexAddr at h
  split at h
  · rename_i i k n ht
    cases hx with
    | sc v0 hp =>
    split at h
    · cases h
    · rename_i hn
      obtain ⟨d, hd, hkb⟩ := (hT.get ht).desc
      have h0 : 0 ≤ n := by omega
      split at h
      · have hk := ‹i.kind = TK.slice _›
        rename_i id ver off len _
        rw [hk] at hkb
        cases d <;> simp [kindB] at hkb
        subst hkb
        rename_i e
        split at h
        · rename_i q he
          split at h
          · rename_i nc hs
            obtain ⟨n', cs'⟩ := nc
            split at h
            · rename_i hlt
              simp only [Option.some.injEq] at h
              subst h
              obtain ⟨A, cap, vs, rfl, h1, h2, h3, h4, h5, _⟩ := slice_cells hT hi hr hs
              obtain ⟨e', nn, cs'', hq, hl, rfl, rfl⟩ := sliceOf_own hs
              cases hr with
              | own id ver off len v ho hid hle hx =>
                obtain ⟨A0, n0, c0, hh, hn0, A', c', he', hc1, hc2, _, hpos⟩ := hx _ _ _ _ hq
                cases he'
                obtain ⟨g, hA, rfl⟩ := hpos (by omega)
                refine ⟨.pointer (some ((⟨g, off * q.size, none⟩ : Addr).add (n.toNat * q.size))), ?_, ?_⟩
                · simp [Instr.indexAt, asIntOf, run_underlying hd, h0, hlt, (hT.get he).size]
                · rw [addo, ← Nat.add_mul]
                  exact .ref id ver _ _ rfl hid hle (fun _ => ⟨g, by rw [hh, hA]; rfl, rfl⟩)
            · cases h
          · cases h
        · cases h
      · rename_i m cs _
        have hk := ‹i.kind = TK.slice _›
        rw [hk] at hkb
        cases d <;> simp [kindB] at hkb
        subst hkb
        rename_i e
        split at h
        · rename_i q he
          simp only [Option.ite_none_right_eq_some, Option.some.injEq] at h
          obtain ⟨⟨hl, hlt⟩, rfl⟩ := h
          cases hr with
          | lst n0 cs A cap vs hn0 hrs hb hx =>
            rcases hx with ⟨rfl, _⟩ | ⟨ad, rfl, hs, hf, hc⟩
            · omega
            · exact ⟨.pointer (some (ad.add (n.toNat * q.size))), by simp [Instr.indexAt, asIntOf, run_underlying hd, h0, hlt, (hT.get he).size], .fp cs _ ad vs hrs hs hf hc⟩
        · cases h
      · have hk := ‹i.kind = TK.array _ _›
        rw [hk] at hkb
        cases d <;> simp [kindB] at hkb
        obtain ⟨rfl, rfl⟩ := hkb
        rename_i m e
        split at h
        · rename_i q ro he hro
          obtain ⟨cs, off⟩ := ro
          split at h
          · rename_i hlt
            obtain ⟨base, vs, rfl, hvs, hc, hsh⟩ := row_cells' hi hr hro
            refine ⟨.pointer (some ((base.add off).add (n.toNat * q.size))), by simp [Instr.indexAt, asIntOf, run_underlying hd, h0, hlt, (hT.get he).size, Instr.sureAddr], ?_⟩
            rw [add_add]
            split at h
            · simp only [Option.some.injEq] at h
              subst h
              exact hsh _
            · simp only [Option.some.injEq] at h
              subst h
              exact hsh _
            · cases h
          · cases h
        · cases h
      · cases h
  · cases h

omit hT hi in
theorem natOf_run {m : Nat} {x : AV} {v : Value} {n : Nat} (hr : Rep c x v) (h : natOf m x = some n) (code : BoundsCode) (w : World) :
    (Instr.sliceBound v m code).run P w = .ok n w ∧ n ≤ m := by
  unfold natOf at h
  split at h
  · rename_i k q
    simp only [Option.ite_none_right_eq_some, Option.some.injEq] at h
    obtain ⟨⟨h0, h1⟩, rfl⟩ := h
    cases hr with
    | sc v hp => exact ⟨by simp [Instr.sliceBound, asIntOf, h0, h1], by omega⟩
  · cases h

/-- an operand that may be missing -/
def RepO (c : Cx) : Option AV → Option Value → Prop
  | none, none => True
  | some a, some v => Rep c a v
  | _, _ => False

omit hT hi in
theorem bounds_run {isS : Bool} {len cap : Nat} (hc : len ≤ cap) {lo hi' : Option AV} {vlo vhi : Option Value} (h1 : RepO c lo vlo) (h2 : RepO c hi' vhi) {l h : Nat} (hb : bounds len lo hi' = some (l, h)) (w : World) :
    (Instr.sliceBounds isS len cap vlo vhi none).run P w = .ok (l, h, cap) w ∧ l ≤ h ∧ h ≤ len := by
  unfold bounds at hb
  split at hb
  · cases hb
  · rename_i h' hh
    split at hb
    · cases hb
    · rename_i l' hl
      simp only [Option.some.injEq, Prod.mk.injEq] at hb
      obtain ⟨rfl, rfl⟩ := hb
      have hhi : (∀ code, ∀ v, vhi = some v → (Instr.sliceBound v cap code).run P w = .ok h' w) ∧ (vhi = none → h' = len) ∧ h' ≤ len := by
        cases hi' with
        | none =>
          cases vhi with
          | none => simp at hh; subst hh; exact ⟨fun _ v hv => (by cases hv), fun _ => rfl, Nat.le_refl _⟩
          | some v => exact h2.elim
        | some a =>
          cases vhi with
          | none => exact h2.elim
          | some v =>
            simp only at hh
            refine ⟨fun code v' hv => ?_, fun hv => (by cases hv), (natOf_run (P := P) h2 hh .index w).2⟩
            cases hv
            have hle := (natOf_run (P := P) h2 hh code w).2
            have : natOf cap a = some h' := by
              unfold natOf at hh ⊢
              split at hh
              · rename_i k q
                simp only [Option.ite_none_right_eq_some, Option.some.injEq] at hh ⊢
                exact ⟨⟨hh.1.1, by omega⟩, hh.2⟩
              · cases hh
            exact (natOf_run h2 this code w).1
      have hlo : (∀ code, ∀ v, vlo = some v → (Instr.sliceBound v h' code).run P w = .ok l' w) ∧ (vlo = none → l' = 0) ∧ l' ≤ h' := by
        cases lo with
        | none =>
          cases vlo with
          | none => simp at hl; subst hl; exact ⟨fun _ v hv => (by cases hv), fun _ => rfl, Nat.zero_le _⟩
          | some v => exact h1.elim
        | some a =>
          cases vlo with
          | none => exact h1.elim
          | some v =>
            simp only at hl
            refine ⟨fun code v' hv => ?_, fun hv => (by cases hv), (natOf_run (P := P) h1 hl .index w).2⟩
            cases hv
            exact (natOf_run h1 hl code w).1
      refine ⟨?_, hlo.2.2, hhi.2.2⟩
      cases vhi with
      | none =>
        cases vlo with
        | none => simp [Instr.sliceBounds, hhi.2.1 rfl, hlo.2.1 rfl]
        | some v => simp [Instr.sliceBounds, ← hhi.2.1 rfl, hlo.1 _ v rfl]
      | some u =>
        cases vlo with
        | none => simp [Instr.sliceBounds, hhi.1 _ u rfl, hlo.2.1 rfl]
        | some v => simp [Instr.sliceBounds, hhi.1 _ u rfl, hlo.1 _ v rfl]

omit hT hi in
theorem slice_frozen {k : Nat} {x : AV} {v : Value} (hr : Rep c x v) {n : Nat} {cs : List AV} (h : sliceOf k c.st x = some (n, cs)) (hno : ∀ id ver off len, x ≠ .own id ver off len) :
    ∃ A cap vs, v = .slice A n cap ∧ n ≤ cap ∧ n ≤ 9223372036854775807 ∧ Reps c cs vs ∧ (n = 0 ∨ ∃ ad, A = some ad ∧ ad.spot = none ∧ c.fz ad.block ∧ ∀ j u, vs[j]? = some u → c.w.cell? (ad.add j) = some u) := by
  unfold sliceOf at h
  split at h
  · simp only [Option.ite_none_right_eq_some, Option.some.injEq, Prod.mk.injEq] at h
    obtain ⟨hl, rfl, rfl⟩ := h
    cases hr with
    | lst n cs A cap vs hn hrs hb hx => exact ⟨A, cap, vs, rfl, hn, hb, hrs, hx.imp (·.1) id⟩
  · simp only [Option.some.injEq, Prod.mk.injEq] at h
    obtain ⟨rfl, rfl⟩ := h
    cases hr with
    | sc v hp => exact ⟨none, 0, [], rfl, Nat.le_refl _, by omega, .nil, .inl rfl⟩
  · exact absurd rfl (hno _ _ _ _)
  · cases h

theorem run_aslice {t : TypeId} {x r : AV} {lo hi' : Option AV} {v : Value} {vlo vhi : Option Value} (hr : Rep c x v) (h1 : RepO c lo vlo) (h2 : RepO c hi' vhi) (h : aslice tb c.st t x lo hi' = some r) :
    ∃ u, (Instr.sliceAt t v vlo vhi none).run P c.w = .ok u c.w ∧ Rep c r u := by
  unfold aslice at h
  split at h
  · cases h
  · rename_i i ht
    obtain ⟨d, hd, hkb⟩ := (hT.get ht).desc
    split at h
    · rename_i s hk
      rw [hk] at hkb
      cases d <;> simp [kindB] at hkb
      cases hr with
      | sc v0 hp =>
      cases hb : bounds s.size lo hi' with
      | none => simp [hb] at h
      | some lh =>
        obtain ⟨l, hh⟩ := lh
        simp only [hb, Option.map_some, Option.some.injEq] at h
        subst h
        have := (bounds_run (P := P) (isS := false) (Nat.le_refl s.size) h1 h2 hb c.w).1
        exact ⟨.string (s.extract l hh), by simp [Instr.sliceAt, Instr.slice, run_underlying hd, this], .sc _ rfl⟩
    · have hk := ‹i.kind = TK.slice _›
      rw [hk] at hkb
      cases d <;> simp [kindB] at hkb
      subst hkb
      rename_i e
      split at h
      · cases h
      · rename_i q he
        split at h
        · rename_i id ver off len
          split at h
          · rename_i nc hs
            obtain ⟨n', cs'⟩ := nc
            cases hb : bounds len lo hi' with
            | none => simp [hb] at h
            | some lh =>
              obtain ⟨l, hh⟩ := lh
              simp only [hb, Option.map_some, Option.some.injEq] at h
              subst h
              obtain ⟨A, cap, vs, rfl, g1, g2, g3, g4, g5, _⟩ := slice_cells hT hi hr hs
              obtain ⟨e', nn, cs'', hq, hl, rfl, rfl⟩ := sliceOf_own hs
              obtain ⟨hrun, hl1, hl2⟩ := bounds_run (P := P) (isS := true) g1 h1 h2 hb c.w
              cases hr with
              | own id ver off len v ho hid hle hx =>
                obtain ⟨A0, n0, c0, hio, hn0, A', c', he', hc1, hc2, hz, hpos⟩ := hx _ _ _ _ hq
                cases he'
                refine ⟨_, by simp [Instr.sliceAt, Instr.slice, run_underlying hd, hrun, (hT.get he).size]; rfl, ?_⟩
                refine .own id ver (off + l) (hh - l) _ rfl hid hle fun e2 k2 n2 cs2 hq2 => ?_
                rw [hq] at hq2
                cases hq2
                refine ⟨A0, n0, c0, hio, by omega, _, _, rfl, by omega, by omega, fun h0 => ?_, fun hp => ?_⟩
                · have ho0 : off = 0 := by omega
                  have hl0 : l = 0 := by omega
                  subst hl0
                  obtain ⟨rfl, rfl⟩ := hz ho0
                  refine ⟨?_, by omega⟩
                  split
                  · rfl
                  · cases A <;> simp [Addr.add]
                · obtain ⟨g, hA, rfl⟩ := hpos (by omega)
                  refine ⟨g, hA, ?_⟩
                  rw [if_neg (by omega)]
                  simp [addo, ← Nat.add_mul]
          · cases h
        · split at h
          · rename_i n' cs' hs
            cases hb : bounds n' lo hi' with
            | none => simp [hb] at h
            | some lh =>
              obtain ⟨l, hh⟩ := lh
              simp only [hb, Option.map_some, Option.some.injEq] at h
              subst h
              obtain ⟨A, cap, vs, rfl, g1, g2, g3, g5⟩ := slice_frozen hr hs (by assumption)
              obtain ⟨hrun, hl1, hl2⟩ := bounds_run (P := P) (isS := true) g1 h1 h2 hb c.w
              refine ⟨.slice (if cap = l then A else A.map (·.add (l * q.size))) (hh - l) (cap - l), by simp [Instr.sliceAt, Instr.slice, run_underlying hd, hrun, (hT.get he).size], ?_⟩
              refine .lst (hh - l) _ _ (cap - l) ((vs.drop (l * q.size)).take ((hh - l) * q.size)) (by omega) ((g3.drop _).take _) (by omega) ?_
              by_cases hz : hh - l = 0
              · exact .inl ⟨hz, by simp [hz]⟩
              · rcases g5 with rfl | ⟨ad, rfl, hsp, hf, hc⟩
                · omega
                · rw [if_neg (by omega)]
                  refine .inr ⟨ad.add (l * q.size), rfl, ?_, by rw [add_block]; exact hf, fun j u hu => ?_⟩
                  · unfold Addr.add; split
                    · exact hsp
                    · rfl
                  · rw [add_add]
                    refine hc _ u ?_
                    rw [List.getElem?_take] at hu
                    split at hu
                    · rwa [List.getElem?_drop] at hu
                    · cases hu
          · cases h
    · cases h

theorem run_len {t : TypeId} {i : TInfo} {x : AV} {v : Value} {ty : TypeId} {n : Nat} (ht : tb t = some i) (hk : fits i.kind x = true) (hr : Rep c x v) (hn : lenOf c.st x = some n)
    {ts : Array TypeId} {args : Array Value} (hts : ts[0]? = some t) (hargs : args[0]? = some v) : (Builtin.len_ ts ty args).run P c.w = .ok (.int .i64 n) c.w := by
  obtain ⟨d, hd, hkb⟩ := (hT.get ht).desc
  have hs : ∀ {A : Option Addr} {m cap : Nat} {e : TypeId}, d = .slice e → v = .slice A m cap → m = n → (Builtin.len_ ts ty args).run P c.w = .ok (.int .i64 n) c.w := by
    intro A m cap e h1 h2 h3
    subst h1 h2 h3
    simp [Builtin.len_, hts, hargs, run_underlying hd, goInt]
  clear ht
  generalize i.kind = kk at hk hkb
  unfold fits at hk
  split at hk
  · rename_i s
    cases d <;> simp [kindB] at hkb
    cases hr
    simp [lenOf] at hn
    subst hn
    simp [Builtin.len_, hts, hargs, run_underlying hd, goInt]
  · cases d <;> simp [kindB] at hkb
    cases hr
    simp [lenOf] at hn
    exact hs rfl rfl hn
  · rename_i m cs
    cases d <;> simp [kindB] at hkb
    cases hr
    simp [lenOf] at hn
    exact hs rfl rfl hn
  · cases d <;> simp [kindB] at hkb
    cases hr with
    | own id ver off len v ho hid hle hx =>
      simp only [lenOf] at hn
      split at hn
      · rename_i e k ver' n' cs hq
        simp only [Option.ite_none_right_eq_some, Option.some.injEq] at hn
        obtain ⟨⟨rfl, hl⟩, rfl⟩ := hn
        obtain ⟨A, n0, c0, _, _, A', c', rfl, _⟩ := hx _ _ _ _ hq
        exact hs rfl rfl rfl
      · cases hn
  · cases d <;> simp [kindB] at hkb
    cases hr
    simp [lenOf] at hn
    subst hn
    simp [Builtin.len_, hts, hargs, run_underlying hd, goInt]
  · rename_i id
    cases d <;> simp [kindB] at hkb
    cases hr with
    | mref id v ho hid hx =>
      simp only [lenOf] at hn
      split at hn
      · rename_i es hq
        simp only [Option.some.injEq] at hn
        subst hn
        obtain ⟨r, es', clock, h1, h2, h3, h4⟩ := hi.good id _ hq
        have hv := hx (by simp [Cx.ver, hq, AObj.ver?])
        rw [h1] at hv
        subst hv
        have hlen : es.length = es'.size := by simpa using congrArg List.length h3
        simp [Builtin.len_, hts, hargs, run_underlying hd, goInt, getObj, Sem.run, h2, hlen]
      · cases hn
  · cases hk

end
end Go.Abs
