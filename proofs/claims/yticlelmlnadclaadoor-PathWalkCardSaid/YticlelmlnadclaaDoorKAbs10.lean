/-
  Slice literals, make, append, maps, bytes and strings. Lemmas alone; no condition.
-/
import Derived.Test.YticlelmlnadclaaDoorKAbs9
set_option linter.unusedVariables false
set_option linter.unusedSimpArgs false
set_option linter.unusedSectionVars false
set_option linter.unnecessarySimpa false
set_option linter.deprecated false
namespace Go.Abs
open Go

theorem setCells_length : ∀ (l cs : List AV) (off : Nat), (setCells cs off l).length = cs.length
  | [], cs, off => rfl
  | v :: l, cs, off => by simp [setCells, setCells_length l]

theorem fillA_length {place : Nat → Option (Nat × Nat)} : ∀ {ps : List (Nat × AV)} {cs rs : List AV}, fillA place cs ps = some rs → rs.length = cs.length
  | [], cs, rs, h => by simp [fillA] at h; rw [h]
  | (i, v) :: ps, cs, rs, h => by
    simp only [fillA] at h
    split at h
    · cases h
    · split at h
      · cases h
      · rw [fillA_length h, setCells_length]

section
variable {P : Program} {tb : Tb} (hT : TbOk P tb) {c : Cx} (hi : Inv c)
include hi hT

theorem flat_len {e : TypeId} {q : TInfo} (he : tb e = some q) (n : Nat) : (List.replicate n q.zero).flatten.length = n * q.size := by
  obtain ⟨ti, h1, h2, h3, z, h4, h5, h6, h7⟩ := (hT.get he).info
  simp [h6]

theorem ends_buildSlice {t e : TypeId} {i q : TInfo} {len : Nat} (ht : tb t = some i) (hk : i.kind = .slice e) (he : tb e = some q) (hsmall : len * q.size ≤ 16777216) (hpos : q.size ≠ 0) {ps : List (Nat × AV)} {qs : Array (Nat × Value)}
    (hr : RepParts c ps qs.toList) {cs : List AV} (h : fillA (fun j => some (j * q.size, q.size)) (List.replicate len q.zero).flatten ps = some cs) :
    Ends P c (Instr.buildSlice t len qs) (.own c.st.length 0 0 len) (c.st ++ [.arr e q.size 0 len (cs.map nil1)]) ∧ Ends P c (Instr.buildSlice t len qs) (.lst len (cs.map nil1)) c.st := by
  have hlen : cs.length = len * q.size := by rw [fillA_length h, flat_len hT hi he]
  have hlm : len ≤ 16777216 := Nat.le_trans (Nat.le_mul_of_pos_right _ (by omega)) hsmall
  have key : ∃ cur, (Instr.buildSlice t len qs).run P c.w = .ok (.slice (some ⟨c.w.heap.size, 0, none⟩) len len) (c.w.alloc (.cells cur e)) ∧ Reps c cs cur.toList := by
    by_cases hl : len = 0
    · subst hl
      obtain ⟨d, hd, hkb⟩ := (hT.get ht).desc
      rw [hk] at hkb
      cases d <;> simp [kindB] at hkb
      subst hkb
      obtain ⟨ti, g1, g2, _⟩ := (hT.get he).info
      have hcs : cs = [] := List.eq_nil_of_length_eq_zero (by simpa using hlen)
      subst hcs
      cases ps with
      | nil =>
        cases hq : qs.toList with
        | nil =>
          refine ⟨#[], ?_, .nil⟩
          simp [Instr.buildSlice, run_underlying hd, sizeOf, typeInfo, g1, hq, Instr.fill, newRow]
          congr 2
          simp [Array.range]
        | cons x l => rw [hq] at hr; exact hr.elim
      | cons x l =>
        obtain ⟨j, a⟩ := x
        simp only [fillA] at h
        split at h
        · cases h
        · rename_i hcond
          simp at hcond
          omega
    · exact buildSlice_run hT hi ht hk he hsmall hpos hr h hl
  obtain ⟨cur, hrun, hrc⟩ := key
  have hcl : cur.size = len * q.size := by rw [← hlen]; simpa using hrc.length.symm
  have hrn : Reps c (cs.map nil1) cur.toList := hrc.map fun h => h.nil1
  refine ⟨ends_arr hi hrn (by omega) hcl (by simp only [maxLen]; omega) hrun, ?_⟩
  refine ends_lst hi hrn (fun j u hu => by rw [cell_of_row _ _ j cur e (0, 0) (heap_alloc_new c.w _)]; simpa using hu) (Nat.le_refl _) (by omega) (w' := c.w.alloc (.cells cur e)) ?_ hrun
  exact ⟨rfl, rfl, rfl, by simp, fun k hk => heap_alloc_old c.w _ k hk, fun k hk => by subst hk; simp⟩

theorem ends_makeSlice {t e : TypeId} {i q : TInfo} {k k' : IntKind} {n : Int} (ht : tb t = some i) (hk : i.kind = .slice e) (he : tb e = some q) (h0 : 0 ≤ n) (hn : n ≤ 140737488355328) (hb : n.toNat * q.bytes ≤ maxBytes) (hpos : q.size ≠ 0) :
    Ends P c (Instr.makeSlice t (.int k n) (.int k' n)) (.own c.st.length 0 0 n.toNat) (c.st ++ [.arr e q.size 0 n.toNat (List.replicate n.toNat q.zero).flatten]) := by
  obtain ⟨d, hd, hkb⟩ := (hT.get ht).desc
  rw [hk] at hkb
  cases d <;> simp [kindB] at hkb
  subst hkb
  obtain ⟨ie, z, h1, h2, h3, h4, h5, h6⟩ := zero_flat hT hi he n.toNat
  have hrun := run_make (P := P) c.w t _ ie z hd h1 h4 k k' n n h0 (Int.le_refl _) (by
    have : ((n.toNat * q.bytes : Nat) : Int) ≤ 140737488355328 := by simp only [maxBytes] at hb; omega
    rw [Int.natCast_mul, Int.toNat_of_nonneg h0, ← h3] at this
    rw [Int.mul_comm]; omega) (by omega)
  rw [h2] at hrun
  exact ends_arr hi h6 (by omega) (by simp) (by simp only [maxLen]; omega) hrun

theorem append_u {t u ty e e' : TypeId} (ht : P.underlying t = some (.slice e)) (hu : P.underlying u = some (.slice e')) (s x : Value) (w : World) :
    (Builtin.append_ #[t, u] ty #[s, x]).run P w = (Builtin.append_ #[t, t] ty #[s, x]).run P w := by
  cases s <;> simp [Builtin.append_, run_underlying ht, run_underlying hu]

/-- the source of an append: cells that are read, or none at all -/
theorem append_src {t ty e : TypeId} {q : TInfo} (he : tb e = some q) (ht : P.underlying t = some (.slice e)) {x : AV} {xv : Value} (hx : Rep c x xv) {m : Nat} {ys : List AV} (hs : sliceOf q.size c.st x = some (m, ys)) (hone : ys.all AV.one = true)
    (hpos : 0 < q.size) (hbp : 0 < q.bytes) {v : Value} {n : Nat} {xs : List Value} (hown : c.w.ownsRow 0 e q.size v n xs) (hb : (n + m) * q.bytes ≤ maxBytes) :
    ∃ us v' w', Reps c ys us ∧ (Builtin.append_ #[t, t] ty #[v, xv]).run P c.w = .ok v' w' ∧ w'.ownsRow 0 e q.size v' (n + m) (xs ++ us) ∧ c.w.grownBy w' v.ownBlock ∧
      (v' = .slice none 0 0 ↔ v = .slice none 0 0 ∧ m = 0) ∧ (v'.ownBlock = v.ownBlock ∨ v'.ownBlock = some c.w.heap.size) := by
  obtain ⟨A, cap, vs, rfl, h1, h2, h3, h4, h5, _⟩ := slice_cells hT hi hx hs
  obtain ⟨ti, g1, g2, g3, z, g4, g5, g6, g7⟩ := (hT.get he).info
  have hzs : z.cells.size = q.size := by have := (zero_reps (c := c) g5).length; rw [g6] at this; simpa using this.symm
  have hnl : n + m ≤ maxLen := by
    rcases hown.2 with ⟨_, h0⟩ | ⟨g, cap', cur, _, _, _, _, _, _⟩
    · subst h0; simp only [maxLen]; omega
    · have : n + m ≤ (n + m) * q.bytes := Nat.le_mul_of_pos_right _ hbp
      simp only [maxBytes, maxLen] at *; omega
  cases A with
  | some ad =>
    obtain ⟨v', w', r1, r2, r3, r4, r5⟩ := run_append_own_at (P := P) c.w 0 t ty e ti z q.size q.bytes ht g1 g4 g2 g3 hzs hpos v n xs hown ad m cap vs h4
      (fun j u hu => by obtain ⟨ad', ha, hc⟩ := h5 j u hu; cases ha; exact hc) (h3.one hone) hnl hb (Nat.zero_le _)
    exact ⟨vs, v', w', h3, r1, r2, r3, r4, r5⟩
  | none =>
    have hv : vs = [] := by
      cases vs with
      | nil => rfl
      | cons u us => obtain ⟨ad, ha, _⟩ := h5 0 u rfl; cases ha
    subst hv
    have hm : m = 0 := by
      have h6 : m * q.size = 0 := by simpa using h4.symm
      rcases Nat.mul_eq_zero.1 h6 with h | h
      · exact h
      · omega
    subst hm
    refine ⟨[], v, c.w, h3, ?_, by simpa using hown, ⟨rfl, rfl, rfl, Nat.le_refl _, fun _ _ _ => rfl⟩, by simp, .inl rfl⟩
    rcases hown.2 with ⟨rfl, h0⟩ | ⟨g, cap', cur, rfl, _, _, hnc, _⟩
    · simp [Builtin.append_, run_underlying ht, sizeOf, typeInfo, g1, Builtin.lenOf, Builtin.firstCells]
    · simp [Builtin.append_, run_underlying ht, sizeOf, typeInfo, g1, Builtin.lenOf, Builtin.firstCells, hnc, storeCells]

theorem ends_append_own {t ty e : TypeId} {q : TInfo} (he : tb e = some q) (ht : P.underlying t = some (.slice e)) {x : AV} {xv : Value} (hx : Rep c x xv) {m : Nat} {ys : List AV}
    (hs : sliceOf q.size c.st x = some (m, ys)) (hone' : ys.all AV.one = true) (hbp : 0 < q.bytes) {id k ver n len c0 n' : Nat} {cs : List AV} {A : Option Addr} (hk : k = q.size) (hq : c.st[id]? = some (.arr e k ver n cs)) (hid : id < c.st.length) (hln : len ≤ n)
    (hio : c.io id = .slice A n' c0) (hb : (len + m) * q.bytes ≤ maxBytes) {s : Sem Value}
    (hrw : ∀ {v' : Value} {w' : World}, (Builtin.append_ #[t, t] ty #[.slice A len c0, xv]).run P c.w = .ok v' w' → s.run P c.w = .ok v' w') :
    Ends P c s (.own id (ver + 1) 0 (len + m)) (c.st.set id (.arr e k (ver + 1) (len + m) (cs.take (len * k) ++ ys))) := by
  subst hk
  obtain ⟨vs, g1, g2, g3⟩ := hi.good id _ hq
  have hmul : len * q.size ≤ n * q.size := Nat.mul_le_mul_right _ hln
  have hown : c.w.ownsRow 0 e q.size (.slice A len c0) len (vs.take (len * q.size)) := by
    have hvl : vs.length = n * q.size := g1.1
    refine ⟨by rw [List.length_take]; omega, ?_⟩
    rcases g1.2 with ⟨h, h0⟩ | ⟨g, cap, cur, h, hb0, hgg, hnc, hcm, hcs, htk⟩
    · rw [hio] at h
      cases h
      exact .inl ⟨by rw [show len = 0 by omega], by omega⟩
    · rw [hio] at h
      cases h
      exact .inr ⟨g, _, cur, rfl, hb0, hgg, by omega, hcm, hcs, by rw [← htk, List.take_take, Nat.min_eq_left hmul]⟩
  obtain ⟨us, v', w', k1, k2, k3, k4, k5, k6⟩ := append_src hT hi (ty := ty) he ht hx hs hone' g3 hbp hown hb
  have hob : (Value.slice A len c0).ownBlock = blk (c.io id) := by rw [hio]; cases A <;> rfl
  have hbv : ∀ g, blk v' = some g → v'.ownBlock = some g := by
    intro g hg
    rcases k3.2 with ⟨rfl, _⟩ | ⟨g', cap, cur, rfl, _⟩
    · simp [blk] at hg
    · simpa [blk, Value.ownBlock] using hg
  have hU : Upd c id (.arr e q.size ver n cs) (.arr e q.size (ver + 1) (len + m) (cs.take (len * q.size) ++ ys)) w' v' :=
    { ho := hq, os := k4.os, tape := k4.tape, output := k4.output, size := k4.size, heap := fun j hj hne => k4.block j hj (by rw [hob]; exact hne),
      ver := ⟨ver, ver + 1, rfl, rfl, Nat.le_succ _, fun h => by omega⟩, arr := fun _ _ _ _ _ h h2 => (by cases h; simp [AObj.ver?] at h2),
      blk := fun j hj => by
        have h1 := hbv j hj
        rcases k6 with h2 | h2
        · rw [h1, hob] at h2; exact .inl h2.symm
        · rw [h1] at h2
          have hlt := (k3.lt j h1).2
          injection h2 with h2
          exact .inr ⟨by omega, hlt⟩ }
  refine ⟨c.upd id _ w' v', v', hrw k2, rfl, hU.inv hi ⟨_, by simpa [Cx.upd] using k3, ((g2.take _).append k1).step (hU.step hi) hi, g3⟩, hU.step hi, .own id (ver + 1) 0 (len + m) _ ?_ (by simpa [Cx.upd] using hid) ?_ ?_⟩
  · rcases k3.2 with ⟨rfl, _⟩ | ⟨g', cap, cur, rfl, _⟩ <;> rfl
  · intro v0 hv0
    rw [upd_ver_eq hid] at hv0
    simp [AObj.ver?] at hv0
    omega
  · intro e3 k3' n3 cs3 hq3
    simp only [Cx.upd, List.getElem?_set, hid, if_true] at hq3
    cases hq3
    rcases k3.2 with ⟨rfl, h0⟩ | ⟨g', cap, cur, rfl, _, _, hcc, _⟩
    · exact ⟨none, 0, 0, by simp [Cx.upd], by omega, none, 0, by rw [h0], by omega, Nat.le_refl _, fun _ => ⟨rfl, rfl⟩, fun h => by omega⟩
    · exact ⟨some ⟨g', 0, none⟩, len + m, cap, by simp [Cx.upd], by omega, _, _, rfl, hcc, Nat.le_refl _, fun _ => ⟨rfl, rfl⟩, fun _ => ⟨g', rfl, by simp⟩⟩

theorem ends_append {t u ty e e' : TypeId} {q : TInfo} (he : tb e = some q) (ht : P.underlying t = some (.slice e)) (hu : P.underlying u = some (.slice e')) {s x r : AV} {sv xv : Value} (hsr : Rep c s sv) (hx : Rep c x xv) {news : Nat × List AV}
    (hs : sliceOf q.size c.st x = some news) {st' : Store} (h : aappend tb c.st e s news = some (r, st')) : Ends P c (Builtin.append_ #[t, u] ty #[sv, xv]) r st' := by
  obtain ⟨m, ys⟩ := news
  unfold aappend at h
  rw [he] at h
  dsimp only at h
  split at h
  · cases h
  · rename_i hcond
    simp only [not_or] at hcond
    obtain ⟨hyl, hone, hz, hz2⟩ := hcond
    have hbp : 0 < q.bytes := by omega
    have hone' : ys.all AV.one = true := by simpa using hone
    have hpos : 0 < q.size := by omega
    have hrw : ∀ {v' : Value} {w' : World}, (Builtin.append_ #[t, t] ty #[sv, xv]).run P c.w = .ok v' w' → (Builtin.append_ #[t, u] ty #[sv, xv]).run P c.w = .ok v' w' := fun hh => by rw [append_u hT hi ht hu]; exact hh
    split at h
    · cases hsr
      split at h
      · rename_i hm
        simp only [Option.some.injEq, Prod.mk.injEq] at h
        obtain ⟨rfl, rfl⟩ := h
        subst hm
        obtain ⟨us, v', w', k1, k2, k3, k4, k5, k6⟩ := append_src hT hi (ty := ty) he ht hx hs hone' hpos hbp (World.ownsRow_nil c.w 0 e q.size) (by simp [maxBytes])
        have hv' := k5.2 ⟨rfl, rfl⟩
        subst hv'
        have hg : Grow c w' (fun _ => False) := ⟨k4.os, k4.tape, k4.output, k4.size, fun k hk => k4.block k hk (by simp [Value.ownBlock]), fun _ h => h.elim⟩
        exact ⟨c.grow w' _, _, hrw k2, rfl, hg.inv hi, hg.step, .sc _ rfl⟩
      · rename_i hm
        simp only [Option.ite_none_right_eq_some, Option.some.injEq, Prod.mk.injEq] at h
        obtain ⟨hb, rfl, rfl⟩ := h
        obtain ⟨us, v', w', k1, k2, k3, k4, k5, k6⟩ := append_src hT hi (ty := ty) he ht hx hs hone' hpos hbp (World.ownsRow_nil c.w 0 e q.size) (by simpa using hb)
        simp only [Nat.zero_add, List.nil_append] at k3
        obtain ⟨g, cap, rfl, hg0, hgl⟩ : ∃ g cap, v' = .slice (some ⟨g, 0, none⟩) m cap ∧ g = c.w.heap.size ∧ g < w'.heap.size := by
          rcases k3.2 with ⟨_, h0⟩ | ⟨g, cap, cur, rfl, _, hgg, _⟩
          · omega
          · refine ⟨g, cap, rfl, ?_, (Array.getElem?_eq_some_iff.1 hgg).1⟩
            simpa [Value.ownBlock] using k6
        have hp : Push c w' (.arr e q.size 0 m ys) (.slice (some ⟨g, 0, none⟩) m cap) :=
          ⟨⟨k4.os, k4.tape, k4.output, k4.size, fun k hk => k4.block k hk (by simp [Value.ownBlock]), fun _ h => h.elim⟩, fun k hk => by simp only [blk, Option.some.injEq] at hk; omega⟩
        refine ⟨c.push w' _ _, _, hrw k2, rfl, hp.inv hi ⟨us, by simpa [Cx.push] using k3, k1.step hp.step hi, hpos⟩, hp.step, .own _ 0 0 m _ rfl (by simp [Cx.push]) (fun v0 _ => Nat.zero_le _) fun e2 k2 n2 cs2 hq => ?_⟩
        have : (c.push w' (.arr e q.size 0 m ys) (.slice (some ⟨g, 0, none⟩) m cap)).st[c.st.length]? = some (.arr e q.size 0 m ys) := by simp [Cx.push]
        rw [this] at hq
        cases hq
        have hcap : m ≤ cap := by
          rcases k3.2 with ⟨h, _⟩ | ⟨_, _, _, h, _, _, hh, _⟩
          · cases h
          · cases h; exact hh
        exact ⟨_, m, cap, by simp [Cx.push], by omega, _, _, rfl, hcap, Nat.le_refl _, fun _ => ⟨rfl, rfl⟩, fun _ => ⟨g, rfl, by simp⟩⟩
    · rename_i id ver off len
      cases hsr with
      | own id ver off len v ho hid hle hxp =>
      split at h
      · rename_i e2 k ver' n cs hq
        simp only [Option.ite_none_right_eq_some, Option.some.injEq, Prod.mk.injEq] at h
        obtain ⟨⟨rfl, rfl, hln, rfl, rfl, hb⟩, rfl, rfl⟩ := h
        obtain ⟨A, n', c0, hio, hn', A', c', rfl, hc1, hc2, hz0, hpp⟩ := hxp _ _ _ _ hq
        obtain ⟨rfl, rfl⟩ := hz0 rfl
        exact ends_append_own hT hi he ht hx hs hone' hbp rfl hq hid hln hio hb hrw
      · cases h
    · cases h

end
end Go.Abs
