/-
  Lists of values, values without addresses, what is cut off and what is frozen. Lemmas alone; no condition.
-/
import Derived.Test.YticlelmlnadclaaDoorKAbs1
set_option linter.unusedVariables false
set_option linter.unusedSimpArgs false
set_option linter.unusedSectionVars false
set_option linter.unnecessarySimpa false
set_option linter.deprecated false
namespace Go.Abs
open Go

theorem Reps.get {c : Cx} : ∀ {l : List AV} {vs : List Value}, Reps c l vs → ∀ {i : Nat} {a : AV}, l[i]? = some a → ∃ v, vs[i]? = some v ∧ Rep c a v
  | _, _, .nil, i, a, h => by simp at h
  | _, _, .cons a v as vs ha hl, i, b, h => by
    cases i with
    | zero => simp at h; subst h; exact ⟨v, rfl, ha⟩
    | succ i => simp only [List.getElem?_cons_succ] at h ⊢; exact hl.get h

theorem Reps.get' {c : Cx} : ∀ {l : List AV} {vs : List Value}, Reps c l vs → ∀ {i : Nat} {v : Value}, vs[i]? = some v → ∃ a, l[i]? = some a ∧ Rep c a v
  | _, _, .nil, i, a, h => by simp at h
  | _, _, .cons a v as vs ha hl, i, b, h => by
    cases i with
    | zero => simp at h; subst h; exact ⟨a, rfl, ha⟩
    | succ i => simp only [List.getElem?_cons_succ] at h ⊢; exact hl.get' h

theorem Reps.append {c : Cx} : ∀ {l : List AV} {vs : List Value}, Reps c l vs → ∀ {l' : List AV} {vs' : List Value}, Reps c l' vs' → Reps c (l ++ l') (vs ++ vs')
  | _, _, .nil, _, _, h => h
  | _, _, .cons a v as vs ha hl, _, _, h => .cons a v _ _ ha (hl.append h)

theorem Reps.take {c : Cx} : ∀ {l : List AV} {vs : List Value}, Reps c l vs → ∀ n, Reps c (l.take n) (vs.take n)
  | _, _, .nil, n => by simp; exact .nil
  | _, _, .cons a v as vs ha hl, 0 => .nil
  | _, _, .cons a v as vs ha hl, n + 1 => .cons a v _ _ ha (hl.take n)

theorem Reps.drop {c : Cx} : ∀ {l : List AV} {vs : List Value}, Reps c l vs → ∀ n, Reps c (l.drop n) (vs.drop n)
  | _, _, .nil, n => by simp; exact .nil
  | _, _, .cons a v as vs ha hl, 0 => .cons a v as vs ha hl
  | _, _, .cons a v as vs ha hl, n + 1 => hl.drop n

theorem Reps.set {c : Cx} : ∀ {l : List AV} {vs : List Value}, Reps c l vs → ∀ (i : Nat) {a : AV} {v : Value}, Rep c a v → Reps c (l.set i a) (vs.set i v)
  | _, _, .nil, i, _, _, _ => .nil
  | _, _, .cons a v as vs ha hl, 0, _, _, h => .cons _ _ _ _ h hl
  | _, _, .cons a v as vs ha hl, i + 1, _, _, h => .cons a v _ _ ha (hl.set i h)

theorem Reps.split {c : Cx} : ∀ {l l' : List AV} {vs : List Value}, Reps c (l ++ l') vs → ∃ v1 v2, vs = v1 ++ v2 ∧ Reps c l v1 ∧ Reps c l' v2
  | [], _, vs, h => ⟨[], vs, rfl, .nil, h⟩
  | a :: l, l', _, .cons _ v _ vs ha hl => by
    obtain ⟨v1, v2, rfl, h1, h2⟩ := Reps.split hl
    exact ⟨v :: v1, v2, rfl, .cons _ _ _ _ ha h1, h2⟩

theorem Reps.replicate {c : Cx} {a : AV} {v : Value} (h : Rep c a v) : ∀ n, Reps c (List.replicate n a) (List.replicate n v)
  | 0 => .nil
  | n + 1 => .cons _ _ _ _ h (Reps.replicate h n)

theorem Reps.of_get {c : Cx} : ∀ {l : List AV} {vs : List Value}, l.length = vs.length → (∀ (i : Nat) (a : AV) (v : Value), l[i]? = some a → vs[i]? = some v → Rep c a v) → Reps c l vs
  | [], [], _, _ => .nil
  | a :: l, v :: vs, hl, h => .cons _ _ _ _ (h 0 a v rfl rfl) (Reps.of_get (by simpa using hl) fun i a v h1 h2 => h (i + 1) a v (by simpa using h1) (by simpa using h2))

/-- the frozen blocks stay, and stay frozen -/
structure Fr (c c' : Cx) : Prop where
  fz : ∀ k, c.fz k → c'.fz k
  heap : ∀ k, c.fz k → c'.w.heap[k]? = c.w.heap[k]?

theorem Fr.cell {c c' : Cx} (h : Fr c c') {a : Addr} {v : Value} (hf : c.fz a.block) (hc : c.w.cell? a = some v) : c'.w.cell? a = some v := by
  rw [World.cell?_of_block (w := c.w) (h.heap a.block hf)]; exact hc

theorem Fr.cells {c c' : Cx} (h : Fr c c') {ad : Addr} {vs : List Value} (hf : c.fz ad.block) (hc : ∀ j u, vs[j]? = some u → c.w.cell? (ad.add j) = some u) :
    ∀ j u, vs[j]? = some u → c'.w.cell? (ad.add j) = some u := fun j u hu => h.cell (by rw [add_block]; exact hf) (hc j u hu)

mutual
theorem Rep.fr {c c' : Cx} (h : Fr c c') : ∀ {a : AV} {v : Value}, Rep c a v → a.pure = true → Rep c' a v
  | _, _, .sc v hp, _ => .sc v hp
  | _, _, .bad v, _ => .bad v
  | _, _, .lst n cs A cap vs hn hr hb hx, hp => .lst n cs A cap vs hn (hr.fr h (by simpa [AV.pure] using hp)) hb (by
      rcases hx with hx | ⟨ad, e, hs, hf, hc⟩
      · exact .inl hx
      · exact .inr ⟨ad, e, hs, h.fz _ hf, h.cells hf hc⟩)
  | _, _, .agg cs vs hr, hp => .agg cs vs (hr.fr h (by simpa [AV.pure] using hp))
  | _, _, .tup cs vs hr, hp => .tup cs vs (hr.fr h (by simpa [AV.pure] using hp))
  | _, _, .fn f cs vs hr, hp => .fn f cs vs (hr.fr h (by simpa [AV.pure] using hp))
  | _, _, .ref .., hp => by simp [AV.pure] at hp
  | _, _, .own .., hp => by simp [AV.pure] at hp
  | _, _, .mref .., hp => by simp [AV.pure] at hp
  | _, _, .fp cs off ad vs hr hs hf hc, hp => .fp cs off ad vs (hr.fr h (by simpa [AV.pure] using hp)) hs (h.fz _ hf) (h.cells hf hc)
theorem Reps.fr {c c' : Cx} (h : Fr c c') : ∀ {l : List AV} {vs : List Value}, Reps c l vs → pureL l = true → Reps c' l vs
  | _, _, .nil, _ => .nil
  | _, _, .cons a v as vs ha hl, hp => by
    simp only [pureL, Bool.and_eq_true] at hp
    exact .cons a v as vs (ha.fr h hp.1) (hl.fr h hp.2)
end

theorem scrubL_map (n0 : Nat) : ∀ l : List AV, scrubL n0 l = l.map (·.scrub n0)
  | [] => rfl
  | a :: l => by simp [scrubL, scrubL_map n0 l]

/-- the objects from n0 on are cut off; their arrays are frozen -/
def Cx.cut (n0 : Nat) (c : Cx) : Cx :=
  { w := c.w, fz := fun k => c.fz k ∨ ∃ id, n0 ≤ id ∧ c.live id ∧ blk (c.io id) = some k, st := Abs.cut n0 c.st, io := c.io }

theorem AObj.scrub_ver (n0 : Nat) (o : AObj) : (o.scrub n0).ver? = o.ver? := by cases o <;> rfl

theorem cut_get (n0 : Nat) (st : Store) (id : Nat) (h : id < n0) : (Abs.cut n0 st)[id]? = (st[id]?).map (·.scrub n0) := by
  simp [Abs.cut, List.getElem?_map, List.getElem?_take, h]

theorem cut_get_ge (n0 : Nat) (st : Store) (id : Nat) (h : ¬ id < n0) : (Abs.cut n0 st)[id]? = none := by
  simp [Abs.cut, List.getElem?_map, List.getElem?_take, h]

theorem Cx.cut_ver {n0 : Nat} {c : Cx} {id : Nat} (h : id < n0) : (c.cut n0).ver id = c.ver id := by
  simp only [Cx.ver, Cx.cut, cut_get n0 c.st id h]
  cases c.st[id]? <;> simp [AObj.scrub_ver]

theorem Cx.cut_ver_ge {n0 : Nat} {c : Cx} {id : Nat} (h : ¬ id < n0) : (c.cut n0).ver id = none := by
  simp [Cx.ver, Cx.cut, cut_get_ge n0 c.st id h]

theorem Cx.cut_live {n0 : Nat} {c : Cx} {id : Nat} (h : (c.cut n0).live id) : id < n0 ∧ c.live id := by
  by_cases hh : id < n0
  · exact ⟨hh, by unfold Cx.live at *; rwa [Cx.cut_ver hh] at h⟩
  · simp [Cx.live, Cx.cut_ver_ge hh] at h

theorem Cx.cut_mine {n0 : Nat} {c : Cx} {k : Nat} (h : (c.cut n0).mine k) : c.mine k := by
  obtain ⟨id, hl, hb⟩ := h
  exact ⟨id, (Cx.cut_live hl).2, hb⟩

theorem cut_len (n0 : Nat) (st : Store) (id : Nat) (h : id < n0) (h' : id < st.length) : id < (Abs.cut n0 st).length := by
  simp [Abs.cut]; omega

theorem cut_fr (n0 : Nat) (c : Cx) : Fr c (c.cut n0) := ⟨fun _ h => .inl h, fun _ _ => rfl⟩

theorem rep_nilz {c : Cx} {v : Value} (hp : plainV v = true) : Rep c (nilz v) v := by
  unfold nilz
  split
  · exact .lst 0 [] none 0 [] (Nat.le_refl _) .nil (by decide) (.inl ⟨rfl, rfl⟩)
  · exact .sc _ hp

theorem Rep.nil1 {c : Cx} {a : AV} {v : Value} (h : Rep c a v) : Rep c (nil1 a) v := by
  unfold Abs.nil1
  split
  · cases h with
    | sc v hp => exact rep_nilz hp
  · exact h

theorem nilz_pure (v : Value) : (nilz v).pure = true := by unfold nilz; split <;> rfl

mutual
theorem scrub_pure' (n0 : Nat) : ∀ a : AV, a.pure = true → (a.scrub n0).pure = true
  | .sc v, _ => nilz_pure v
  | .bad, _ => rfl
  | .lst n cs, h => by simp only [AV.pure] at h; simp [AV.scrub, AV.pure, scrubL_pure' n0 cs h]
  | .agg cs, h => by simp only [AV.pure] at h; simp [AV.scrub, AV.pure, scrubL_pure' n0 cs h]
  | .tup cs, h => by simp only [AV.pure] at h; simp [AV.scrub, AV.pure, scrubL_pure' n0 cs h]
  | .fn f cs, h => by simp only [AV.pure] at h; simp [AV.scrub, AV.pure, scrubL_pure' n0 cs h]
  | .ref .., h => by simp [AV.pure] at h
  | .own .., h => by simp [AV.pure] at h
  | .mref .., h => by simp [AV.pure] at h
  | .fp cs off, h => by simp only [AV.pure] at h; simp [AV.scrub, AV.pure, scrubL_pure' n0 cs h]
theorem scrubL_pure' (n0 : Nat) : ∀ l : List AV, pureL l = true → pureL (scrubL n0 l) = true
  | [], _ => rfl
  | a :: l, h => by
    simp only [pureL, Bool.and_eq_true] at h
    simp [scrubL, pureL, scrub_pure' n0 a h.1, scrubL_pure' n0 l h.2]
end

mutual
theorem Rep.scrub {n0 : Nat} {c : Cx} : ∀ {a : AV} {v : Value}, Rep c a v → Rep c (a.scrub n0) v
  | _, _, .sc v hp => rep_nilz hp
  | _, _, .bad v => .bad v
  | _, _, .lst n cs A cap vs hn hr hb hx => .lst n _ A cap vs hn hr.scrub hb (by
      rcases hx with hx | hx
      · exact .inl ⟨hx.1, by simp [hx.2, scrubL]⟩
      · exact .inr hx)
  | _, _, .agg cs vs hr => .agg _ vs hr.scrub
  | _, _, .tup cs vs hr => .tup _ vs hr.scrub
  | _, _, .fn f cs vs hr => .fn f _ vs hr.scrub
  | _, _, .ref id ver off v ho1 hid hle hx => by
    by_cases hh : id < n0
    · simp only [AV.scrub, hh, if_true]
      exact .ref id ver off v ho1 hid hle hx
    · simp only [AV.scrub, hh, if_false]
      exact .bad v
  | _, _, .own id ver off len v ho1 hid hle hx => by
    by_cases hh : id < n0
    · simp only [AV.scrub, hh, if_true]
      exact .own id ver off len v ho1 hid hle hx
    · simp only [AV.scrub, hh, if_false]
      exact .bad v
  | _, _, .mref id v ho1 hid hx => by
    by_cases hh : id < n0
    · simp only [AV.scrub, hh, if_true]
      exact .mref id v ho1 hid hx
    · simp only [AV.scrub, hh, if_false]
      exact .bad v
  | _, _, .fp cs off ad vs hr hs hf hc => .fp _ off ad vs hr.scrub hs hf hc
theorem Reps.scrub {n0 : Nat} {c : Cx} : ∀ {l : List AV} {vs : List Value}, Reps c l vs → Reps c (scrubL n0 l) vs
  | _, _, .nil => .nil
  | _, _, .cons a v as vs ha hl => .cons _ v _ vs ha.scrub hl.scrub
end

mutual
theorem Rep.cut {n0 : Nat} {c : Cx} : ∀ {a : AV} {v : Value}, Rep c a v → Rep (c.cut n0) (a.scrub n0) v
  | _, _, .sc v hp => rep_nilz hp
  | _, _, .bad v => .bad v
  | _, _, .lst n cs A cap vs hn hr hb hx => .lst n _ A cap vs hn hr.cut hb (by
      rcases hx with hx | ⟨ad, e, hs, hf, hc⟩
      · exact .inl ⟨hx.1, by simp [hx.2, scrubL]⟩
      · exact .inr ⟨ad, e, hs, .inl hf, hc⟩)
  | _, _, .agg cs vs hr => .agg _ vs hr.cut
  | _, _, .tup cs vs hr => .tup _ vs hr.cut
  | _, _, .fn f cs vs hr => .fn f _ vs hr.cut
  | _, _, .ref id ver off v ho1 hid hle hx => by
    by_cases hh : id < n0
    · simp only [AV.scrub, hh, if_true]
      exact .ref id ver off v ho1 (cut_len _ _ _ hh hid) (by rw [Cx.cut_ver hh]; exact hle) (by rw [Cx.cut_ver hh]; exact hx)
    · simp only [AV.scrub, hh, if_false]
      exact .bad v
  | _, _, .own id ver off len v ho1 hid hle hx => by
    by_cases hh : id < n0
    · simp only [AV.scrub, hh, if_true]
      refine .own id ver off len v ho1 (cut_len _ _ _ hh hid) (by rw [Cx.cut_ver hh]; exact hle) fun e k n cs hc => ?_
      simp only [Cx.cut, cut_get n0 c.st id hh] at hc
      cases ho : c.st[id]? with
      | none => simp [ho] at hc
      | some o =>
        rw [ho] at hc
        cases o <;> simp [AObj.scrub] at hc
        obtain ⟨rfl, rfl, rfl, rfl, rfl⟩ := hc
        exact hx _ _ _ _ ho
    · simp only [AV.scrub, hh, if_false]
      exact .bad v
  | _, _, .mref id v ho1 hid hx => by
    by_cases hh : id < n0
    · simp only [AV.scrub, hh, if_true]
      exact .mref id v ho1 (cut_len _ _ _ hh hid) (by rw [Cx.cut_ver hh]; exact hx)
    · simp only [AV.scrub, hh, if_false]
      exact .bad v
  | _, _, .fp cs off ad vs hr hs hf hc => .fp _ off ad vs hr.cut hs (.inl hf) hc
theorem Reps.cut {n0 : Nat} {c : Cx} : ∀ {l : List AV} {vs : List Value}, Reps c l vs → Reps (c.cut n0) (scrubL n0 l) vs
  | _, _, .nil => .nil
  | _, _, .cons a v as vs ha hl => .cons _ v _ vs ha.cut hl.cut
end

theorem Inv.cut {n0 : Nat} {c : Cx} (h : Inv c) : Inv (c.cut n0) where
  fzlt := fun k hk => hk.elim (h.fzlt k) (fun ⟨id, _, hl, hb⟩ => h.minelt k ⟨id, hl, hb⟩)
  good := fun id o ho => by
    by_cases hh : id < n0
    · simp only [Cx.cut, cut_get n0 c.st id hh] at ho
      cases hq : c.st[id]? with
      | none => simp [hq] at ho
      | some o' =>
        rw [hq] at ho
        simp only [Option.map_some, Option.some.injEq] at ho
        subst ho
        have hg := h.good id o' hq
        cases o' with
        | box t cs => obtain ⟨g, vs, h1, h2, h3⟩ := hg; exact ⟨g, vs, h1, h2, h3.cut⟩
        | arr e k v n cs => obtain ⟨vs, h1, h2, h3⟩ := hg; exact ⟨vs, h1, h2.cut, h3⟩
        | mp es =>
          obtain ⟨r, es', clock, h1, h2, h3, h4⟩ := hg
          refine ⟨r, es', clock, h1, h2, by simp only [List.map_map]; exact h3, ?_⟩
          have h5 := h4.cut (n0 := n0)
          rw [scrubL_map] at h5
          simpa [List.map_map, Function.comp_def] using h5
        | dead => trivial
    · simp [Cx.cut, cut_get_ge n0 c.st id hh] at ho
  apart := fun k ⟨id, hl, hb⟩ hf => by
    obtain ⟨hn, hl'⟩ := Cx.cut_live hl
    rcases hf with hf | ⟨id2, h2, hl2, hb2⟩
    · exact h.apart k ⟨id, hl', hb⟩ hf
    · have := h.sep id id2 k hl' hl2 hb hb2
      omega
  sep := fun i j k hi hj => h.sep i j k (Cx.cut_live hi).2 (Cx.cut_live hj).2
  minelt := fun k hk => h.minelt k (Cx.cut_mine hk)
  gl := by obtain ⟨W0, hg, hk⟩ := h.gl; exact ⟨W0, hg, fun k hlt => ⟨.inl (hk k hlt).1, (hk k hlt).2⟩⟩

theorem Step.cut {c0 c : Cx} (h : Step c0 c) : Step c0 (c.cut c0.st.length) where
  os := h.os
  tape := h.tape
  output := h.output
  size := h.size
  heap := h.heap
  fz := fun k hk => .inl (h.fz k hk)
  fznew := fun k hk hc => hc.elim (h.fznew k hk) (fun ⟨id, _, hl, hb⟩ => (h.mine k ⟨id, hl, hb⟩).elim .inr (fun _ => by omega))
  len := by have := h.len; simp [Cx.cut, Abs.cut]; omega
  ver := fun id hid v hv => by rw [Cx.cut_ver hid] at hv; exact h.ver id hid v hv
  arr := fun id hid e k v n cs hc hv => by
    simp only [Cx.cut, cut_get _ c.st id hid] at hc
    cases hq : c.st[id]? with
    | none => simp [hq] at hc
    | some o =>
      rw [hq] at hc
      cases o <;> simp [AObj.scrub] at hc
      obtain ⟨rfl, rfl, rfl, rfl, rfl⟩ := hc
      exact h.arr id hid _ _ _ _ _ hq hv
  mine := fun k hk => h.mine k (Cx.cut_mine hk)

theorem Reps.map {c c' : Cx} {f : AV → AV} (h : ∀ {a : AV} {v : Value}, Rep c a v → Rep c' (f a) v) : ∀ {l : List AV} {vs : List Value}, Reps c l vs → Reps c' (l.map f) vs
  | _, _, .nil => .nil
  | _, _, .cons a v as vs ha hl => .cons _ v _ vs (h ha) (hl.map h)

/-- a slice of an owned array: where its cells are -/
theorem own_cells {c : Cx} {id k e ver n off len : Nat} {cs : List AV} {v : Value} (hg : Good c id (.arr e k ver n cs)) (ho : OwnSl (c.io id) k off len v) (hl : off + len ≤ n) :
    ∃ A c' vs, v = .slice A len c' ∧ len ≤ c' ∧ n ≤ maxLen ∧ Reps c ((cs.drop (off * k)).take (len * k)) vs ∧ vs.length = len * k ∧
      (0 < len → ∃ g, A = some ⟨g, off * k, none⟩ ∧ blk (c.io id) = some g ∧ ∀ j u, vs[j]? = some u → c.w.cell? ((⟨g, off * k, none⟩ : Addr).add j) = some u) := by
  obtain ⟨ws, how, hr, hk⟩ := hg
  obtain ⟨A0, n0, c0, hh, hn0, A', c', rfl, hc1, hc2, _, hpos⟩ := ho
  have hlen : (off + len) * k ≤ n * k := Nat.mul_le_mul_right _ hl
  have hmul : (off + len) * k = off * k + len * k := Nat.add_mul ..
  have hwl : ws.length = n * k := how.1
  refine ⟨A', c', (ws.drop (off * k)).take (len * k), rfl, hc1, ?_, (hr.drop _).take _, by rw [List.length_take, List.length_drop]; omega, fun hp => ?_⟩
  · rcases how.2 with ⟨_, h0⟩ | ⟨g, cap, cur, _, _, _, h1, h2, _⟩
    · omega
    · omega
  · obtain ⟨g, hA, hA'⟩ := hpos hp
    subst hA
    refine ⟨g, hA', by rw [hh]; rfl, fun j u hu => ?_⟩
    have hcell := how.cells (g := g) (by rw [hh]; rfl)
    rw [List.getElem?_take] at hu
    split at hu
    · rw [List.getElem?_drop] at hu
      have := hcell (off * k + j) u hu
      have e1 : (⟨g, off * k, none⟩ : Addr).add j = (⟨g, 0, none⟩ : Addr).add (off * k + j) := by
        unfold Addr.add
        split <;> split <;> simp_all
      rw [e1]
      exact this
    · cases hu

theorem Rep.frz {n0 : Nat} {c : Cx} (hi : Inv c) : ∀ (fuel : Nat) {a : AV} {v : Value}, Rep c a v → Rep (c.cut n0) (frz n0 c.st fuel a) v
  | 0, a, v, _ => .bad v
  | k + 1, a, v, h => by
    unfold Abs.frz
    by_cases hp : a.pure = true
    · rw [if_pos hp]
      exact h.cut
    · rw [if_neg hp]
      cases h with
      | sc v hv => simp [AV.pure] at hp
      | bad v => simp [AV.pure] at hp
      | lst n cs A cap vs hn hr hb hx =>
        refine .lst n _ A cap vs hn (hr.map (fun h => Rep.frz hi k h)) hb ?_
        rcases hx with hx | ⟨ad, e, hs, hf, hc⟩
        · exact .inl ⟨hx.1, by simp [hx.2]⟩
        · exact .inr ⟨ad, e, hs, .inl hf, hc⟩
      | agg cs vs hr => exact .agg _ vs (hr.map (fun h => Rep.frz hi k h))
      | tup cs vs hr => exact .tup _ vs (hr.map (fun h => Rep.frz hi k h))
      | fn f cs vs hr => exact .bad _
      | fp cs off ad vs hr hs hf hc => exact .bad _
      | ref id ver off v ho1 hid hle hx =>
        dsimp only
        by_cases hh : id < n0
        · rw [if_pos hh]
          have := (Rep.ref (c := c) id ver off v ho1 hid hle hx).cut (n0 := n0)
          simpa only [AV.scrub, hh, if_true] using this
        · rw [if_neg hh]; exact .bad _
      | mref id v ho1 hid hx =>
        dsimp only
        by_cases hh : id < n0
        · rw [if_pos hh]
          have := (Rep.mref (c := c) id v ho1 hid hx).cut (n0 := n0)
          simpa only [AV.scrub, hh, if_true] using this
        · rw [if_neg hh]; exact .bad _
      | own id ver off len v ho1 hid hle hx =>
        dsimp only
        by_cases hh : id < n0
        · rw [if_pos hh]
          have := (Rep.own (c := c) id ver off len v ho1 hid hle hx).cut (n0 := n0)
          simpa only [AV.scrub, hh, if_true] using this
        · rw [if_neg hh]
          cases ho : c.st[id]? with
          | none => exact .bad _
          | some o =>
            cases o with
            | box t cs => exact .bad _
            | mp es => exact .bad _
            | dead => exact .bad _
            | arr e sz ver' n cs =>
              dsimp only
              by_cases hv : ver = ver' ∧ off + len ≤ n
              · rw [if_pos hv]
                obtain ⟨rfl, hl⟩ := hv
                obtain ⟨A, c', vs, rfl, h1, h2, h3, h4, h5⟩ := own_cells (hi.good id _ ho) (hx _ _ _ _ ho) hl
                refine .lst len _ A c' vs h1 (h3.map (fun h => Rep.frz hi k h)) (by simp only [maxLen] at h2; omega) ?_
                by_cases hz : len = 0
                · subst hz
                  exact .inl ⟨rfl, by simp⟩
                · obtain ⟨g, hA, hb, hc⟩ := h5 (by omega)
                  refine .inr ⟨_, hA, rfl, .inr ⟨id, by omega, by simp [Cx.live, Cx.ver, ho, AObj.ver?], hb⟩, hc⟩
              · rw [if_neg hv]; exact .bad _

end Go.Abs
