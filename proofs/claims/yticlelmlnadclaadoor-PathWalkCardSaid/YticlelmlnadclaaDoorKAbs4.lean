/-
  How a context goes on: an object written, a new object, new frozen blocks; loads and stores. Lemmas alone; no condition.
-/
import Derived.Test.YticlelmlnadclaaDoorKAbs3
set_option linter.unusedVariables false
set_option linter.unusedSimpArgs false
set_option linter.unusedSectionVars false
set_option linter.unnecessarySimpa false
set_option linter.deprecated false
namespace Go.Abs
open Go

theorem add_add (a : Addr) (i j : Nat) : (a.add i).add j = a.add (i + j) := by
  unfold Addr.add
  by_cases h1 : i = 0 <;> by_cases h2 : j = 0 <;> simp [h1, h2, Nat.add_assoc]

theorem add0 (g j : Nat) : (⟨g, 0, none⟩ : Addr).add j = ⟨g, j, none⟩ := by unfold Addr.add; split <;> simp_all

theorem addo (g o j : Nat) : (⟨g, o, none⟩ : Addr).add j = ⟨g, o + j, none⟩ := by unfold Addr.add; split <;> simp_all

/-- an object that lives is written, or moved to a new block -/
structure Upd (c : Cx) (id : Nat) (o o' : AObj) (w' : World) (h' : Value) : Prop where
  ho : c.st[id]? = some o
  os : w'.os = c.w.os
  tape : w'.tape = c.w.tape
  output : w'.output = c.w.output
  size : c.w.heap.size ≤ w'.heap.size
  heap : ∀ k, k < c.w.heap.size → some k ≠ blk (c.io id) → w'.heap[k]? = c.w.heap[k]?
  ver : ∃ v0 v1, o.ver? = some v0 ∧ o'.ver? = some v1 ∧ v0 ≤ v1 ∧ (v0 = v1 → h' = c.io id)
  arr : ∀ e k v n cs, o' = .arr e k v n cs → o.ver? = some v → ∃ e' n' cs', o = .arr e' k v n' cs'
  blk : ∀ k, blk h' = some k → blk (c.io id) = some k ∨ (c.w.heap.size ≤ k ∧ k < w'.heap.size)

def Cx.upd (c : Cx) (id : Nat) (o' : AObj) (w' : World) (h' : Value) : Cx :=
  { w := w', fz := c.fz, st := c.st.set id o', io := fun j => if j = id then h' else c.io j }

theorem lt_of_get {st : Store} {id : Nat} {o : AObj} (h : st[id]? = some o) : id < st.length := by
  rcases Nat.lt_or_ge id st.length with hh | hh
  · exact hh
  · simp [List.getElem?_eq_none hh] at h

theorem upd_ver_ne {c : Cx} {id j : Nat} {o' : AObj} {w' : World} {h' : Value} (h : j ≠ id) : (c.upd id o' w' h').ver j = c.ver j := by
  simp [Cx.ver, Cx.upd, List.getElem?_set, Ne.symm h]

theorem upd_ver_eq {c : Cx} {id : Nat} {o' : AObj} {w' : World} {h' : Value} (h : id < c.st.length) : (c.upd id o' w' h').ver id = o'.ver? := by
  simp [Cx.ver, Cx.upd, List.getElem?_set, h]

theorem Upd.live {c : Cx} {id : Nat} {o o' : AObj} {w' : World} {h' : Value} (u : Upd c id o o' w' h') : c.live id := by
  obtain ⟨v0, v1, h0, _⟩ := u.ver
  simp [Cx.live, Cx.ver, u.ho, h0]

theorem Upd.mine {c : Cx} {id : Nat} {o o' : AObj} {w' : World} {h' : Value} (u : Upd c id o o' w' h') (hi : Inv c) {k : Nat} (h : (c.upd id o' w' h').mine k) :
    c.mine k ∨ (c.w.heap.size ≤ k ∧ k < w'.heap.size) := by
  obtain ⟨j, hl, hb⟩ := h
  by_cases e : j = id
  · subst e
    simp only [Cx.upd, if_true] at hb
    rcases u.blk k hb with hh | hh
    · exact .inl ⟨j, u.live, hh⟩
    · exact .inr hh
  · simp only [Cx.upd, e, if_false] at hb
    unfold Cx.live at hl
    rw [upd_ver_ne e] at hl
    exact .inl ⟨j, hl, hb⟩

theorem Upd.step {c : Cx} {id : Nat} {o o' : AObj} {w' : World} {h' : Value} (u : Upd c id o o' w' h') (hi : Inv c) : Step c (c.upd id o' w' h') where
  os := u.os
  tape := u.tape
  output := u.output
  size := u.size
  heap := fun k hk hn => u.heap k hk (fun e => hn ⟨id, u.live, e.symm⟩)
  fz := fun k h => h
  fznew := fun k _ h => .inl h
  len := by simp [Cx.upd]
  ver := fun j hj v hv => by
    by_cases e : j = id
    · subst e
      rw [upd_ver_eq hj] at hv
      obtain ⟨v0, v1, h0, h1, hle, hs⟩ := u.ver
      rw [hv] at h1
      injection h1 with h1
      subst h1
      exact ⟨v0, by simp [Cx.ver, u.ho, h0], hle, fun e => by simp only [Cx.upd, if_true]; exact hs e⟩
    · rw [upd_ver_ne e] at hv
      exact ⟨v, hv, Nat.le_refl _, fun _ => by simp [Cx.upd, e]⟩
  arr := fun j hj e k v n cs hc hv => by
    by_cases e' : j = id
    · subst e'
      simp only [Cx.upd, List.getElem?_set, hj, if_true] at hc
      injection hc with hc
      have hv' : o.ver? = some v := by simpa [Cx.ver, u.ho] using hv
      obtain ⟨a, b, d, hh⟩ := u.arr e k v n cs hc hv'
      exact ⟨a, b, d, by rw [u.ho, hh]⟩
    · simp only [Cx.upd, List.getElem?_set, Ne.symm e', if_false] at hc
      exact ⟨_, _, _, hc⟩
  mine := fun k hk => (u.mine hi hk).elim .inl (fun h => .inr h.1)

theorem ownsRow_heap {w w' : World} {e : TypeId} {k n : Nat} {v : Value} {xs : List Value} (h : w.ownsRow 0 e k v n xs) (hh : ∀ g, blk v = some g → w'.heap[g]? = w.heap[g]?) : w'.ownsRow 0 e k v n xs := by
  refine ⟨h.1, ?_⟩
  rcases h.2 with hn | ⟨g, cap, cur, rfl, hb, hg, rest⟩
  · exact .inl hn
  · exact .inr ⟨g, cap, cur, rfl, hb, by rw [hh g rfl]; exact hg, rest⟩

theorem Good.keep {c c' : Cx} (hs : Step c c') (hi : Inv c) {id : Nat} {o : AObj} (hg : Good c id o) (hio : c'.io id = c.io id) (hh : ∀ g, blk (c.io id) = some g → c'.w.heap[g]? = c.w.heap[g]?) : Good c' id o := by
  cases o with
  | box t cs =>
    obtain ⟨g, vs, h1, h2, h3⟩ := hg
    exact ⟨g, vs, by rw [hio, h1], by rw [hh g (by rw [h1]; rfl)]; exact h2, h3.step hs hi⟩
  | arr e k v n cs =>
    obtain ⟨vs, h1, h2, h3⟩ := hg
    exact ⟨vs, by rw [hio]; exact ownsRow_heap h1 hh, h2.step hs hi, h3⟩
  | mp es =>
    obtain ⟨r, es', clock, h1, h2, h3, h4⟩ := hg
    exact ⟨r, es', clock, by rw [hio, h1], by rw [hh r (by rw [h1]; rfl)]; exact h2, h3, h4.step hs hi⟩
  | dead => trivial

theorem dead_good {c : Cx} {id : Nat} {o : AObj} (h : o.ver? = none) : Good c id o := by
  cases o <;> simp [AObj.ver?] at h; trivial

theorem Upd.inv {c : Cx} {id : Nat} {o o' : AObj} {w' : World} {h' : Value} (u : Upd c id o o' w' h') (hi : Inv c) (hg : Good (c.upd id o' w' h') id o') : Inv (c.upd id o' w' h') where
  fzlt := fun k h => Nat.lt_of_lt_of_le (hi.fzlt k h) u.size
  good := fun j q hq => by
    by_cases e : j = id
    · subst e
      simp only [Cx.upd, List.getElem?_set, lt_of_get u.ho, if_true] at hq
      injection hq with hq
      subst hq
      exact hg
    · simp only [Cx.upd, List.getElem?_set, Ne.symm e, if_false] at hq
      cases hv : q.ver? with
      | none => exact dead_good hv
      | some v =>
        refine Good.keep (u.step hi) hi (hi.good j q hq) (by simp [Cx.upd, e]) fun g hb => ?_
        have hlj : c.live j := by simp [Cx.live, Cx.ver, hq, hv]
        exact u.heap g (hi.minelt g ⟨j, hlj, hb⟩) (fun hbb => e (hi.sep j id g hlj u.live hb hbb.symm))
  apart := fun k hm hf => by
    rcases u.mine hi hm with hm | hm
    · exact hi.apart k hm hf
    · have := hi.fzlt k hf; omega
  sep := fun i j k h1 h2 b1 b2 => by
    have key : ∀ i, i ≠ id → (c.upd id o' w' h').live i → c.live i := fun i e h => by unfold Cx.live at *; rwa [upd_ver_ne e] at h
    by_cases e1 : i = id
    · by_cases e2 : j = id
      · rw [e1, e2]
      · subst e1
        simp only [Cx.upd, if_true, e2, if_false] at b1 b2
        rcases u.blk k b1 with hh | hh
        · exact hi.sep _ _ k u.live (key j e2 h2) hh b2
        · have := hi.minelt k ⟨j, key j e2 h2, b2⟩; omega
    · by_cases e2 : j = id
      · subst e2
        simp only [Cx.upd, if_true, e1, if_false] at b1 b2
        rcases u.blk k b2 with hh | hh
        · exact hi.sep _ _ k (key i e1 h1) u.live b1 hh
        · have := hi.minelt k ⟨i, key i e1 h1, b1⟩; omega
      · simp only [Cx.upd, e1, e2, if_false] at b1 b2
        exact hi.sep _ _ k (key i e1 h1) (key j e2 h2) b1 b2
  minelt := fun k hm => (u.mine hi hm).elim (fun h => Nat.lt_of_lt_of_le (hi.minelt k h) u.size) (·.2)
  gl := gl_step (u.step hi) hi

/-- a new object, or new frozen blocks: the old blocks stay -/
structure Grow (c : Cx) (w' : World) (F : Nat → Prop) : Prop where
  os : w'.os = c.w.os
  tape : w'.tape = c.w.tape
  output : w'.output = c.w.output
  size : c.w.heap.size ≤ w'.heap.size
  heap : ∀ k, k < c.w.heap.size → w'.heap[k]? = c.w.heap[k]?
  new : ∀ k, F k → c.w.heap.size ≤ k ∧ k < w'.heap.size

def Cx.grow (c : Cx) (w' : World) (F : Nat → Prop) : Cx := { w := w', fz := fun k => c.fz k ∨ F k, st := c.st, io := c.io }

theorem Grow.step {c : Cx} {w' : World} {F : Nat → Prop} (u : Grow c w' F) : Step c (c.grow w' F) where
  os := u.os
  tape := u.tape
  output := u.output
  size := u.size
  heap := fun k hk _ => u.heap k hk
  fz := fun k h => .inl h
  fznew := fun k hk h => h.elim .inl (fun hf => by have := (u.new k hf).1; omega)
  len := Nat.le_refl _
  ver := fun id _ v hv => ⟨v, hv, Nat.le_refl _, fun _ => rfl⟩
  arr := fun id _ e k v n cs hc _ => ⟨_, _, _, hc⟩
  mine := fun k h => .inl h

theorem Grow.inv {c : Cx} {w' : World} {F : Nat → Prop} (u : Grow c w' F) (hi : Inv c) : Inv (c.grow w' F) where
  fzlt := fun k h => h.elim (fun h => Nat.lt_of_lt_of_le (hi.fzlt k h) u.size) (fun h => (u.new k h).2)
  good := fun j q hq => by
    cases hv : q.ver? with
    | none => exact dead_good hv
    | some v => exact Good.keep u.step hi (hi.good j q hq) rfl fun g hb => u.heap g (hi.minelt g ⟨j, by
        have : c.st[j]? = some q := hq
        simp [Cx.live, Cx.ver, this, hv], hb⟩)
  apart := fun k hm hf => hf.elim (hi.apart k hm) (fun h => by have := hi.minelt k hm; have := (u.new k h).1; omega)
  sep := hi.sep
  minelt := fun k hm => Nat.lt_of_lt_of_le (hi.minelt k hm) u.size
  gl := gl_step u.step hi

def Cx.push (c : Cx) (w' : World) (o' : AObj) (h' : Value) : Cx :=
  { w := w', fz := c.fz, st := c.st ++ [o'], io := fun j => if j = c.st.length then h' else c.io j }

theorem push_get_lt {c : Cx} {w' : World} {o' : AObj} {h' : Value} {j : Nat} (h : j < c.st.length) : (c.push w' o' h').st[j]? = c.st[j]? := by
  simp [Cx.push, List.getElem?_append_left h]

theorem push_ver_lt {c : Cx} {w' : World} {o' : AObj} {h' : Value} {j : Nat} (h : j < c.st.length) : (c.push w' o' h').ver j = c.ver j := by
  simp only [Cx.ver, push_get_lt h]

theorem push_live {c : Cx} {w' : World} {o' : AObj} {h' : Value} {j : Nat} (h : (c.push w' o' h').live j) : j = c.st.length ∨ (j < c.st.length ∧ c.live j) := by
  rcases Nat.lt_trichotomy j c.st.length with hh | hh | hh
  · exact .inr ⟨hh, by unfold Cx.live at *; rwa [push_ver_lt hh] at h⟩
  · exact .inl hh
  · have : (c.push w' o' h').st[j]? = none := List.getElem?_eq_none (by simp [Cx.push]; omega)
    simp [Cx.live, Cx.ver, this] at h

structure Push (c : Cx) (w' : World) (o' : AObj) (h' : Value) : Prop where
  grow : Grow c w' (fun _ => False)
  blk : ∀ k, blk h' = some k → c.w.heap.size ≤ k ∧ k < w'.heap.size

theorem Push.mine {c : Cx} {w' : World} {o' : AObj} {h' : Value} (u : Push c w' o' h') {k : Nat} (h : (c.push w' o' h').mine k) : c.mine k ∨ (c.w.heap.size ≤ k ∧ k < w'.heap.size) := by
  obtain ⟨j, hl, hb⟩ := h
  rcases push_live hl with rfl | ⟨hj, hl⟩
  · simp only [Cx.push, if_true] at hb
    exact .inr (u.blk k hb)
  · simp only [Cx.push, (show j ≠ c.st.length by omega), if_false] at hb
    exact .inl ⟨j, hl, hb⟩

theorem Push.step {c : Cx} {w' : World} {o' : AObj} {h' : Value} (u : Push c w' o' h') : Step c (c.push w' o' h') where
  os := u.grow.os
  tape := u.grow.tape
  output := u.grow.output
  size := u.grow.size
  heap := fun k hk _ => u.grow.heap k hk
  fz := fun k h => h
  fznew := fun k hk h => .inl h
  len := by simp [Cx.push]
  ver := fun id hid v hv => by
    rw [push_ver_lt hid] at hv
    exact ⟨v, hv, Nat.le_refl _, fun _ => by simp [Cx.push, (show id ≠ c.st.length by omega)]⟩
  arr := fun id hid e k v n cs hc _ => by
    rw [push_get_lt hid] at hc
    exact ⟨_, _, _, hc⟩
  mine := fun k h => (u.mine h).elim .inl (fun h => .inr h.1)

theorem Push.inv {c : Cx} {w' : World} {o' : AObj} {h' : Value} (u : Push c w' o' h') (hi : Inv c) (hg : Good (c.push w' o' h') c.st.length o') : Inv (c.push w' o' h') where
  fzlt := fun k h => Nat.lt_of_lt_of_le (hi.fzlt k h) u.grow.size
  good := fun j q hq => by
    rcases Nat.lt_trichotomy j c.st.length with hh | hh | hh
    · rw [push_get_lt hh] at hq
      cases hv : q.ver? with
      | none => exact dead_good hv
      | some v => exact Good.keep u.step hi (hi.good j q hq) (by simp [Cx.push, (show j ≠ c.st.length by omega)]) fun g hb => u.grow.heap g (hi.minelt g ⟨j, by simp [Cx.live, Cx.ver, hq, hv], hb⟩)
    · subst hh
      have : (c.push w' o' h').st[c.st.length]? = some o' := by simp [Cx.push]
      rw [this] at hq
      injection hq with hq
      subst hq
      exact hg
    · have : (c.push w' o' h').st[j]? = none := List.getElem?_eq_none (by simp [Cx.push]; omega)
      rw [this] at hq; cases hq
  apart := fun k hm hf => by
    rcases u.mine hm with hm | hm
    · exact hi.apart k hm hf
    · have := hi.fzlt k hf; omega
  sep := fun i j k h1 h2 b1 b2 => by
    rcases push_live h1 with rfl | ⟨hi1, hl1⟩ <;> rcases push_live h2 with rfl | ⟨hj1, hl2⟩
    · rfl
    · simp only [Cx.push, if_true, (show j ≠ c.st.length by omega), if_false] at b1 b2
      have := hi.minelt k ⟨j, hl2, b2⟩; have := (u.blk k b1).1; omega
    · simp only [Cx.push, if_true, (show i ≠ c.st.length by omega), if_false] at b1 b2
      have := hi.minelt k ⟨i, hl1, b1⟩; have := (u.blk k b2).1; omega
    · simp only [Cx.push, (show i ≠ c.st.length by omega), (show j ≠ c.st.length by omega), if_false] at b1 b2
      exact hi.sep i j k hl1 hl2 b1 b2
  minelt := fun k hm => (u.mine hm).elim (fun h => Nat.lt_of_lt_of_le (hi.minelt k h) u.grow.size) (·.2)
  gl := gl_step u.step hi

/-! ### what is behind a pointer -/
def AV.shift (d : Nat) : AV → AV
  | .ref id ver off => .ref id ver (off + d)
  | .fp cs off => .fp cs (off + d)
  | v => v

theorem row_cells' {c : Cx} (hi : Inv c) {p : AV} {v : Value} (hr : Rep c p v) {cs : List AV} {off : Nat} (h : row c.st p = some (cs, off)) :
    ∃ (base : Addr) (vs : List Value), v = .pointer (some (base.add off)) ∧ Reps c cs vs ∧ (∀ j u, vs[j]? = some u → c.w.cell? (base.add j) = some u) ∧
      ∀ d, Rep c (p.shift d) (.pointer (some (base.add (off + d)))) := by
  cases hr with
  | fp cs' off' ad vs hrs hs hf hc =>
    simp only [row, Option.some.injEq, Prod.mk.injEq] at h
    obtain ⟨rfl, rfl⟩ := h
    exact ⟨ad, vs, rfl, hrs, hc, fun d => .fp cs' (off' + d) ad vs hrs hs hf hc⟩
  | ref id ver off' v ho hid hle hx =>
    simp only [row] at h
    cases hq : c.st[id]? with
    | none => simp [hq] at h
    | some o =>
      rw [hq] at h
      have hg := hi.good id o hq
      cases o with
      | box t cs' =>
        simp only [Option.ite_none_right_eq_some, Option.some.injEq, Prod.mk.injEq] at h
        obtain ⟨rfl, rfl, rfl⟩ := h
        obtain ⟨g, hb, rfl⟩ := hx (by simp [Cx.ver, hq, AObj.ver?])
        have hb0 := hb
        obtain ⟨g', vs, h1, h2, h3⟩ := hg
        rw [h1] at hb
        simp only [blk, Option.some.injEq] at hb
        subst hb
        refine ⟨⟨g', 0, none⟩, vs.toList, by rw [add0], h3, fun j u hu => ?_, fun d => by rw [add0]; exact .ref id 0 (off' + d) _ rfl hid hle (fun _ => ⟨g', hb0, rfl⟩)⟩
        rw [add0, cell_of_row c.w g' j vs t (0, 0) h2]
        simpa using hu
      | arr e k ver' n cs' =>
        simp only [Option.ite_none_right_eq_some, Option.some.injEq, Prod.mk.injEq] at h
        obtain ⟨rfl, rfl, rfl⟩ := h
        obtain ⟨g, hb, rfl⟩ := hx (by simp [Cx.ver, hq, AObj.ver?])
        have hb0 := hb
        obtain ⟨vs, h1, h2, h3⟩ := hg
        refine ⟨⟨g, 0, none⟩, vs, by rw [add0], h2, h1.cells (g := g) ?_, fun d => by rw [add0]; exact .ref id ver (off' + d) _ rfl hid hle (fun _ => ⟨g, hb0, rfl⟩)⟩
        cases hh : c.io id <;> rw [hh] at hb h1 <;> simp [blk, Value.ownBlock] at hb ⊢
        · rcases h1.2 with ⟨h, _⟩ | ⟨_, _, _, h, _⟩ <;> cases h
        · rename_i A n' cap'
          cases A <;> simp [blk] at hb ⊢
          exact hb
        · rcases h1.2 with ⟨h, _⟩ | ⟨_, _, _, h, _⟩ <;> cases h
      | mp es => simp at h
      | dead => simp at h
  | _ => simp [row] at h

theorem row_cells {c : Cx} (hi : Inv c) {p : AV} {v : Value} (hr : Rep c p v) {cs : List AV} {off : Nat} (h : row c.st p = some (cs, off)) :
    ∃ (base : Addr) (vs : List Value), v = .pointer (some (base.add off)) ∧ Reps c cs vs ∧ ∀ j u, vs[j]? = some u → c.w.cell? (base.add j) = some u := by
  obtain ⟨b, vs, h1, h2, h3, _⟩ := row_cells' hi hr h
  exact ⟨b, vs, h1, h2, h3⟩

theorem ofCells_load {P : Program} {tb : Tb} {t : TypeId} {i : TInfo} (hT : Info P tb t i) {c : Cx} {base : Addr} {off : Nat} {cs : List AV} {vs : List Value} (hr : Reps c cs vs)
    (hc : ∀ j u, vs[j]? = some u → c.w.cell? (base.add j) = some u) {r : AV} (h : ofCells i.kind.agg cs off i.size = some r) :
    ∃ u, (loadVar t (base.add off)).run P c.w = .ok u c.w ∧ Rep c r u := by
  unfold ofCells at h
  cases ha : i.kind.agg with
  | true =>
    simp only [ha, if_true, Option.ite_none_right_eq_some, Option.some.injEq] at h
    obtain ⟨hle, rfl⟩ := h
    have hl : ((vs.drop off).take i.size).length = i.size := by rw [List.length_take, List.length_drop, ← hr.length]; omega
    have hload := run_loadCells_list (P := P) (w := c.w) (base.add off) ((vs.drop off).take i.size) (fun j v hj => by
      rw [add_add]
      refine hc (off + j) v ?_
      rw [List.getElem?_take] at hj
      split at hj
      · rwa [List.getElem?_drop] at hj
      · cases hj)
    rw [hl] at hload
    refine ⟨.agg ((vs.drop off).take i.size).toArray, ?_, .agg _ _ (by simpa using (hr.drop off).take i.size)⟩
    unfold loadVar
    simp only [Sem.run_bind, Result.andThen_ok, hT.agg c.w, ha, if_true, hT.size c.w, hload, Sem.run_pure]
  | false =>
    simp only [ha, Bool.false_eq_true, if_false] at h
    obtain ⟨u, hu, hru⟩ := hr.get h
    refine ⟨u, ?_, hru⟩
    unfold loadVar
    simp only [Sem.run_bind, Result.andThen_ok, hT.agg c.w, ha, Bool.false_eq_true, if_false]
    rw [run_load]
    simp [hc off u hu]

end Go.Abs
