/-
  Hints at the head of a region or a loop: the world stays as it is, what stands for its values turns. Lemmas alone; no condition.
-/
import Derived.Test.YticlelmlnadclaaDoorKAbs13
set_option linter.unusedVariables false
set_option linter.unusedSimpArgs false
set_option linter.unusedSectionVars false
set_option linter.unnecessarySimpa false
set_option linter.deprecated false
namespace Go.Abs
open Go

theorem list_set_self {α : Type} : ∀ {l : List α} {i : Nat} {v : α}, l[i]? = some v → l.set i v = l
  | [], i, v, h => by simp at h
  | x :: l, 0, v, h => by simp at h; simp [h]
  | x :: l, i + 1, v, h => by simp at h; simp [list_set_self h]

theorem push_nil {c : Cx} (hi : Inv c) {e : TypeId} {k : Nat} (hk : 0 < k) : ∃ c' : Cx, c'.w = c.w ∧ c'.st = c.st ++ [.arr e k 0 0 []] ∧ Inv c' ∧ Step c c' ∧ Rep c' (.own c.st.length 0 0 0) (.slice none 0 0) := by
  have hp : Push c c.w (.arr e k 0 0 []) (.slice none 0 0) :=
    ⟨⟨rfl, rfl, rfl, Nat.le_refl _, fun _ _ => rfl, fun _ h => h.elim⟩, fun q hq => by simp [blk] at hq⟩
  have hg : Good (c.push c.w (.arr e k 0 0 []) (.slice none 0 0)) c.st.length (.arr e k 0 0 []) :=
    ⟨[], by simpa [Cx.push] using World.ownsRow_nil c.w 0 e k, .nil, hk⟩
  refine ⟨c.push c.w (.arr e k 0 0 []) (.slice none 0 0), rfl, rfl, hp.inv hi hg, hp.step, .own _ 0 0 0 _ rfl (by simp [Cx.push]) (fun v0 _ => Nat.zero_le _) fun e' k' n' cs' hq => ?_⟩
  exact ⟨none, 0, 0, by simp [Cx.push], Nat.le_refl _, none, 0, rfl, Nat.le_refl _, Nat.le_refl _, fun _ => ⟨rfl, rfl⟩, fun h => absurd h (Nat.lt_irrefl _)⟩

/-- what a hint leaves -/
def Hinted (c : Cx) (vs : List Value) (x : List AV × Store) : Prop := ∃ c' : Cx, c'.w = c.w ∧ c'.st = x.2 ∧ Inv c' ∧ Step c c' ∧ Reps c' x.1 vs

theorem Hinted.same {c : Cx} (hi : Inv c) {tm : List AV} {vs : List Value} (hr : Reps c tm vs) : Hinted c vs (tm, c.st) := ⟨c, rfl, rfl, hi, Step.refl c, hr⟩

theorem nil_value {c : Cx} {v : Value} (h : Rep c (.sc (.slice none 0 0)) v) : v = .slice none 0 0 := by cases h; rfl

/-- the blocks of one object are nobody's to write any more -/
def Cx.kill (c : Cx) (id : Nat) : Cx := { w := c.w, fz := fun k => c.fz k ∨ (c.live id ∧ blk (c.io id) = some k), st := c.st.set id .dead, io := c.io }

theorem kill_ver_ne {c : Cx} {id j : Nat} (h : j ≠ id) : (c.kill id).ver j = c.ver j := by simp [Cx.ver, Cx.kill, List.getElem?_set, Ne.symm h]
theorem kill_ver_eq {c : Cx} {id : Nat} : (c.kill id).ver id = none := by
  by_cases h : id < c.st.length
  · simp [Cx.ver, Cx.kill, List.getElem?_set, h, AObj.ver?]
  · simp [Cx.ver, Cx.kill, List.getElem?_set, h]
theorem kill_live {c : Cx} {id j : Nat} (h : (c.kill id).live j) : j ≠ id ∧ c.live j := by
  by_cases e : j = id
  · subst e; simp [Cx.live, kill_ver_eq] at h
  · exact ⟨e, by unfold Cx.live at *; rwa [kill_ver_ne e] at h⟩
theorem kill_mine {c : Cx} {id k : Nat} (h : (c.kill id).mine k) : c.mine k := by
  obtain ⟨j, hl, hb⟩ := h
  exact ⟨j, (kill_live hl).2, hb⟩

theorem kill_step {c : Cx} (id : Nat) : Step c (c.kill id) where
  os := rfl
  tape := rfl
  output := rfl
  size := Nat.le_refl _
  heap := fun _ _ _ => rfl
  fz := fun k h => .inl h
  fznew := fun k _ h => h.elim .inl (fun h => .inr ⟨id, h.1, h.2⟩)
  len := by simp [Cx.kill]
  ver := fun j hj v hv => by
    by_cases e : j = id
    · subst e; rw [kill_ver_eq] at hv; cases hv
    · rw [kill_ver_ne e] at hv; exact ⟨v, hv, Nat.le_refl _, fun _ => rfl⟩
  arr := fun j hj e k v n cs hc hv => by
    by_cases he : j = id
    · subst he; simp [Cx.kill, List.getElem?_set, hj] at hc
    · simp only [Cx.kill, List.getElem?_set, Ne.symm he, if_false] at hc
      exact ⟨_, _, _, hc⟩
  mine := fun k hk => .inl (kill_mine hk)

theorem kill_inv {c : Cx} (hi : Inv c) (id : Nat) : Inv (c.kill id) where
  fzlt := fun k hk => hk.elim (hi.fzlt k) (fun h => hi.minelt k ⟨id, h.1, h.2⟩)
  good := fun j o ho => by
    by_cases e : j = id
    · subst e
      simp only [Cx.kill, List.getElem?_set] at ho
      split at ho
      · split at ho
        · simp only [Option.some.injEq] at ho; subst ho; trivial
        · cases ho
      · rename_i hh; exact absurd trivial hh
    · simp only [Cx.kill, List.getElem?_set, Ne.symm e, if_false] at ho
      exact Good.keep (kill_step id) hi (hi.good j o ho) rfl fun _ _ => rfl
  apart := fun k hm hf => by
    obtain ⟨j, hl, hb⟩ := hm
    obtain ⟨hne, hl'⟩ := kill_live hl
    rcases hf with hf | ⟨h1, h2⟩
    · exact hi.apart k ⟨j, hl', hb⟩ hf
    · exact hne (hi.sep j id k hl' h1 hb h2)
  sep := fun i j k h1 h2 => hi.sep i j k (kill_live h1).2 (kill_live h2).2
  minelt := fun k hk => hi.minelt k (kill_mine hk)
  gl := gl_step (kill_step id) hi

section
variable {P : Program} {tb : Tb} (hT : TbOk P tb)

theorem hint1_ok (h : Hint) {c : Cx} (hi : Inv c) {tm : List AV} {vs : List Value} (hr : Reps c tm vs) : Hinted c vs (hint1 tb h (tm, c.st)) := by
  unfold hint1
  cases h with
  | ownT t e =>
    dsimp only
    split
    · rename_i q hq ht
      split
      · exact .same hi hr
      · rename_i hz
        obtain ⟨v, hv, hrep⟩ := hr.get ht
        have := nil_value hrep
        subst this
        obtain ⟨c', hw, hst, hi', hs', hown⟩ := push_nil hi (e := e) (k := q.size) (Nat.pos_of_ne_zero hz)
        refine ⟨c', hw, hst, hi', hs', ?_⟩
        have := (hr.step hs' hi).set t hown
        rwa [list_set_self hv] at this
    · exact .same hi hr
  | ownC t off e =>
    dsimp only
    split
    · rename_i q id hq ht
      split
      · rename_i ty cs hbox
        split
        · rename_i hcell
          split
          · exact .same hi hr
          · rename_i hz
            obtain ⟨c1, hw, hst, hi1, hs1, hown⟩ := push_nil hi (e := e) (k := q.size) (Nat.pos_of_ne_zero hz)
            have hid : id < c.st.length := lt_of_get hbox
            have hbox1 : c1.st[id]? = some (.box ty cs) := by rw [hst, List.getElem?_append_left hid]; exact hbox
            obtain ⟨g, ws, h1, h2, h3⟩ := hi1.good id _ hbox1
            obtain ⟨v, hv, hrep⟩ := h3.get hcell
            have := nil_value hrep
            subst this
            have hset := h3.set off hown
            rw [list_set_self hv] at hset
            have hu : Upd c1 id (.box ty cs) (.box ty (cs.set off (.own c.st.length 0 0 0))) c1.w (c1.io id) :=
              { ho := hbox1, os := rfl, tape := rfl, output := rfl, size := Nat.le_refl _, heap := fun _ _ _ => rfl, ver := ⟨0, 0, rfl, rfl, Nat.le_refl _, fun _ => rfl⟩,
                arr := fun _ _ _ _ _ h _ => (by cases h), blk := fun k hk => .inl hk }
            have hi2 := hu.inv hi1 ⟨g, ws, by simp [Cx.upd, h1], h2, hset.step (hu.step hi1) hi1⟩
            refine ⟨c1.upd id (.box ty (cs.set off (.own c.st.length 0 0 0))) c1.w (c1.io id), hw, ?_, hi2, hs1.trans (hu.step hi1) hi1.minelt, (hr.step hs1 hi).step (hu.step hi1) hi1⟩
            simp only [Cx.upd, hst]
            rw [List.set_append_left _ _ hid]
        · exact .same hi hr
      · exact .same hi hr
    · exact .same hi hr
  | frzT t =>
    dsimp only
    split
    · rename_i id ver off len ht
      split
      · rename_i e k ver' n cs harr
        split
        · rename_i hc
          obtain ⟨rfl, hl, hp⟩ := hc
          obtain ⟨v, hv, hrep⟩ := hr.get ht
          have hs := kill_step (c := c) id
          have hi' := kill_inv hi id
          refine ⟨c.kill id, rfl, rfl, hi', hs, ?_⟩
          have hlst : Rep (c.kill id) (.lst len (scrubL 0 ((cs.drop (off * k)).take (len * k)))) v := by
            cases hrep with
            | own _ _ _ _ _ ho hid hle hx =>
              obtain ⟨A, c', vs', rfl, h1, h2, h3, h4, h5⟩ := own_cells (hi.good id _ harr) (hx _ _ _ _ harr) hl
              refine .lst len _ A c' vs' h1 (h3.step hs hi).scrub (by simp only [maxLen] at h2; omega) ?_
              by_cases hz : len = 0
              · subst hz
                exact .inl ⟨rfl, by simp [scrubL]⟩
              · obtain ⟨g, hA, hb, hcell⟩ := h5 (by omega)
                exact .inr ⟨_, hA, rfl, .inr ⟨by simp [Cx.live, Cx.ver, harr, AObj.ver?], hb⟩, hcell⟩
          have := (hr.step hs hi).set t hlst
          rwa [list_set_self hv] at this
        · exact .same hi hr
      · exact .same hi hr
    · exact .same hi hr

theorem hints_ok : ∀ (l : List Hint) {c : Cx} (hi : Inv c) {tm : List AV} {vs : List Value} (hr : Reps c tm vs), Hinted c vs (hints tb l (tm, c.st))
  | [], c, hi, tm, vs, hr => .same hi hr
  | h :: l, c, hi, tm, vs, hr => by
    obtain ⟨c1, hw, hst, hi1, hs1, hr1⟩ := hint1_ok (tb := tb) h hi hr
    obtain ⟨c2, hw2, hst2, hi2, hs2, hr2⟩ := hints_ok l hi1 hr1
    refine ⟨c2, hw2.trans hw, ?_, hi2, hs1.trans hs2 hi1.minelt, ?_⟩
    · rw [hst2, hst]; rfl
    · rw [hst] at hr2; exact hr2

end
end Go.Abs
