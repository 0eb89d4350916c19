/-
  Operations that make or write objects: boxes, literals, stores, appends. Lemmas alone; no condition.
-/
import Derived.Test.YticlelmlnadclaaDoorKAbs7
set_option linter.unusedVariables false
set_option linter.unusedSimpArgs false
set_option linter.unusedSectionVars false
set_option linter.unnecessarySimpa false
set_option linter.deprecated false
namespace Go.Abs
open Go

/-- how an operation ends: a value in a context that goes on from the old one -/
def Ends (P : Program) (c : Cx) (s : Sem Value) (r : AV) (st' : Store) : Prop :=
  ∃ c' v, s.run P c.w = .ok v c'.w ∧ c'.st = st' ∧ Inv c' ∧ Step c c' ∧ Rep c' r v

theorem Ends.same {P : Program} {c : Cx} (hi : Inv c) {s : Sem Value} {r : AV} {v : Value} (h : s.run P c.w = .ok v c.w) (hr : Rep c r v) : Ends P c s r c.st :=
  ⟨c, v, h, rfl, hi, Step.refl c, hr⟩

theorem Reps.one {c : Cx} : ∀ {l : List AV} {vs : List Value}, Reps c l vs → l.all AV.one = true → ∀ v ∈ vs, v.oneCell' = true
  | _, _, .nil, _, v, hv => by simp at hv
  | _, _, .cons a u as vs ha hl, h, v, hv => by
    simp only [List.all_cons, Bool.and_eq_true] at h
    rcases List.mem_cons.1 hv with rfl | hv
    · exact (ha.one h.1).2
    · exact hl.one h.2 v hv

theorem Rep.cells {c : Cx} {a : AV} {v : Value} (h : Rep c a v) (ho : a.cells.all AV.one = true) : Reps c a.cells v.cells.toList := by
  cases a with
  | agg cs => cases h with
    | agg cs vs hr => exact hr
  | bad => simp [AV.cells, AV.one] at ho
  | tup vs => simp [AV.cells, AV.one] at ho
  | _ =>
    simp only [AV.cells, List.all_cons, List.all_nil, Bool.and_true] at ho
    rw [(h.one ho).1]
    exact .cons _ _ _ _ h .nil

theorem alloc_grow (c : Cx) (o : Obj) : Grow c (c.w.alloc o) (fun _ => False) where
  os := rfl
  tape := rfl
  output := rfl
  size := by simp
  heap := fun k hk => heap_alloc_old c.w o k hk
  new := fun k h => h.elim

theorem splice_take {α : Type} (cur us : List α) (off m : Nat) (h : off + us.length ≤ m) (hm : m ≤ cur.length) :
    (cur.take off ++ us ++ cur.drop (off + us.length)).take m = (cur.take m).take off ++ us ++ (cur.take m).drop (off + us.length) := by
  have h1 : (cur.take off).length = off := by rw [List.length_take]; omega
  rw [List.append_assoc, List.append_assoc, List.take_append, List.take_append, h1, List.take_of_length_le (by omega), List.take_of_length_le (l := us) (by omega), List.take_take, Nat.min_eq_left (by omega), List.drop_take]
  congr 3
  omega

section
variable {P : Program} {tb : Tb} (hT : TbOk P tb) {c : Cx} (hi : Inv c)
include hi

/-- a new box -/
theorem ends_box {t : TypeId} {cs : List AV} {vs : Array Value} (hr : Reps c cs vs.toList) {s : Sem Value}
    (hs : s.run P c.w = .ok (.pointer (some ⟨c.w.heap.size, 0, none⟩)) (c.w.alloc (.cells vs t))) : Ends P c s (.ref c.st.length 0 0) (c.st ++ [.box t cs]) := by
  have hp : Push c (c.w.alloc (.cells vs t)) (.box t cs) (.pointer (some ⟨c.w.heap.size, 0, none⟩)) :=
    ⟨alloc_grow c _, fun k hk => by simp only [blk, Option.some.injEq] at hk; subst hk; simp⟩
  have hg : Good (c.push (c.w.alloc (.cells vs t)) (.box t cs) (.pointer (some ⟨c.w.heap.size, 0, none⟩))) c.st.length (.box t cs) :=
    ⟨c.w.heap.size, vs, by simp [Cx.push], heap_alloc_new c.w _, hr.step hp.step hi⟩
  refine ⟨_, _, hs, rfl, hp.inv hi hg, hp.step, .ref _ 0 0 _ rfl (by simp [Cx.push]) (fun v0 _ => Nat.zero_le _) (fun _ => ⟨c.w.heap.size, by simp [Cx.push, blk], rfl⟩)⟩

/-- a new array, that lies in a block of its own -/
theorem ends_arr {e : TypeId} {k n : Nat} {cs : List AV} {cur : Array Value} (hr : Reps c cs cur.toList) (hk : 0 < k) (hn : cur.size = n * k) (hm : n ≤ maxLen) {s : Sem Value}
    (hs : s.run P c.w = .ok (.slice (some ⟨c.w.heap.size, 0, none⟩) n n) (c.w.alloc (.cells cur e))) : Ends P c s (.own c.st.length 0 0 n) (c.st ++ [.arr e k 0 n cs]) := by
  have hp : Push c (c.w.alloc (.cells cur e)) (.arr e k 0 n cs) (.slice (some ⟨c.w.heap.size, 0, none⟩) n n) :=
    ⟨alloc_grow c _, fun q hq => by simp only [blk, Option.some.injEq] at hq; subst hq; simp⟩
  have hg : Good (c.push (c.w.alloc (.cells cur e)) (.arr e k 0 n cs) (.slice (some ⟨c.w.heap.size, 0, none⟩) n n)) c.st.length (.arr e k 0 n cs) := by
    refine ⟨cur.toList, ⟨by simpa using hn, .inr ⟨c.w.heap.size, n, cur, by simp [Cx.push], Nat.zero_le _, heap_alloc_new c.w _, Nat.le_refl _, hm, hn, ?_⟩⟩, hr.step hp.step hi, hk⟩
    rw [List.take_of_length_le (by simp [hn])]
  refine ⟨_, _, hs, rfl, hp.inv hi hg, hp.step, .own _ 0 0 n _ rfl (by simp [Cx.push]) (fun v0 _ => Nat.zero_le _) fun e' k' n' cs' hq => ?_⟩
  have : (c.push (c.w.alloc (.cells cur e)) (.arr e k 0 n cs) (.slice (some ⟨c.w.heap.size, 0, none⟩) n n)).st[c.st.length]? = some (.arr e k 0 n cs) := by simp [Cx.push]
  rw [this] at hq
  cases hq
  exact ⟨_, n, n, by simp [Cx.push], by omega, _, _, rfl, Nat.le_refl _, Nat.le_refl _, fun _ => ⟨rfl, rfl⟩, fun _ => ⟨_, rfl, by simp⟩⟩

/-- a new array that is nil -/
theorem ends_nil {e : TypeId} {k : Nat} (hk : 0 < k) {s : Sem Value} (hs : s.run P c.w = .ok (.slice none 0 0) c.w) : Ends P c s (.own c.st.length 0 0 0) (c.st ++ [.arr e k 0 0 []]) := by
  have hp : Push c c.w (.arr e k 0 0 []) (.slice none 0 0) :=
    ⟨⟨rfl, rfl, rfl, Nat.le_refl _, fun _ _ => rfl, fun _ h => h.elim⟩, fun q hq => by simp [blk] at hq⟩
  have hg : Good (c.push c.w (.arr e k 0 0 []) (.slice none 0 0)) c.st.length (.arr e k 0 0 []) :=
    ⟨[], by simpa [Cx.push] using World.ownsRow_nil c.w 0 e k, .nil, hk⟩
  refine ⟨c.push c.w (.arr e k 0 0 []) (.slice none 0 0), _, hs, rfl, hp.inv hi hg, hp.step, .own _ 0 0 0 _ rfl (by simp [Cx.push]) (fun v0 _ => Nat.zero_le _) fun e' k' n' cs' hq => ?_⟩
  exact ⟨none, 0, 0, by simp [Cx.push], Nat.le_refl _, none, 0, rfl, Nat.le_refl _, Nat.le_refl _, fun _ => ⟨rfl, rfl⟩, fun h => absurd h (Nat.lt_irrefl _)⟩

/-- a new list that nobody will write -/
theorem ends_lst {n cap : Nat} {cs : List AV} {vs : List Value} {w' : World} (hr : Reps c cs vs) (hc : ∀ (j : Nat) (u : Value), vs[j]? = some u → w'.cell? ⟨c.w.heap.size, j, none⟩ = some u) (hn : n ≤ cap) (hm : n ≤ 9223372036854775807)
    (hg : Grow c w' (fun k => k = c.w.heap.size)) {s : Sem Value}
    (hs : s.run P c.w = .ok (.slice (some ⟨c.w.heap.size, 0, none⟩) n cap) w') : Ends P c s (.lst n cs) c.st := by
  refine ⟨c.grow w' _, _, hs, rfl, hg.inv hi, hg.step, .lst n cs _ cap vs hn (hr.step hg.step hi) hm (.inr ⟨_, rfl, rfl, .inr rfl, fun j u hu => ?_⟩)⟩
  rw [add0]
  exact hc j u hu

include hT

theorem run_zero {t : TypeId} {i : TInfo} (ht : tb t = some i) (w : World) : ∃ z, (zeroValue t).run P w = .ok z w ∧ zeroCellsB z.cells.toList i.zero = true ∧ i.zero.length = i.size ∧ (match z with | .agg _ => true | _ => false) = i.kind.agg := by
  obtain ⟨ti, h1, h2, h3, z, h4, h5, h6, h7⟩ := (hT.get ht).info
  exact ⟨z, by simp [zeroValue, typeInfo, h1, h4], h5, h6, h7⟩

theorem ends_alloc {t : TypeId} {i : TInfo} (ht : tb t = some i) (old : Value) : Ends P c (Instr.alloc t true old) (.ref c.st.length 0 0) (c.st ++ [.box t i.zero]) := by
  obtain ⟨z, hz, hb, _⟩ := run_zero hT hi ht c.w
  refine ends_box hi (vs := z.cells) (zero_reps hb) ?_
  simp [Instr.alloc, hz, newVar, newRow]

theorem reps_setCells {cs : List AV} {vs : List Value} (hr : Reps c cs vs) : ∀ {l : List AV} {us : List Value} {off : Nat}, Reps c l us → off + l.length ≤ cs.length →
    Reps c (setCells cs off l) (vs.take off ++ us ++ vs.drop (off + us.length))
  | _, _, off, .nil, h => by simpa [setCells] using hr
  | _, _, off, .cons a u as us ha hl, h => by
    simp only [setCells]
    have h1 := hr.set off ha
    have hlen := hr.length
    simp only [List.length_cons] at h
    have h2 := reps_setCells h1 (off := off + 1) hl (by simp; omega)
    have : (vs.set off u).take (off + 1) ++ us ++ (vs.set off u).drop (off + 1 + us.length) = vs.take off ++ (u :: us) ++ vs.drop (off + (us.length + 1)) := by
      rw [List.take_succ_eq_append_getElem (by simp; omega)]
      simp only [List.getElem_set_self, List.append_assoc, List.singleton_append, List.cons_append, List.nil_append]
      rw [List.take_set_of_le (Nat.le_refl _), List.drop_set_of_lt (by omega)]
      rw [show off + 1 + us.length = off + (us.length + 1) by omega]
    rw [this] at h2
    simpa using h2

theorem ends_store {t : TypeId} {i : TInfo} (ht : tb t = some i) {p x : AV} {v y : Value} {st' : Store} (hp : Rep c p v) (hx : Rep c x y) (hsz : x.cells.length = i.size) (h : astore c.st p x.cells = some st') :
    ∃ c', (Instr.storeAt t v y).run P c.w = .ok () c'.w ∧ c'.st = st' ∧ Inv c' ∧ Step c c' := by
  unfold astore at h
  split at h
  · cases h
  · rename_i hall
    have hone : x.cells.all AV.one = true := by simpa using hall
    have hxc := hx.cells hone
    have hlen := hxc.length
    have hlen2 : x.cells.length = y.cells.size := by simpa using hlen
    have hones := hxc.one hone
    split at h
    · rename_i id ver off
      cases hp with
      | ref id ver off v ho hid hle hxp =>
      split at h
      · rename_i t' cs hq
        simp only [Option.ite_none_right_eq_some, Option.some.injEq] at h
        obtain ⟨⟨rfl, hl⟩, rfl⟩ := h
        obtain ⟨g, hb, rfl⟩ := hxp (by simp [Cx.ver, hq, AObj.ver?])
        obtain ⟨g', vs, h1, h2, h3⟩ := hi.good id _ hq
        rw [h1] at hb
        simp only [blk, Option.some.injEq] at hb
        subst hb
        have hvl := h3.length
        have hst := run_storeCells_at P g' off t' y.cells.toList 0 vs c.w h2 (by rw [← hlen]; simp at hvl; omega) hones
        simp only [Nat.add_zero] at hst
        have hu : Upd c id (.box t' cs) (.box t' (setCells cs off x.cells)) (c.w.setRow g' (vs.toList.take off ++ y.cells.toList ++ vs.toList.drop (off + y.cells.toList.length)).toArray) (c.io id) :=
          { ho := hq, os := rfl, tape := rfl, output := rfl, size := by simp, heap := fun k _ hk => setRow_other c.w g' k _ (fun e => hk (by rw [h1, e]; rfl)),
            ver := ⟨0, 0, rfl, rfl, Nat.le_refl _, fun _ => rfl⟩, arr := fun _ _ _ _ _ h _ => (by cases h), blk := fun k hk => .inl hk }
        refine ⟨_, ?_, rfl, hu.inv hi ⟨g', _, by simp [Cx.upd, h1], setRow_heap c.w g' vs _ t' (0, 0) h2, ?_⟩, hu.step hi⟩
        · simp [Instr.storeAt, Instr.sureAddr, storeVar, (hT.get ht).size, ← hsz, hlen, hst, Cx.upd]
        · have := reps_setCells hT hi h3 hxc hl
          exact this.step (hu.step hi) hi
      · rename_i e k ver' n cs hq
        simp only [Option.ite_none_right_eq_some, Option.some.injEq] at h
        obtain ⟨⟨rfl, hl⟩, rfl⟩ := h
        obtain ⟨g, hb, rfl⟩ := hxp (by simp [Cx.ver, hq, AObj.ver?])
        obtain ⟨vs, h1, h2, h3⟩ := hi.good id _ hq
        have hvl := h2.length
        rcases h1.2 with ⟨hn, _⟩ | ⟨g', cap, cur, hio, _, hgg, hnc, hcm, hcs, htake⟩
        · rw [hn] at hb; simp [blk] at hb
        · rw [hio] at hb
          simp only [blk, Option.some.injEq] at hb
          subst hb
          have hwl : vs.length = n * k := h1.1
          have hcap : n * k ≤ cap * k := Nat.mul_le_mul_right _ hnc
          have hst := run_storeCells_at P g' off e y.cells.toList 0 cur c.w hgg (by rw [← hlen]; omega) hones
          simp only [Nat.add_zero] at hst
          have hu : Upd c id (.arr e k ver n cs) (.arr e k ver n (setCells cs off x.cells)) (c.w.setRow g' (cur.toList.take off ++ y.cells.toList ++ cur.toList.drop (off + y.cells.toList.length)).toArray) (c.io id) :=
            { ho := hq, os := rfl, tape := rfl, output := rfl, size := by simp, heap := fun k _ hk => setRow_other c.w g' k _ (fun e => hk (by rw [hio, e]; rfl)),
              ver := ⟨ver, ver, rfl, rfl, Nat.le_refl _, fun _ => rfl⟩, arr := fun _ _ _ _ _ h _ => (by cases h; exact ⟨_, _, _, rfl⟩), blk := fun k hk => .inl hk }
          have hr := (reps_setCells hT hi h2 hxc hl).step (hu.step hi) hi
          refine ⟨_, ?_, rfl, hu.inv hi ⟨_, ⟨?_, .inr ⟨g', cap, _, by simp [Cx.upd, hio], Nat.zero_le _, setRow_heap c.w g' cur _ e (0, 0) hgg, hnc, hcm, ?_, ?_⟩⟩, hr, h3⟩, hu.step hi⟩
          · simp [Instr.storeAt, Instr.sureAddr, storeVar, (hT.get ht).size, ← hsz, hlen, hst, Cx.upd]
          · simp only [List.length_append, List.length_take, List.length_drop]; omega
          · simp only [List.size_toArray, List.length_append, List.length_take, List.length_drop, Array.length_toList]; omega
          · have hcl : n * k ≤ cur.toList.length := by simp only [Array.length_toList]; omega
            have := splice_take cur.toList y.cells.toList off (n * k) (by omega) hcl
            simp only [List.toList_toArray] at this ⊢
            rw [this, htake]
      · cases h
    · cases h

end
end Go.Abs
