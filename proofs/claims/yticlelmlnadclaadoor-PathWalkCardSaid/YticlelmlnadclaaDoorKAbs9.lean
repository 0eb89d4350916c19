/-
  Struct and slice literals, make, append, maps, bytes and strings. Lemmas alone; no condition.
-/
import Derived.Test.YticlelmlnadclaaDoorKAbs8
import Derived.Great.BuildSlice
import Derived.Lib.ConvBytes
import Derived.Laws.BytesArg
import Derived.Laws.MakeOwn
set_option linter.unusedVariables false
set_option linter.unusedSimpArgs false
set_option linter.unusedSectionVars false
set_option linter.unnecessarySimpa false
set_option linter.deprecated false
namespace Go.Abs
open Go

theorem cyc_flat {α : Type} [Inhabited α] (l : List α) : ∀ n : Nat, (List.range (n * l.length)).map (fun i => l[i % l.length]!) = (List.replicate n l).flatten
  | 0 => by simp
  | n + 1 => by
    rw [Nat.add_mul, Nat.one_mul, List.range_add, List.map_append, cyc_flat l n, List.replicate_succ', List.flatten_append]
    congr 1
    simp only [List.map_map, List.flatten_cons, List.flatten_nil, List.append_nil]
    apply List.ext_getElem
    · simp
    · intro i h1 h2
      have hi : i < l.length := by simpa using h1
      simp only [List.getElem_map, List.getElem_range, Function.comp_apply]
      have : (n * l.length + i) % l.length = i := by rw [Nat.mul_comm, Nat.mul_add_mod, Nat.mod_eq_of_lt hi]
      rw [this]
      simp [hi]

theorem Reps.flat {c : Cx} {l : List AV} {vs : List Value} (h : Reps c l vs) : ∀ n, Reps c (List.replicate n l).flatten (List.replicate n vs).flatten
  | 0 => .nil
  | n + 1 => by simp only [List.replicate_succ, List.flatten_cons]; exact h.append (h.flat n)

def RepParts (c : Cx) : List (Nat × AV) → List (Nat × Value) → Prop
  | [], [] => True
  | (i, a) :: l, (j, v) :: m => i = j ∧ Rep c a v ∧ RepParts c l m
  | _, _ => False

theorem reps_foldl {c : Cx} : ∀ {l : List AV} {us : List Value} (k : Nat) {cs : List AV} {cur : Array Value} {off : Nat}, Reps c l us → Reps c cs cur.toList →
    Reps c (setCells cs (off + k) l) ((us.zipIdx k).foldl (fun cs (x : Value × Nat) => cs.setIfInBounds (off + x.2) x.1) cur).toList
  | _, _, k, cs, cur, off, .nil, h => by simpa [setCells] using h
  | _, _, k, cs, cur, off, .cons a u as us ha hl, h => by
    simp only [setCells, List.zipIdx_cons, List.foldl_cons]
    have := reps_foldl (k + 1) (off := off) hl (cs := cs.set (off + k) a) (cur := cur.setIfInBounds (off + k) u) (by simpa using h.set (off + k) ha)
    simpa [Nat.add_assoc] using this

theorem fill_run {c : Cx} {placeA place : Nat → Option (Nat × Nat)} (hp : ∀ i x, placeA i = some x → place i = some x) : ∀ {ps : List (Nat × AV)} {qs : List (Nat × Value)} {cs rs : List AV} {cur : Array Value},
    RepParts c ps qs → Reps c cs cur.toList → fillA placeA cs ps = some rs → ∃ us, Instr.fill place cur qs = some us ∧ Reps c rs us.toList
  | [], [], cs, rs, cur, _, h, hf => by simp [fillA] at hf; subst hf; exact ⟨cur, rfl, h⟩
  | [], _ :: _, _, _, _, hr, _, _ => hr.elim
  | (_, _) :: _, [], _, _, _, hr, _, _ => hr.elim
  | (i, a) :: ps, (j, v) :: qs, cs, rs, cur, hr, h, hf => by
    obtain ⟨rfl, ha, hr⟩ := hr
    simp only [fillA] at hf
    split at hf
    · cases hf
    · rename_i off size hpl
      split at hf
      · cases hf
      · rename_i hcond
        simp only [not_or] at hcond
        obtain ⟨h1, h2, h3⟩ := hcond
        have hac := ha.cells (by simpa using h3)
        have hlen := hac.length
        have hlen2 : a.cells.length = v.cells.size := by simpa using hlen
        have hcur := h.length
        simp only [Array.length_toList] at hcur
        have h4 := reps_foldl (c := c) 0 (off := off) hac h
        simp only [Nat.add_zero] at h4
        simp only [Instr.fill, hp i _ hpl]
        rw [if_neg (by simp; omega)]
        have hx : (v.cells.zipIdx.foldl (fun cs (x : Value × Nat) => cs.setIfInBounds (off + x.2) x.1) cur) = (v.cells.toList.zipIdx.foldl (fun cs (x : Value × Nat) => cs.setIfInBounds (off + x.2) x.1) cur) := by
          rw [← Array.foldl_toList, Array.toList_zipIdx]
        have h5 := fill_run hp (cur := v.cells.zipIdx.foldl (fun cs (x : Value × Nat) => cs.setIfInBounds (off + x.2) x.1) cur) hr (by rw [hx]; exact h4) hf
        exact h5

section
variable {P : Program} {tb : Tb} (hT : TbOk P tb) {c : Cx} (hi : Inv c)
include hi hT

theorem places_get : ∀ {fs : List Field} {gs : List FI}, fieldsB P tb fs gs = true → ∃ places, fs.mapM (fun f => (P.info? f.type).map fun i => (f.offset, i.size)) = some places ∧ ∀ i : Nat, places[i]? = (gs[i]?).map fun g => (g.off, g.size)
  | [], [], _ => ⟨[], by simp, fun i => by simp⟩
  | [], _ :: _, h => by simp [fieldsB] at h
  | _ :: _, [], h => by simp [fieldsB] at h
  | f :: fs, g :: gs, h => by
    obtain ⟨f', hf', h1, h2, h3, ti, dd, hti, hd, hsz, hag⟩ := fields_get h (j := 0) (g := g) rfl
    simp at hf'
    subst hf'
    have hb' : fieldsB P tb fs gs = true := by simp only [fieldsB, Bool.and_eq_true] at h; exact h.2
    obtain ⟨places, hp, hpl⟩ := places_get hb'
    refine ⟨(f.offset, ti.size) :: places, by simp [List.mapM_cons, hti, hp], fun i => ?_⟩
    cases i with
    | zero => simp [h2, hsz]
    | succ i => simpa using hpl i

theorem ends_build_struct {t : TypeId} {i : TInfo} {fs : List FI} (ht : tb t = some i) (hk : i.kind = .struct fs) {ps : List (Nat × AV)} {qs : Array (Nat × Value)} (hr : RepParts c ps qs.toList) {cs : List AV}
    (h : fillA (fun j => (fs[j]?).map fun g => (g.off, g.size)) i.zero ps = some cs) : Ends P c (Instr.build t qs) (.agg cs) c.st := by
  obtain ⟨d, hd, hkb⟩ := (hT.get ht).desc
  rw [hk] at hkb
  cases d <;> simp [kindB] at hkb
  rename_i fields
  obtain ⟨ti, h1, h2, h3, z, h4, h5, h6, h7⟩ := (hT.get ht).info
  obtain ⟨places, hp, hpl⟩ := places_get hT hi hkb
  obtain ⟨us, hu, hru⟩ := fill_run (c := c) (place := (places.toArray[·]?)) (fun j x hx => by rw [← hx]; simpa using hpl j) hr (zero_reps (vs := z.cells.toList) h5) h
  refine Ends.same hi (v := .agg us) (run_build c.w t qs us ?_) (.agg cs us hru)
  unfold Program.built
  rw [h1, hd]
  simp only [h4, hp]
  exact hu

theorem ends_build_array {t e : TypeId} {i q : TInfo} {n : Nat} (ht : tb t = some i) (he : tb e = some q) (hk : i.kind = .array n e) {ps : List (Nat × AV)} {qs : Array (Nat × Value)} (hr : RepParts c ps qs.toList) {cs : List AV}
    (h : fillA (fun j => some (j * q.size, q.size)) i.zero ps = some cs) : Ends P c (Instr.build t qs) (.agg cs) c.st := by
  obtain ⟨d, hd, hkb⟩ := (hT.get ht).desc
  rw [hk] at hkb
  cases d <;> simp [kindB] at hkb
  obtain ⟨rfl, rfl⟩ := hkb
  obtain ⟨ti, h1, h2, h3, z, h4, h5, h6, h7⟩ := (hT.get ht).info
  obtain ⟨te, g1, g2, _⟩ := (hT.get he).info
  obtain ⟨us, hu, hru⟩ := fill_run (c := c) (place := fun j => some (j * te.size, te.size)) (fun j x hx => by rw [g2]; exact hx) hr (zero_reps (vs := z.cells.toList) h5) h
  refine Ends.same hi (v := .agg us) (run_build c.w t qs us ?_) (.agg cs us hru)
  unfold Program.built
  rw [h1, hd]
  simp only [h4, g1]
  exact hu

theorem zero_flat {e : TypeId} {q : TInfo} (he : tb e = some q) (n : Nat) : ∃ ie z, P.info? e = some ie ∧ ie.size = q.size ∧ ie.bytes = q.bytes ∧ ie.zero = some z ∧ z.cells.size = q.size ∧
    Reps c (List.replicate n q.zero).flatten ((Array.range (n * q.size)).map (z.cells[· % z.cells.size]!)).toList := by
  obtain ⟨ti, h1, h2, h3, z, h4, h5, h6, h7⟩ := (hT.get he).info
  have hr := zero_reps (c := c) h5
  have hl : z.cells.size = q.size := by rw [← h6]; simpa using hr.length.symm
  refine ⟨ti, z, h1, h2, h3, h4, hl, ?_⟩
  have := cyc_flat z.cells.toList n
  simp only [Array.length_toList, hl] at this
  have h8 : ((Array.range (n * q.size)).map (z.cells[· % z.cells.size]!)).toList = (List.replicate n z.cells.toList).flatten := by
    rw [← this]
    simp only [Array.toList_map, Array.toList_range, hl]
    apply List.map_congr_left
    intro i hi'
    simp [getElem!_def]
  rw [h8]
  exact hr.flat n

theorem buildSlice_run {t e : TypeId} {i q : TInfo} {len : Nat} (ht : tb t = some i) (hk : i.kind = .slice e) (he : tb e = some q) (hsmall : len * q.size ≤ 16777216) (hpos : q.size ≠ 0) {ps : List (Nat × AV)} {qs : Array (Nat × Value)}
    (hr : RepParts c ps qs.toList) {cs : List AV} (h : fillA (fun j => some (j * q.size, q.size)) (List.replicate len q.zero).flatten ps = some cs) (hl : len ≠ 0) :
    ∃ cur, (Instr.buildSlice t len qs).run P c.w = .ok (.slice (some ⟨c.w.heap.size, 0, none⟩) len len) (c.w.alloc (.cells cur e)) ∧ Reps c cs cur.toList := by
  obtain ⟨d, hd, hkb⟩ := (hT.get ht).desc
  rw [hk] at hkb
  cases d <;> simp [kindB] at hkb
  subst hkb
  obtain ⟨ie, z, h1, h2, h3, h4, h5, h6⟩ := zero_flat hT hi he len
  obtain ⟨us, hu, hru⟩ := fill_run (c := c) (place := fun j => some (j * ie.size, ie.size)) (fun j x hx => by rw [h2]; exact hx) hr h6 h
  have hp : len * ie.size ≠ 0 := by rw [h2]; exact Nat.mul_ne_zero hl hpos
  exact ⟨us, run_buildSlice c.w t _ len qs us ie z hd h1 h4 (by rw [h2]; omega) hp (by rw [← h2] at hu; exact hu), hru⟩

end
end Go.Abs
