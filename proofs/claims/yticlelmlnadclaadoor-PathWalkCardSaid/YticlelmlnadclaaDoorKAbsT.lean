/-
  Typed values, and what the evaluator's operations come to on them. Definitions and lemmas; no condition.
-/
import Derived.Test.YticlelmlnadclaaDoorKAbsR
import Derived.Lib.Split
set_option linter.unusedVariables false
set_option linter.unusedSimpArgs false
set_option linter.unusedSectionVars false
set_option linter.unnecessarySimpa false
set_option linter.deprecated false
namespace Go.Abs
open Go

abbrev Str := List UInt8
def strV (s : Str) : AV := .sc (.string ⟨⟨s⟩⟩)
def intV (k : IntKind) (n : Int) : AV := .sc (.int k n)

/-- a type of Go's: what lies in the cells of a value -/
structure Ty (α : Type) where
  cells : α → List AV
  size : Nat
  len : ∀ x, (cells x).length = size
  pure : ∀ x, pureL (cells x) = true
  one : ∀ x, (cells x).all AV.one = true
  norm : ∀ n0 x, scrubL n0 (cells x) = cells x

/-- a slice -/
def Ty.sl {α : Type} (T : Ty α) (l : List α) : AV := .lst l.length (l.flatMap T.cells)

theorem frz_pure {n0 k : Nat} {st : Store} {v : AV} (h : v.pure = true) : frz n0 st (k + 1) v = v.scrub n0 := by
  unfold frz
  rw [if_pos h]

theorem pureL_append (a b : List AV) : pureL (a ++ b) = (pureL a && pureL b) := by
  induction a with
  | nil => simp [pureL]
  | cons x a ih => simp [pureL, ih, Bool.and_assoc]

theorem scrubL_append (n0 : Nat) (a b : List AV) : scrubL n0 (a ++ b) = scrubL n0 a ++ scrubL n0 b := by
  simp [scrubL_map]

theorem pureL_flat {α : Type} {c : α → List AV} : ∀ {l : List α}, (∀ x ∈ l, pureL (c x) = true) → pureL (l.flatMap c) = true
  | [], _ => rfl
  | x :: l, h => by rw [List.flatMap_cons, pureL_append, h x (by simp), pureL_flat (fun y hy => h y (by simp [hy]))]; rfl

theorem scrubL_flat {α : Type} {c : α → List AV} (n0 : Nat) : ∀ {l : List α}, (∀ x ∈ l, scrubL n0 (c x) = c x) → scrubL n0 (l.flatMap c) = l.flatMap c
  | [], _ => rfl
  | x :: l, h => by rw [List.flatMap_cons, scrubL_append, h x (by simp), scrubL_flat n0 (fun y hy => h y (by simp [hy]))]

section
variable {α : Type} (T : Ty α)
theorem sl_pure (l : List α) : (T.sl l).pure = true := pureL_flat fun x _ => T.pure x
theorem sl_scrub (n0 : Nat) (l : List α) : (T.sl l).scrub n0 = T.sl l := by
  unfold Ty.sl
  rw [AV.scrub, scrubL_flat n0 fun x _ => T.norm n0 x]
theorem sl_frz (n0 k : Nat) (st : Store) (l : List α) : frz n0 st (k + 1) (T.sl l) = T.sl l := by
  rw [frz_pure (sl_pure T l), sl_scrub]
end

def tI (k : IntKind) : Ty Int where
  cells := fun n => [.sc (.int k n)]
  size := 1
  len := fun _ => rfl
  pure := fun _ => rfl
  one := fun _ => rfl
  norm := fun _ _ => rfl
def tB : Ty Bool where
  cells := fun n => [.sc (.bool n)]
  size := 1
  len := fun _ => rfl
  pure := fun _ => rfl
  one := fun _ => rfl
  norm := fun _ _ => rfl
def tS : Ty Str where
  cells := fun s => [strV s]
  size := 1
  len := fun _ => rfl
  pure := fun _ => rfl
  one := fun _ => rfl
  norm := fun _ _ => rfl
def tL {α : Type} (T : Ty α) : Ty (List α) where
  cells := fun l => [T.sl l]
  size := 1
  len := fun _ => rfl
  pure := fun l => by simp [pureL, sl_pure]
  one := fun _ => rfl
  norm := fun n0 l => by simp [scrubL, sl_scrub]

/-- two cells' lists, one behind the other -/
def tP {α β : Type} (T : Ty α) (U : Ty β) : Ty (α × β) where
  cells := fun x => T.cells x.1 ++ U.cells x.2
  size := T.size + U.size
  len := fun x => by simp [T.len, U.len]
  pure := fun x => by simp [pureL_append, T.pure, U.pure]
  one := fun x => by rw [List.all_append, T.one, U.one]; rfl
  norm := fun n0 x => by rw [scrubL_append, T.norm, U.norm]

def tU : Ty Unit where
  cells := fun _ => []
  size := 0
  len := fun _ => rfl
  pure := fun _ => rfl
  one := fun _ => rfl
  norm := fun _ _ => rfl

/-- another form of a value -/
def Ty.via {α β : Type} (T : Ty α) (f : β → α) : Ty β where
  cells := fun x => T.cells (f x)
  size := T.size
  len := fun x => T.len _
  pure := fun x => T.pure _
  one := fun x => T.one _
  norm := fun n0 x => T.norm n0 _

/-! ## lists by a number -/

/-- the element at a place -/
def at? {α : Type} (l : List α) (i : Int) : Option α := if i < 0 then none else l[i.toNat]?
/-- the elements from a place on, up to another one -/
def sub? {α : Type} (l : List α) (lo hi : Int) : Option (List α) := if 0 ≤ lo ∧ lo ≤ hi ∧ hi ≤ l.length then some ((l.take hi.toNat).drop lo.toNat) else none
/-- texts one behind the other -/
def cat? (a b : Str) : Option Str := if a.length + b.length ≤ 9223372036854775807 then some (a ++ b) else none
/-- lists one behind the other, in memory: so many bytes each element -/
def app? {α : Type} (bytes : Nat) (a b : List α) : Option (List α) := if (a.length + b.length) * bytes ≤ 140737488355328 then some (a ++ b) else none
/-- another element at a place -/
def put? {α : Type} (l : List α) (i : Int) (x : α) : Option (List α) := if 0 ≤ i ∧ i < l.length then some (l.set i.toNat x) else none
/-- divided, and what is left -/
def quo? (k : IntKind) (a b : Int) : Option Int := if b = 0 then none else some (k.wrap (a.tdiv b))
def rem? (a b : Int) : Option Int := if b = 0 then none else some (a.tmod b)
def guard? (p : Bool) : Option Unit := if p = true then some () else none

theorem at?_some {α : Type} {l : List α} {i : Int} {x : α} (h : at? l i = some x) : ¬ i < 0 ∧ l[i.toNat]? = some x ∧ i < l.length ∧ ∃ h : i.toNat < l.length, l[i.toNat] = x := by
  unfold at? at h
  split at h
  · cases h
  · rename_i hn
    have hlt := List.getElem?_eq_some_iff.1 h
    obtain ⟨h1, h2⟩ := hlt
    exact ⟨hn, h, by omega, h1, h2⟩

theorem sub?_some {α : Type} {l r : List α} {lo hi : Int} (h : sub? l lo hi = some r) : 0 ≤ lo ∧ lo ≤ hi ∧ hi ≤ l.length ∧ r = (l.take hi.toNat).drop lo.toNat := by
  unfold sub? at h
  split at h
  · rename_i hh
    simp only [Option.some.injEq] at h
    exact ⟨hh.1, hh.2.1, hh.2.2, h.symm⟩
  · cases h

/-! ## operations -/

section
variable {tb : Tb} {st : Store} {t e : TypeId} {i q : TInfo} {kd : IntKind}

theorem beq_ba (a b : Str) : ((⟨⟨a⟩⟩ : ByteArray).toList == (⟨⟨b⟩⟩ : ByteArray).toList) = (a == b) := by
  rw [ByteArray.toList_eq, ByteArray.toList_eq]
theorem beq_str (a b : Str) : ((⟨⟨a⟩⟩ : ByteArray) == ⟨⟨b⟩⟩) = (a == b) := by
  rw [beq_toListBytes, beq_ba]
theorem str_eq (a b : Str) : abin tb st .eql t (strV a) (strV b) = some (.sc (.bool (a == b))) := by
  show some (AV.sc (.bool ((⟨⟨a⟩⟩ : ByteArray).toList == (⟨⟨b⟩⟩ : ByteArray).toList))) = _
  rw [beq_ba]
theorem str_ne (a b : Str) : abin tb st .neq t (strV a) (strV b) = some (.sc (.bool (!(a == b)))) := by
  show some (AV.sc (.bool (!((⟨⟨a⟩⟩ : ByteArray).toList == (⟨⟨b⟩⟩ : ByteArray).toList)))) = _
  rw [beq_ba]
def ltS (a b : Str) : Bool := Op.bytesLess a b
theorem str_lt (a b : Str) : abin tb st .lss t (strV a) (strV b) = some (.sc (.bool (ltS a b))) := by
  show some (AV.sc (.bool (Op.bytesLess (⟨⟨a⟩⟩ : ByteArray).toList (⟨⟨b⟩⟩ : ByteArray).toList))) = _
  rw [ByteArray.toList_eq, ByteArray.toList_eq]; rfl
theorem str_ge (a b : Str) : abin tb st .geq t (strV a) (strV b) = some (.sc (.bool (!(ltS a b)))) := by
  show some (AV.sc (.bool (!(Op.bytesLess (⟨⟨a⟩⟩ : ByteArray).toList (⟨⟨b⟩⟩ : ByteArray).toList)))) = _
  rw [ByteArray.toList_eq, ByteArray.toList_eq]; rfl
theorem str_le (a b : Str) : abin tb st .leq t (strV a) (strV b) = some (.sc (.bool (ltS a b || a == b))) := by
  show some (AV.sc (.bool (Op.bytesLess (⟨⟨a⟩⟩ : ByteArray).toList (⟨⟨b⟩⟩ : ByteArray).toList || (⟨⟨a⟩⟩ : ByteArray).toList == (⟨⟨b⟩⟩ : ByteArray).toList))) = _
  rw [ByteArray.toList_eq, ByteArray.toList_eq]; rfl
theorem str_gt (a b : Str) : abin tb st .gtr t (strV a) (strV b) = some (.sc (.bool (!(ltS a b || a == b)))) := by
  show some (AV.sc (.bool (!(Op.bytesLess (⟨⟨a⟩⟩ : ByteArray).toList (⟨⟨b⟩⟩ : ByteArray).toList || (⟨⟨a⟩⟩ : ByteArray).toList == (⟨⟨b⟩⟩ : ByteArray).toList)))) = _
  rw [ByteArray.toList_eq, ByteArray.toList_eq]; rfl

theorem ba_append (a b : Str) : (⟨⟨a⟩⟩ : ByteArray) ++ ⟨⟨b⟩⟩ = ⟨⟨a ++ b⟩⟩ := by
  apply ByteArray.ext
  rw [ByteArray.data_append]
  simp
theorem str_cat {a b r : Str} (h : cat? a b = some r) : abin tb st .add t (strV a) (strV b) = some (strV r) := by
  unfold cat? at h
  split at h
  · rename_i hl
    simp only [Option.some.injEq] at h
    subst h
    show (if (⟨⟨a⟩⟩ : ByteArray).size + (⟨⟨b⟩⟩ : ByteArray).size ≤ 9223372036854775807 then some (Value.string (⟨⟨a⟩⟩ ++ ⟨⟨b⟩⟩)) else none).map AV.sc = _
    rw [if_pos (show (⟨⟨a⟩⟩ : ByteArray).size + (⟨⟨b⟩⟩ : ByteArray).size ≤ 9223372036854775807 from hl), ba_append]
    rfl
  · cases h

theorem ba_get (s : Str) (j : Nat) : (⟨⟨s⟩⟩ : ByteArray)[j]? = s[j]? := by
  by_cases h : j < s.length
  · rw [getElem?_pos (⟨⟨s⟩⟩ : ByteArray) j h, List.getElem?_eq_getElem h]
    rfl
  · rw [getElem?_neg (⟨⟨s⟩⟩ : ByteArray) j h, List.getElem?_eq_none (Nat.le_of_not_lt h)]

theorem str_at {s : Str} {j : Int} {b : UInt8} (ht : tb t = some i) (hk : i.kind = .str) (h : at? s j = some b) : aindex tb t (strV s) (.sc (.int kd j)) = some (.sc (.int .u8 b.toNat)) := by
  obtain ⟨h1, h2, _⟩ := at?_some h
  unfold aindex strV
  rw [ht]
  dsimp only
  rw [if_neg h1, hk]
  dsimp only
  rw [ba_get, h2]
  rfl

theorem bounds_mk {len : Nat} {lo hi : Option AV} {l h : Int} (hh : (match hi with | some v => natOf len v | none => some len) = some h.toNat) (hl : (match lo with | some v => natOf h.toNat v | none => some 0) = some l.toNat) : bounds len lo hi = some (l.toNat, h.toNat) := by
  have h2 : bounds len lo hi = match (match hi with | some v => natOf len v | none => some len) with
    | none => none
    | some h => match (match lo with | some v => natOf h v | none => some 0) with
      | none => none
      | some l => some (l, h) := rfl
  rw [h2]
  simp only [hh, hl]

/-- the bounds' values: given, or not -/
def loV : Option AV → Int → Prop
  | some v, n => ∃ k, v = .sc (.int k n)
  | none, n => n = 0
def hiV (m : Nat) : Option AV → Int → Prop
  | some v, n => ∃ k, v = .sc (.int k n)
  | none, n => n = m

theorem loV_some {k : IntKind} {n : Int} : loV (some (.sc (.int k n))) n := ⟨k, rfl⟩
theorem loV_none : loV none 0 := rfl
theorem hiV_some {m : Nat} {k : IntKind} {n : Int} : hiV m (some (.sc (.int k n))) n := ⟨k, rfl⟩
theorem hiV_none {m : Nat} : hiV m none m := rfl

theorem bounds_ok {m : Nat} {lo hi : Option AV} {l h : Int} (h1 : loV lo l) (h2 : hiV m hi h) (h0 : 0 ≤ l) (h3 : l ≤ h) (h4 : h ≤ m) : bounds m lo hi = some (l.toNat, h.toNat) := by
  apply bounds_mk
  · cases hi with
    | none => simp only [hiV] at h2; subst h2; simp
    | some v =>
      obtain ⟨k, rfl⟩ := h2
      simp only [natOf]
      rw [if_pos ⟨by omega, h4⟩]
  · cases lo with
    | none => simp only [loV] at h1; subst h1; rfl
    | some v =>
      obtain ⟨k, rfl⟩ := h1
      simp only [natOf]
      rw [if_pos ⟨h0, by omega⟩]

theorem str_sub {s r : Str} {lo hi : Option AV} {l h : Int} (ht : tb t = some i) (hk : i.kind = .str) (h1 : loV lo l) (h2 : hiV s.length hi h) (hr : sub? s l h = some r) : aslice tb st t (strV s) lo hi = some (strV r) := by
  obtain ⟨a, b, c, rfl⟩ := sub?_some hr
  have hb : bounds (⟨⟨s⟩⟩ : ByteArray).size lo hi = some (l.toNat, h.toNat) := bounds_ok h1 h2 a b c
  unfold aslice strV
  rw [ht]
  dsimp only
  rw [hk]
  dsimp only
  rw [hb]
  show some (AV.sc (.string ((⟨⟨s⟩⟩ : ByteArray).extract l.toNat h.toNat))) = _
  have : (⟨⟨s⟩⟩ : ByteArray).extract l.toNat h.toNat = ⟨⟨(s.take h.toNat).drop l.toNat⟩⟩ := by
    apply ByteArray.ext
    apply Array.ext'
    have := Go.Lib.extract_data (⟨⟨s⟩⟩ : ByteArray) l.toNat h.toNat
    rw [this]
    show (s.drop l.toNat).take (h.toNat - l.toNat) = _
    rw [List.drop_take]
  rw [this]

end

theorem flat_length {α : Type} {c : α → List AV} {k : Nat} (hk : ∀ x, (c x).length = k) (l : List α) : (l.flatMap c).length = l.length * k := by
  induction l with
  | nil => simp
  | cons x l ih => simp [ih, hk, Nat.add_mul, Nat.add_comm]

theorem flat_drop {α : Type} {c : α → List AV} {k : Nat} (hk : ∀ x, (c x).length = k) : ∀ (l : List α) (i : Nat), (l.flatMap c).drop (i * k) = (l.drop i).flatMap c
  | [], i => by simp
  | x :: l, 0 => by simp
  | x :: l, i + 1 => by
    have : (i + 1) * k = (c x).length + i * k := by rw [hk, Nat.add_mul, Nat.one_mul, Nat.add_comm]
    rw [this, List.flatMap_cons, List.drop_length_add_append, flat_drop hk l i]
    rfl

theorem flat_take {α : Type} {c : α → List AV} {k : Nat} (hk : ∀ x, (c x).length = k) : ∀ (l : List α) (i : Nat), (l.flatMap c).take (i * k) = (l.take i).flatMap c
  | [], i => by simp
  | x :: l, 0 => by simp
  | x :: l, i + 1 => by
    have : (i + 1) * k = (c x).length + i * k := by rw [hk, Nat.add_mul, Nat.one_mul, Nat.add_comm]
    rw [this, List.flatMap_cons, List.take_length_add_append, flat_take hk l i]
    rfl

theorem flat_at {α : Type} {c : α → List AV} {k : Nat} (hk : ∀ x, (c x).length = k) (l : List α) (i : Nat) (x : α) (h : l[i]? = some x) : ((l.flatMap c).drop (i * k)).take k = c x := by
  obtain ⟨hlt, rfl⟩ := List.getElem?_eq_some_iff.1 h
  rw [flat_drop hk]
  have := flat_take hk (l.drop i) 1
  rw [Nat.one_mul] at this
  rw [this, List.drop_eq_getElem_cons hlt, List.take_succ_cons, List.take_zero, List.flatMap_cons, List.flatMap_nil, List.append_nil]

theorem setCells_append (a b l : List AV) (o : Nat) (h : o + l.length ≤ a.length) : setCells (a ++ b) o l = setCells a o l ++ b := by
  induction l generalizing a o with
  | nil => rfl
  | cons v l ih =>
    simp only [List.length_cons] at h
    simp only [setCells]
    rw [List.set_append_left _ _ (by omega), ih _ _ (by rw [List.length_set]; omega)]

theorem setCells_append_right (a b l : List AV) (o : Nat) : setCells (a ++ b) (a.length + o) l = a ++ setCells b o l := by
  induction l generalizing b o with
  | nil => rfl
  | cons v l ih =>
    simp only [setCells]
    rw [List.set_append_right _ _ (by omega), show a.length + o - a.length = o by omega, Nat.add_assoc, ih]

theorem flat_set {α : Type} {c : α → List AV} {k : Nat} (hk : ∀ x, (c x).length = k) : ∀ (l : List α) (i o : Nat) (x y : α) (vs : List AV), l[i]? = some x → o + vs.length ≤ k → setCells (c x) o vs = c y →
    setCells (l.flatMap c) (i * k + o) vs = (l.set i y).flatMap c
  | [], i, o, x, y, vs, h, _, _ => by simp at h
  | z :: l, 0, o, x, y, vs, h, ho, hs => by
    simp only [List.getElem?_cons_zero, Option.some.injEq] at h
    subst h
    simp only [List.flatMap_cons, List.set_cons_zero, Nat.zero_mul, Nat.zero_add]
    rw [setCells_append _ _ _ _ (by rw [hk]; exact ho), hs]
  | z :: l, i + 1, o, x, y, vs, h, ho, hs => by
    simp only [List.getElem?_cons_succ] at h
    have : (i + 1) * k + o = (c z).length + (i * k + o) := by rw [hk, Nat.add_mul, Nat.one_mul]; omega
    rw [this, List.flatMap_cons, setCells_append_right, flat_set hk l i o x y vs h ho hs]
    rfl

section
variable {α : Type} (T : Ty α) {tb : Tb} {st : Store} {t e : TypeId} {i q : TInfo} {kd : IntKind}

theorem sl_slice (l : List α) : sliceOf T.size st (T.sl l) = some (l.length, l.flatMap T.cells) := by
  unfold sliceOf Ty.sl
  dsimp only
  rw [if_pos (flat_length T.len l).symm]

/-- an element's address -/
theorem sl_addr {l : List α} {j : Int} {x : α} (ht : tb t = some i) (hk : i.kind = .slice e) (he : tb e = some q) (hs : q.size = T.size) (h : at? l j = some x) : aindexAddr tb st t (T.sl l) (.sc (.int kd j)) = some (.fp (l.flatMap T.cells) (j.toNat * T.size)) := by
  obtain ⟨h1, h2, h3, _⟩ := at?_some h
  unfold aindexAddr Ty.sl
  rw [ht]
  dsimp only
  rw [if_neg h1, hk]
  dsimp only
  rw [he]
  dsimp only
  rw [hs, if_pos ⟨(flat_length T.len l).symm, h3⟩]

/-- one cell of an element -/
theorem fp_load1 {l : List α} {j : Int} {x : α} {o : Nat} {v : AV} (ht : tb t = some i) (ha : i.kind.agg = false) (h : at? l j = some x) (ho : (T.cells x)[o]? = some v) : aload tb st t (.fp (l.flatMap T.cells) (j.toNat * T.size + o)) = some v := by
  obtain ⟨_, h2, _⟩ := at?_some h
  have hk := flat_at T.len l j.toNat x h2
  have hlt : o < T.size := by
    have := (List.getElem?_eq_some_iff.1 ho).1
    rwa [T.len] at this
  unfold aload
  rw [ht]
  show ofCells i.kind.agg _ _ _ = _
  unfold ofCells
  rw [ha]
  simp only [Bool.false_eq_true, if_false]
  rw [← ho, ← hk, List.getElem?_take_of_lt hlt, List.getElem?_drop]

/-- some cells of an element -/
theorem fp_loadN {l : List α} {j : Int} {x : α} {o : Nat} {vs : List AV} (ht : tb t = some i) (ha : i.kind.agg = true) (h : at? l j = some x) (hlen : o + i.size ≤ T.size) (ho : ((T.cells x).drop o).take i.size = vs) : aload tb st t (.fp (l.flatMap T.cells) (j.toNat * T.size + o)) = some (.agg vs) := by
  obtain ⟨_, h2, _, hlt, _⟩ := at?_some h
  have hk := flat_at T.len l j.toNat x h2
  have hle : (j.toNat + 1) * T.size ≤ l.length * T.size := Nat.mul_le_mul_right _ hlt
  rw [Nat.add_mul, Nat.one_mul] at hle
  unfold aload
  rw [ht]
  show ofCells i.kind.agg _ _ _ = _
  unfold ofCells
  rw [ha]
  simp only [if_true]
  rw [if_pos (by rw [flat_length T.len]; omega), ← ho, ← hk]
  congr 2
  rw [List.drop_take, List.take_take, List.drop_drop, Nat.min_eq_left (by omega)]

theorem sl_sub {l r : List α} {lo hi : Option AV} {a b : Int} (ht : tb t = some i) (hk : i.kind = .slice e) (he : tb e = some q) (hs : q.size = T.size) (h1 : loV lo a) (h2 : hiV l.length hi b) (hr : sub? l a b = some r) : aslice tb st t (T.sl l) lo hi = some (T.sl r) := by
  obtain ⟨x, y, z, rfl⟩ := sub?_some hr
  have hb := bounds_ok h1 h2 x y z
  have hsl := sl_slice T (st := st) l
  unfold Ty.sl at hsl ⊢
  unfold aslice
  rw [ht]
  dsimp only
  rw [hk]
  dsimp only
  rw [he]
  dsimp only
  rw [hs, hsl]
  dsimp only
  rw [hb]
  dsimp only [Option.map_some]
  have e1 : ((l.take b.toNat).drop a.toNat).length = b.toNat - a.toNat := by simp; omega
  rw [e1, flat_drop T.len, flat_take T.len, List.drop_take]

/-! ## arrays of one's own -/

/-- a whole array of one's own -/
def Ty.arr (T : Ty α) (e : TypeId) (ver : Nat) (l : List α) : AObj := .arr e T.size ver l.length (l.flatMap T.cells)
def Ty.own (T : Ty α) (id ver : Nat) (l : List α) : AV := .own id ver 0 l.length

variable {id ver : Nat} {l : List α}

theorem own_slice (h : st[id]? = some (T.arr e ver l)) : sliceOf T.size st (T.own id ver l) = some (l.length, l.flatMap T.cells) := by
  unfold sliceOf Ty.own
  dsimp only
  rw [h]
  unfold Ty.arr
  dsimp only
  rw [if_pos ⟨rfl, rfl, by omega⟩, Nat.zero_mul, List.drop_zero, List.take_of_length_le (by rw [flat_length T.len]; omega)]

theorem own_len (ht : tb t = some i) (hk : i.kind = .slice e) (h : st[id]? = some (T.arr e ver l)) (ts : List TypeId) (xs : List AV) : abuiltin tb st .len (t :: ts) (T.own id ver l :: xs) = some (.sc (.int .i64 l.length), st) := by
  unfold abuiltin
  dsimp only
  rw [ht]
  dsimp only
  rw [hk]
  dsimp only
  have hl : lenOf st (T.own id ver l) = some l.length := by
    unfold lenOf Ty.own
    dsimp only
    rw [h]
    unfold Ty.arr
    dsimp only
    simp
  rw [hl]
  rfl

theorem own_addr {j : Int} {x : α} (ht : tb t = some i) (hk : i.kind = .slice e) (he : tb e = some q) (hs : q.size = T.size) (h : st[id]? = some (T.arr e ver l)) (hx : at? l j = some x) : aindexAddr tb st t (T.own id ver l) (.sc (.int kd j)) = some (.ref id ver (j.toNat * T.size)) := by
  obtain ⟨h1, h2, h3, _⟩ := at?_some hx
  have hsl := own_slice T h
  unfold aindexAddr Ty.own at *
  rw [ht]
  dsimp only
  rw [if_neg h1, hk]
  dsimp only
  rw [he]
  dsimp only
  rw [hs, hsl]
  dsimp only
  rw [if_pos h3, Nat.zero_add]

theorem ref_row {off : Nat} (h : st[id]? = some (T.arr e ver l)) : row st (.ref id ver off) = some (l.flatMap T.cells, off) := by
  unfold row
  dsimp only
  rw [h]
  unfold Ty.arr
  dsimp only
  rw [if_pos rfl]

theorem ref_load1 {j : Int} {x : α} {o : Nat} {v : AV} (ht : tb t = some i) (ha : i.kind.agg = false) (h : st[id]? = some (T.arr e ver l)) (hx : at? l j = some x) (ho : (T.cells x)[o]? = some v) : aload tb st t (.ref id ver (j.toNat * T.size + o)) = some v := by
  have := fp_load1 T (st := st) ht ha hx ho
  unfold aload at *
  rw [ref_row T h]
  exact this

theorem ref_loadN {j : Int} {x : α} {o : Nat} {vs : List AV} (ht : tb t = some i) (ha : i.kind.agg = true) (h : st[id]? = some (T.arr e ver l)) (hx : at? l j = some x) (hlen : o + i.size ≤ T.size) (ho : ((T.cells x).drop o).take i.size = vs) : aload tb st t (.ref id ver (j.toNat * T.size + o)) = some (.agg vs) := by
  have := fp_loadN T (st := st) ht ha hx hlen ho
  unfold aload at *
  rw [ref_row T h]
  exact this

theorem ref_field {off f : Nat} {fs : List FI} {g : FI} (ht : tb t = some i) (hk : i.kind = .struct fs) (hf : fs[f]? = some g) (hg : g.size ≠ 0) (h : st[id]? = some (T.arr e ver l)) : afieldAddr tb st t (.ref id ver off) f = some (.ref id ver (off + g.off)) := by
  unfold afieldAddr
  rw [ht]
  dsimp only
  rw [hk]
  dsimp only
  rw [hf, ref_row T h]
  dsimp only
  rw [if_neg hg]

theorem ref_nil {off : Nat} (h : st[id]? = some (T.arr e ver l)) : (if (row st (.ref id ver off)).isSome = true then (some (.ref id ver off, st) : ARes) else none) = some (.ref id ver off, st) := by
  rw [ref_row T h]
  rfl

theorem ref_store {j : Int} {x y : α} {o : Nat} {vs : List AV} (h : st[id]? = some (T.arr e ver l)) (hone : vs.all AV.one = true) (hx : at? l j = some x) (hlen : o + vs.length ≤ T.size) (hs : setCells (T.cells x) o vs = T.cells y) :
    astore st (.ref id ver (j.toNat * T.size + o)) vs = some (st.set id (T.arr e ver (l.set j.toNat y))) := by
  obtain ⟨_, h2, _, hlt, _⟩ := at?_some hx
  have hle : (j.toNat + 1) * T.size ≤ l.length * T.size := Nat.mul_le_mul_right _ hlt
  rw [Nat.add_mul, Nat.one_mul] at hle
  unfold astore
  rw [if_neg (by simp [hone])]
  dsimp only
  rw [h]
  unfold Ty.arr
  dsimp only
  rw [if_pos ⟨rfl, by rw [flat_length T.len]; omega⟩, flat_set T.len l j.toNat o x y vs h2 hlen hs, List.length_set]

/-- append to an array of one's own -/
theorem own_app {bytes : Nat} {r y : List α} (he : tb e = some q) (hs : q.size = T.size) (hb : q.bytes = bytes) (hz : T.size ≠ 0) (hz2 : bytes ≠ 0) (h : st[id]? = some (T.arr e ver l)) (hr : app? bytes l y = some r) :
    aappend tb st e (T.own id ver l) (y.length, y.flatMap T.cells) = some (T.own id (ver + 1) r, st.set id (T.arr e (ver + 1) r)) := by
  unfold app? at hr
  split at hr
  · rename_i hle
    simp only [Option.some.injEq] at hr
    subst hr
    have hone : (y.flatMap T.cells).all AV.one = true := by
      rw [List.all_flatMap]
      exact List.all_eq_true.2 fun x _ => T.one x
    unfold aappend Ty.own
    rw [he]
    dsimp only
    rw [hs, hb, if_neg (by simp only [not_or]; exact ⟨by simp [flat_length T.len], by simp only [hone]; simp, hz, hz2⟩), h]
    unfold Ty.arr
    dsimp only
    rw [if_pos ⟨rfl, rfl, Nat.le_refl _, rfl, rfl, hle⟩, List.take_of_length_le (by rw [flat_length T.len]; omega), List.flatMap_append, List.length_append]
  · cases hr

/-- append to nothing -/
theorem nil_app {bytes : Nat} {r y : List α} (he : tb e = some q) (hs : q.size = T.size) (hb : q.bytes = bytes) (hz : T.size ≠ 0) (hz2 : bytes ≠ 0) (hy : (decide (y.length = 0)) = false) (hr : app? bytes [] y = some r) :
    aappend tb st e (.sc (.slice none 0 0)) (y.length, y.flatMap T.cells) = some (T.own st.length 0 r, st ++ [T.arr e 0 r]) := by
  unfold app? at hr
  split at hr
  · rename_i hle
    simp only [Option.some.injEq, List.nil_append] at hr
    subst hr
    have hone : (y.flatMap T.cells).all AV.one = true := by
      rw [List.all_flatMap]
      exact List.all_eq_true.2 fun x _ => T.one x
    have hy' : ¬ y.length = 0 := by simpa using hy
    unfold aappend
    rw [he]
    dsimp only
    rw [hs, hb, if_neg (by simp only [not_or]; exact ⟨by simp [flat_length T.len], by simp only [hone]; simp, hz, hz2⟩), if_neg hy', if_pos (by simpa [maxBytes] using hle)]
    rfl
  · cases hr

theorem own_frz {n0 k : Nat} (hid : (decide (id < n0)) = false) (h : st[id]? = some (T.arr e ver l)) : frz n0 st (k + 2) (T.own id ver l) = T.sl l := by
  have hid' : ¬ id < n0 := by simpa using hid
  unfold Ty.own
  unfold frz
  simp only [AV.pure, Bool.false_eq_true, if_false, hid', h]
  unfold Ty.arr
  dsimp only
  rw [if_pos ⟨rfl, by omega⟩, Nat.zero_mul, List.drop_zero, List.take_of_length_le (by rw [flat_length T.len]; omega)]
  unfold Ty.sl
  congr 1
  have hp := pureL_flat (c := T.cells) (l := l) fun x _ => T.pure x
  have hn := scrubL_flat (c := T.cells) n0 (l := l) fun x _ => T.norm n0 x
  generalize l.flatMap T.cells = cs at hp hn
  clear h hid hid'
  induction cs with
  | nil => rfl
  | cons a cs ih =>
    simp only [pureL, Bool.and_eq_true] at hp
    simp only [scrubL, List.cons.injEq] at hn
    rw [List.map_cons, ih hp.2 hn.2, frz_pure hp.1, hn.1]

theorem own_scrub {n0 : Nat} (hid : (decide (id < n0)) = true) : (T.own id ver l).scrub n0 = T.own id ver l := by
  unfold Ty.own
  rw [AV.scrub, if_pos (by simpa using hid)]

theorem arr_scrub {n0 : Nat} : (T.arr e ver l).scrub n0 = T.arr e ver l := by
  unfold Ty.arr
  rw [AObj.scrub, scrubL_flat n0 fun x _ => T.norm n0 x]

end

theorem frz_tup {n0 k : Nat} {st : Store} {vs : List AV} : frz n0 st (k + 2) (.tup vs) = .tup (vs.map (frz n0 st (k + 1))) := by
  unfold frz
  split
  · rename_i h
    rw [AV.scrub]
    congr 1
    simp only [AV.pure] at h
    induction vs with
    | nil => rfl
    | cons a vs ih =>
      simp only [pureL, Bool.and_eq_true] at h
      rw [List.map_cons, scrubL, ih h.2, frz_pure h.1]
  · rfl
theorem frz_agg {n0 k : Nat} {st : Store} {vs : List AV} : frz n0 st (k + 2) (.agg vs) = .agg (vs.map (frz n0 st (k + 1))) := by
  unfold frz
  split
  · rename_i h
    rw [AV.scrub]
    congr 1
    simp only [AV.pure] at h
    induction vs with
    | nil => rfl
    | cons a vs ih =>
      simp only [pureL, Bool.and_eq_true] at h
      rw [List.map_cons, scrubL, ih h.2, frz_pure h.1]
  · rfl
theorem frz_sc {n0 k : Nat} {st : Store} {v : Value} : frz n0 st (k + 1) (.sc v) = nilz v := by
  rw [frz_pure rfl]
  rfl
theorem nilz_int {k : IntKind} {n : Int} : nilz (.int k n) = .sc (.int k n) := rfl
theorem nilz_bool {b : Bool} : nilz (.bool b) = .sc (.bool b) := rfl
theorem nilz_str {b : ByteArray} : nilz (.string b) = .sc (.string b) := rfl
theorem nilz_nil {α : Type} (T : Ty α) : nilz (.slice none 0 0) = T.sl [] := rfl

end Go.Abs
