/-
  What the tree's finders compute, in plain words. Lemmas alone; no condition but on sizes.
-/
import Derived.Test.YticlelmlnadclaaDoorKPoDefs
import Derived.Test.YticlelmlnadclaaDoorKPoOk
import Derived.Test.YticlelmlnadclaaDoorKPoH0
set_option linter.unusedVariables false
set_option linter.unusedSimpArgs false
set_option linter.unusedSectionVars false
set_option linter.unnecessarySimpa false
set_option linter.deprecated false
namespace Go.P
open Go Go.Abs

theorem GNode.Ok.kids_len {n : GNode} (h : n.Ok) : n.kids.length ≤ maxLen := h.kids.1
theorem GNode.Ok.props_len {n : GNode} (h : n.Ok) : n.props.length ≤ maxLen := h.props.1
theorem GNode.Ok.kid {n k : GNode} (h : n.Ok) (hk : k ∈ n.kids) : k.Ok := h.kids.2 k hk
theorem GNode.Ok.nil : (GNode.mk [] [] []).Ok := .mk _ _ _ (by decide) ⟨by decide, fun _ h => by cases h⟩ (by decide) (fun _ h => by cases h)

theorem maxLen_eq : maxLen = 9223372036854775807 := by decide
theorem maxLen_small {n : Nat} (h : n ≤ maxLen) : n < 9223372036854775808 := by rw [maxLen_eq] at h; omega

/-- the first kid of a name -/
def findK (name : Str) (l : List GNode) : Option GNode := l.find? fun k => k.name == name

theorem find_idx {α : Type} (p : α → Bool) (l : List α) (i : Nat) :
    goL (fun i (_ : Unit) x => if p x = true then some (.inr (.inr (i : Int))) else some (.inl ())) (fun _ => (.inl () : Unit ⊕ Int)) i () l = (some (match l.findIdx? p with | some j => .inr ((i + j : Nat) : Int) | none => .inl ()) : Option (Unit ⊕ Int)) := by
  induction l generalizing i with
  | nil => rfl
  | cons x l ih =>
    unfold goL
    rw [List.findIdx?_cons]
    cases hp : p x with
    | true => simp
    | false =>
      simp only [Bool.false_eq_true, if_false]
      rw [ih]
      cases l.findIdx? p with
      | none => rfl
      | some j => simp [Nat.add_assoc, Nat.add_comm 1 j]

theorem find_of_idx {α : Type} (p : α → Bool) (l : List α) : (match l.findIdx? p with | some j => l[j]? | none => none) = l.find? p := by
  induction l with
  | nil => rfl
  | cons x l ih =>
    rw [List.findIdx?_cons, List.find?_cons]
    cases hp : p x with
    | true => simp
    | false =>
      simp only [Bool.false_eq_true, if_false]
      rw [← ih]
      cases l.findIdx? p <;> simp

theorem path_Kid_eq (n : GNode) (name : Str) (h : n.kids.length ≤ maxLen) : path_Kid n name = some (match findK name n.kids with | some k => (k, true) | none => (GNode.mk [] [] [], false)) := by
  have hl : loopN (path_Kid_l1 n name) 0 = some (match n.kids.findIdx? (fun k => k.name == name) with | some j => .inr (j : Int) | none => .inl ()) := by
    rw [loopN_idx n.kids (fun i x => if (x.name == name) = true then some (.inr (.inr (i : Int))) else some (.inl ())) (.inl ())]
    · rw [find_idx (fun k : GNode => k.name == name) n.kids 0]
      simp
    · intro i x hi hx
      unfold path_Kid_l1
      rw [if_pos (by simp; omega), at_nat, hx, wrap_succ (by have := maxLen_small h; omega)]
      simp only [Option.bind_some]
      split <;> rfl
    · unfold path_Kid_l1
      rw [if_neg (by simp)]
  unfold path_Kid findK
  rw [hl, ← find_of_idx]
  cases hj : n.kids.findIdx? (fun k => k.name == name) with
  | none => rfl
  | some j =>
    have hlt : j < n.kids.length := (List.findIdx?_eq_some_iff_findIdx_eq.1 hj).1
    simp only [Option.bind_some]
    rw [if_neg (by simp), at_nat, List.getElem?_eq_getElem hlt]
    rfl

theorem ref16_Kid_eq (n : GNode) (name : Str) (h : n.kids.length ≤ maxLen) : ref16_Kid n name = some (match findK name n.kids with | some k => (k, true) | none => (GNode.mk [] [] [], false)) := by
  have hl : loopN (ref16_Kid_l1 n name) 0 = some (match findK name n.kids with | some k => .inr (k.name, k.props, k.kids) | none => .inl ()) := by
    rw [loopN_idx n.kids (fun i x => if (x.name == name) = true then some (.inr (.inr (x.name, x.props, x.kids))) else some (.inl ())) (.inl ())]
    · unfold findK
      generalize 0 = i
      induction n.kids generalizing i with
      | nil => rfl
      | cons x l ih =>
        unfold goL
        rw [List.find?_cons]
        cases hp : x.name == name with
        | true => simp
        | false =>
          simp only [hp, Bool.false_eq_true, if_false]
          exact ih (i + 1)
    · intro i x hi hx
      unfold ref16_Kid_l1
      rw [if_pos (by simp; omega), at_nat, hx, wrap_succ (by have := maxLen_small h; omega)]
      simp only [Option.bind_some]
      split <;> rfl
    · unfold ref16_Kid_l1
      rw [if_neg (by simp)]
  unfold ref16_Kid
  rw [hl]
  cases findK name n.kids with
  | none => rfl
  | some k => simp [GNode.eta]

theorem findK_mem {name : Str} {l : List GNode} {k : GNode} (h : findK name l = some k) : k ∈ l := List.mem_of_find?_eq_some h

/-- the value of a property -/
def valueOf (name : Str) (l : List GProp) : Option Str := (l.find? fun p => p.name == name).map GProp.value

theorem path_Value_eq (n : GNode) (name : Str) (h : n.props.length ≤ maxLen) : path_Value n name = some (match valueOf name n.props with | some k => (k, true) | none => ([], false)) := by
  have hl : loopN (path_Value_l1 n name) 0 = some (match n.props.findIdx? (fun k => k.name == name) with | some j => .inr (j : Int) | none => .inl ()) := by
    rw [loopN_idx n.props (fun i x => if (x.name == name) = true then some (.inr (.inr (i : Int))) else some (.inl ())) (.inl ())]
    · rw [find_idx (fun k : GProp => k.name == name) n.props 0]
      simp
    · intro i x hi hx
      unfold path_Value_l1
      rw [if_pos (by simp; omega), at_nat, hx, wrap_succ (by have := maxLen_small h; omega)]
      simp only [Option.bind_some]
      split <;> rfl
    · unfold path_Value_l1
      rw [if_neg (by simp)]
  unfold path_Value valueOf
  rw [hl, ← find_of_idx]
  cases hj : n.props.findIdx? (fun k => k.name == name) with
  | none => rfl
  | some j =>
    have hlt : j < n.props.length := (List.findIdx?_eq_some_iff_findIdx_eq.1 hj).1
    simp only [Option.bind_some]
    rw [if_neg (by simp), at_nat, List.getElem?_eq_getElem hlt]
    rfl

theorem ref16_Value_eq (n : GNode) (name : Str) (h : n.props.length ≤ maxLen) : ref16_Value n name = some (match valueOf name n.props with | some k => (k, true) | none => ([], false)) := by
  have hl : loopN (ref16_Value_l1 n name) 0 = some (match valueOf name n.props with | some k => .inr k | none => .inl ()) := by
    rw [loopN_idx n.props (fun i x => if (x.name == name) = true then some (.inr (.inr x.value)) else some (.inl ())) (.inl ())]
    · unfold valueOf
      generalize 0 = i
      induction n.props generalizing i with
      | nil => rfl
      | cons x l ih =>
        unfold goL
        rw [List.find?_cons]
        cases hp : x.name == name with
        | true => simp
        | false =>
          simp only [hp, Bool.false_eq_true, if_false]
          exact ih (i + 1)
    · intro i x hi hx
      unfold ref16_Value_l1
      rw [if_pos (by simp; omega), at_nat, hx, wrap_succ (by have := maxLen_small h; omega)]
      simp only [Option.bind_some]
      split <;> rfl
    · unfold ref16_Value_l1
      rw [if_neg (by simp)]
  unfold ref16_Value
  rw [hl]
  cases valueOf name n.props with
  | none => rfl
  | some k => rfl

/-- a path's names -/
def partsS (p : Str) : Option (List Str) :=
  match p with
  | [] => none
  | c :: r => if c == 47 then (if r = [] then some [] else if (splitL 47 [] r).length ≥ 8 ∨ [] ∈ splitL 47 [] r then none else some (splitL 47 [] r)) else none

def resParts (o : Option (List Str)) : List Str × Bool := match o with | some l => (l, true) | none => ([], false)

theorem slices_Index_eq (l : List Str) (v : Str) (h : l.length ≤ maxLen) : slices_Index_string l v = some (match l.findIdx? (fun x => v == x) with | some j => (j : Int) | none => -1) := by
  have hl : loopN (slices_Index_string_l1 l v) 0 = some (match l.findIdx? (fun x => v == x) with | some j => .inr (j : Int) | none => .inl ()) := by
    rw [loopN_idx l (fun i x => if (v == x) = true then some (.inr (.inr (i : Int))) else some (.inl ())) (.inl ())]
    · rw [find_idx (fun x => v == x) l 0]
      simp
    · intro i x hi hx
      unfold slices_Index_string_l1
      rw [if_pos (by simp; omega), at_nat, hx, wrap_succ (by have := maxLen_small h; omega)]
      simp only [Option.bind_some]
      split <;> rfl
    · unfold slices_Index_string_l1
      rw [if_neg (by simp)]
  unfold slices_Index_string
  rw [hl]
  cases l.findIdx? (fun x => v == x) with
  | none => rfl
  | some j => rfl

theorem slices_Contains_eq (l : List Str) (v : Str) (h : l.length ≤ maxLen) : slices_Contains_string l v = some (decide (v ∈ l)) := by
  unfold slices_Contains_string
  rw [slices_Index_eq l v h]
  simp only [Option.bind_some]
  congr 1
  cases hj : l.findIdx? (fun x => v == x) with
  | none =>
    rw [List.findIdx?_eq_none_iff] at hj
    have : ¬ v ∈ l := fun hm => by have := hj v hm; simp at this
    simp [this]
  | some j =>
    have h1 := List.findIdx?_eq_some_iff_getElem.1 hj
    obtain ⟨h2, h3, _⟩ := h1
    have : v ∈ l := by
      simp at h3
      rw [h3]
      exact List.getElem_mem h2
    simp [this]

theorem splitL_len (c : UInt8) (l : Str) : ∀ acc, (splitL c acc l).length ≤ l.length + 1 := by
  induction l with
  | nil => intro acc; simp [splitL]
  | cons x l ih =>
    intro acc
    unfold splitL
    split
    · have := ih []
      simp
      omega
    · have := ih (x :: acc)
      simp
      omega

theorem cutPrefix_eq (s p : Str) : strings_CutPrefix s p = some (if p.isPrefixOf s = true then (s.drop p.length, true) else (s, false)) := by
  unfold strings_CutPrefix stringslite_CutPrefix stringslite_HasPrefix
  by_cases h : p.length ≤ s.length
  · rw [if_pos (by simp; omega), sub_zero _ _ h]
    simp only [Option.bind_some]
    by_cases hp : p <+: s
    · have h1 : s.take p.length = p := (List.prefix_iff_eq_take.1 hp).symm
      have h2 : p.isPrefixOf s = true := List.isPrefixOf_iff_prefix.2 hp
      rw [h1, h2]
      simp only [beq_self_eq_true, Bool.not_true, Bool.false_eq_true, if_false, if_true]
      rw [sub_nat _ _ _ h (Nat.le_refl _)]
      simp
    · have h1 : ¬ s.take p.length = p := fun e => hp (List.prefix_iff_eq_take.2 e.symm)
      have h2 : p.isPrefixOf s = false := by
        cases hb : p.isPrefixOf s with
        | false => rfl
        | true => exact (hp (List.isPrefixOf_iff_prefix.1 hb)).elim
      have h3 : (s.take p.length == p) = false := by simpa using h1
      rw [h2, h3]
      rfl
  · rw [if_neg (by simp; omega)]
    have h2 : p.isPrefixOf s = false := by
      cases hb : p.isPrefixOf s with
      | false => rfl
      | true => have := (List.isPrefixOf_iff_prefix.1 hb).length_le; omega
    rw [h2]
    rfl

theorem path_Parts_eq (p : Str) (h : p.length < 4294967281) : path_Parts p = some (resParts (partsS p)) := by
  unfold path_Parts
  by_cases h1 : p = [47]
  · subst h1; rfl
  · rw [if_neg (by simpa using h1), cutPrefix_eq]
    simp only [Option.bind_some]
    cases p with
    | nil => 
      have : strings_Split [] [47] = some [[]] := by unfold strings_Split; rfl
      simp [List.isPrefixOf, this, partsS, resParts]
    | cons c r =>
      by_cases hc : c = 47
      · subst hc
        have h2 : r ≠ [] := fun e => h1 (by rw [e])
        simp at h
        have h3 : strings_Split r [47] = some (splitL 47 [] r) := by unfold strings_Split; simp; omega
        have h4 := splitL_len 47 r []
        simp only [List.isPrefixOf, beq_self_eq_true, Bool.and_true, if_true, List.drop_succ_cons, List.drop_zero, List.length_cons, List.length_nil, h3, Option.bind_some, Bool.not_true, Bool.false_eq_true, if_false]
        unfold partsS
        simp only [beq_self_eq_true, if_true, h2, if_false]
        by_cases h5 : (splitL 47 [] r).length ≥ 8
        · rw [if_pos (by simp; omega), if_pos (Or.inl h5)]
          rfl
        · rw [if_neg (by simp; omega), slices_Contains_eq _ _ (by rw [maxLen_eq]; omega)]
          simp only [Option.bind_some]
          by_cases h6 : [] ∈ splitL 47 [] r
          · simp [h6, resParts]
          · simp [h6, h5, resParts]
      · have h3 : ∃ x, strings_Split (c :: r) [47] = some x := ⟨splitL 47 [] (c :: r), by unfold strings_Split; dsimp only; rw [if_pos h]⟩
        obtain ⟨x, hx⟩ := h3
        have : (c == 47) = false := by simpa using hc
        have h5 : ((47 : UInt8) == c) = false := by simpa using fun e : (47 : UInt8) = c => hc e.symm
        simp [List.isPrefixOf, h5, hx, partsS, this, resParts]

end Go.P
