/-
  The law of the finder: it answers true for every tree, path and name. Its condition is on the sizes of what is handed in.
-/
import Derived.Test.YticlelmlnadclaaDoorKPoHD
set_option linter.unusedVariables false
set_option linter.unusedSimpArgs false
set_option linter.unusedSectionVars false
set_option linter.unnecessarySimpa false
set_option linter.deprecated false
namespace Go.P
open Go Go.Abs

theorem lowB_find {L : Nat} {n : GNode} (h : lowB L n = true) : ∀ {l : List Str} {m : GNode}, findS n l = some m → ∃ L', lowB L' m = true := by
  intro l
  induction l generalizing n L with
  | nil => intro m hm; simp [findS] at hm; subst hm; exact ⟨L, h⟩
  | cons x l ih =>
    intro m hm
    unfold findS at hm
    obtain ⟨k, hk, hm⟩ := Option.bind_eq_some_iff.1 hm
    cases L with
    | zero => cases h
    | succ L => exact ih ((lowB_succ h).2.2.2.2 k (findK_mem hk)) hm

theorem lowB_value {L : Nat} {n : GNode} (h : lowB L n = true) {name v : Str} (hv : valueOf name n.props = some v) : v.length ≤ 300 := by
  cases L with
  | zero => cases h
  | succ L =>
    unfold valueOf at hv
    obtain ⟨p, hp, rfl⟩ := Option.map_eq_some_iff.1 hv
    exact ((lowB_succ h).2.2.2.1 p (List.mem_of_find?_eq_some hp)).2

/-- what is read of the node at a path -/
def atS (n : GNode) (p name : Str) : Option Str := ((partsS p).bind (findS n)).bind fun m => valueOf name m.props

theorem resNode_ok {n : GNode} (h : n.Ok) (p : Option (List Str)) : (resNode (p.bind (findS n))).1.Ok := by
  cases p with
  | none => exact GNode.Ok.nil
  | some l =>
    show (resNode (findS n l)).1.Ok
    cases hm : findS n l with
    | none => exact GNode.Ok.nil
    | some m => exact findS_ok h hm

theorem valueOf_at (n : GNode) (p name : Str) : valueOf name (resNode ((partsS p).bind (findS n))).1.props = atS n p name := by
  unfold atS
  cases (partsS p).bind (findS n) with
  | none => rfl
  | some m => rfl

theorem atS_len {n : GNode} (h : lowB 12 n = true) {p name v : Str} (hv : atS n p name = some v) : v.length ≤ 300 := by
  unfold atS at hv
  obtain ⟨m, hm, hv⟩ := Option.bind_eq_some_iff.1 hv
  obtain ⟨l, _, hm⟩ := Option.bind_eq_some_iff.1 hm
  obtain ⟨L, hL⟩ := lowB_find h hm
  exact lowB_value hL hv

theorem path_Text_eq {n : GNode} (h : lowB 12 n = true) (p name : Str) (hp : p.length ≤ 200) : path_Text n p name = some (resStr ((atS n p name).bind textS)) := by
  have hn := lowB_ok h
  unfold path_Text
  rw [path_Find_eq n p hn (by omega)]
  simp only [Option.bind_some]
  rw [path_Value_eq _ _ (resNode_ok hn _).props_len, valueOf_at]
  cases hv : atS n p name with
  | none => rfl
  | some v =>
    simp only [Option.bind_some]
    rw [value_AsText_eq v (by have := atS_len h hv; omega)]
    rfl

theorem ref16_at_eq {n : GNode} (h : lowB 12 n = true) (p name : Str) (hp : p.length ≤ 200) : ref16_at n p name = some (match atS n p name with | some v => (v, true) | none => ([], false)) := by
  have hn := lowB_ok h
  unfold ref16_at
  rw [ref16_Find_eq n p hn (by omega)]
  simp only [Option.bind_some]
  have hv := valueOf_at n p name
  have ho := (resNode_ok hn (partsS p)).props_len
  cases hm : (partsS p).bind (findS n) with
  | none =>
    unfold atS
    rw [hm]
    rfl
  | some m =>
    rw [hm] at hv ho
    show (if (!true) = true then _ else _) = _
    simp only [Bool.not_true, Bool.false_eq_true, if_false]
    rw [ref16_Value_eq _ _ ho, hv]
    rfl

theorem ref16_Text_eq {n : GNode} (h : lowB 12 n = true) (p name : Str) (hp : p.length ≤ 200) : ref16_Text n p name = some (resStr ((atS n p name).bind textS)) := by
  unfold ref16_Text
  rw [ref16_at_eq h p name hp]
  cases hv : atS n p name with
  | none => rfl
  | some v =>
    simp only [Option.bind_some, Bool.not_true, Bool.false_eq_true, if_false]
    rw [ref13_AsText_eq v (by have := atS_len h hv; omega)]
    rfl

theorem path_Number_eq {n : GNode} (h : lowB 12 n = true) (p name : Str) (hp : p.length ≤ 200) : path_Number n p name = some (resInt ((atS n p name).bind numS)) := by
  have hn := lowB_ok h
  unfold path_Number
  rw [path_Find_eq n p hn (by omega)]
  simp only [Option.bind_some]
  rw [path_Value_eq _ _ (resNode_ok hn _).props_len, valueOf_at]
  cases hv : atS n p name with
  | none => rfl
  | some v =>
    simp only [Option.bind_some]
    rw [value_AsNumber_eq v]
    rfl

theorem ref16_Number_eq {n : GNode} (h : lowB 12 n = true) (p name : Str) (hp : p.length ≤ 200) : ref16_Number n p name = some (resInt ((atS n p name).bind numS)) := by
  unfold ref16_Number
  rw [ref16_at_eq h p name hp]
  cases hv : atS n p name with
  | none => rfl
  | some v =>
    simp only [Option.bind_some, Bool.not_true, Bool.false_eq_true, if_false]
    rw [ref13_AsNumber_eq v]
    rfl

theorem findK_ok {n : GNode} (hn : n.Ok) (name : Str) : (resNode (findK name n.kids)).1.Ok := by
  cases h : findK name n.kids with
  | none => exact GNode.Ok.nil
  | some k => exact hn.kid (findK_mem h)

theorem path_Kid_eq' (n : GNode) (name : Str) (h : n.kids.length ≤ maxLen) : path_Kid n name = some (resNode (findK name n.kids)) := path_Kid_eq n name h
theorem ref16_Kid_eq' (n : GNode) (name : Str) (h : n.kids.length ≤ maxLen) : ref16_Kid n name = some (resNode (findK name n.kids)) := ref16_Kid_eq n name h

theorem law16_PathFind_true (n : GNode) (p name : Str) (hn : n.Ok) (hp : p.length ≤ maxLen) (hname : name.length ≤ maxLen) : law16_PathFind n p name = some true := by
  unfold law16_PathFind
  rw [Low_eq]
  simp only [Option.bind_some]
  cases hb : (lowB 12 n && decide (sizeS 12 n ≤ 400)) with
  | false => rfl
  | true =>
    have h : lowB 12 n = true := (Bool.and_eq_true _ _ ▸ hb : _ ∧ _).1
    simp only [Bool.not_true, Bool.false_eq_true, if_false]
    by_cases h1 : p.length > 200
    · rw [if_pos (by simp; omega)]
      rfl
    · rw [if_neg (by simp; omega)]
      by_cases h2 : name.length > 200
      · rw [if_pos (by simp; omega)]
        rfl
      · rw [if_neg (by simp; omega), path_Find_eq n p hn (by omega), ref16_Find_eq n p hn (by omega), path_Kid_eq' n name hn.kids_len, ref16_Kid_eq' n name hn.kids_len]
        simp only [Option.bind_some]
        have ho := resNode_ok hn (partsS p)
        rw [Same_refl _ ho]
        simp only [Option.bind_some, Bool.not_true, Bool.false_eq_true, if_false, beq_self_eq_true]
        rw [Same_refl _ (findK_ok hn name)]
        simp only [Option.bind_some, Bool.not_true, Bool.false_eq_true, if_false, beq_self_eq_true]
        rw [path_Value_eq _ _ ho.props_len, ref16_Value_eq _ _ ho.props_len, path_Text_eq h p name (by omega), ref16_Text_eq h p name (by omega), path_Number_eq h p name (by omega), ref16_Number_eq h p name (by omega)]
        simp only [Option.bind_some, beq_self_eq_true, if_true]
        rfl

end Go.P
