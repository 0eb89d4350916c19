/-
  Texts and numbers of a value: the program's and the reference's are one. Lemmas alone; no condition but on sizes.
-/
import Derived.Test.YticlelmlnadclaaDoorKPoHC
set_option linter.unusedVariables false
set_option linter.unusedSimpArgs false
set_option linter.unusedSectionVars false
set_option linter.unnecessarySimpa false
set_option linter.deprecated false
namespace Go.P
open Go Go.Abs

/-- a value's texts -/
def textsS (v : Str) : Option (List Str) := if v.getLast? = some 0 then some (splitL 0 [] v.dropLast) else none

theorem getLast_split (v : Str) : (∃ u, v = u ++ [0]) ∨ v.getLast? ≠ some 0 := by
  rcases List.eq_nil_or_concat v with rfl | ⟨u, x, rfl⟩
  · right; simp
  · by_cases h : x = 0
    · subst h; left; exact ⟨u, by simp⟩
    · right; simpa using h

theorem cutSuffix_eq (s : Str) (h : s.length < 9223372036854775807) : strings_CutSuffix s [0] = some (if s.getLast? = some 0 then (s.dropLast, true) else (s, false)) := by
  unfold strings_CutSuffix stringslite_CutSuffix stringslite_HasSuffix
  rcases List.eq_nil_or_concat s with rfl | ⟨u, x, rfl⟩
  · rfl
  · simp at h
    rw [if_pos (by simp; omega)]
    have e1 : IntKind.wrap .i64 (((u.concat x).length : Int) - (([0] : Str).length : Int)) = (u.length : Int) := by
      rw [List.length_concat, wrap_id (by simp) (by simp; omega)]
      simp
    rw [e1, sub_nat _ _ _ (by simp) (Nat.le_refl _)]
    simp only [Option.bind_some]
    have e2 : List.drop u.length (List.take (u.concat x).length (u.concat x)) = [x] := by rw [List.take_length, List.concat_eq_append, List.drop_left' rfl]
    rw [e2]
    by_cases hx : x = 0
    · subst hx
      simp only [beq_self_eq_true, Bool.not_true, Bool.false_eq_true, if_false]
      rw [sub_zero _ _ (by simp)]
      simp
    · have : ([x] == ([0] : Str)) = false := by simpa using hx
      simp [this, hx]

theorem value_AsTexts_eq (v : Str) (h : v.length < 4294967281) : value_AsTexts v = some (resParts (textsS v)) := by
  unfold value_AsTexts
  rw [cutSuffix_eq v (by omega)]
  simp only [Option.bind_some]
  unfold textsS
  by_cases hv : v.getLast? = some 0
  · have h3 : strings_Split v.dropLast [0] = some (splitL 0 [] v.dropLast) := by
      unfold strings_Split
      dsimp only
      rw [if_pos]
      rw [List.length_dropLast]
      omega
    simp [hv, h3, resParts]
  · simp [hv, resParts]

/-- the one text -/
def textS (v : Str) : Option Str := (textsS v).bind fun l => match l with | [x] => some x | _ => none

def resStr (o : Option Str) : Str × Bool := match o with | some l => (l, true) | none => ([], false)

theorem one_text (o : Option (List Str)) (hl : ∀ l, o = some l → l.length < 9223372036854775807) : (if (!(resParts o).2) = true then some (([], false) : Str × Bool) else if (((resParts o).1.length : Int) != 1) = true then some ([], false) else (at? (resParts o).1 0).bind fun x5 => some (x5, true)) = some (resStr (o.bind fun l => match l with | [x] => some x | _ => none)) := by
  cases o with
  | none => rfl
  | some l =>
    show (if (!true) = true then _ else _) = _
    simp only [Bool.not_true, Bool.false_eq_true, if_false, resParts, Option.bind_some]
    match l with
    | [] => rfl
    | [x] => rfl
    | x :: y :: r =>
      have h2 : (((x :: y :: r).length : Int) != 1) = true := by simp; omega
      simp only [h2, if_true]
      rfl

theorem textsS_len {v : Str} {l : List Str} (h : textsS v = some l) : l.length ≤ v.length := by
  unfold textsS at h
  split at h
  · cases h
    have h1 := splitL_len 0 v.dropLast []
    rename_i h2
    rcases List.eq_nil_or_concat v with rfl | ⟨u, x, rfl⟩
    · simp at h2
    · simp at h1 ⊢
      omega
  · cases h

theorem value_AsText_eq (v : Str) (h : v.length < 4294967281) : value_AsText v = some (resStr (textS v)) := by
  unfold value_AsText textS
  rw [value_AsTexts_eq v h]
  simp only [Option.bind_some]
  exact one_text (textsS v) fun l hl => by have := textsS_len hl; omega

theorem splitL_none (c : UInt8) : ∀ (a acc : Str), ¬ c ∈ a → splitL c acc a = [acc.reverse ++ a] := by
  intro a
  induction a with
  | nil => intro acc _; simp [splitL]
  | cons x a ih =>
    intro acc h
    have hx : (x == c) = false := by
      have : ¬ x = c := fun e => h (by rw [e]; exact List.mem_cons_self ..)
      simpa using this
    unfold splitL
    rw [hx]
    simp only [Bool.false_eq_true, if_false]
    rw [ih (x :: acc) (fun e => h (List.mem_cons_of_mem _ e))]
    simp

theorem splitL_first (c : UInt8) (b : Str) : ∀ (a acc : Str), ¬ c ∈ a → splitL c acc (a ++ c :: b) = (acc.reverse ++ a) :: splitL c [] b := by
  intro a
  induction a with
  | nil => intro acc _; rw [List.nil_append, splitL]; simp
  | cons x a ih =>
    intro acc h
    have hx : (x == c) = false := by
      have : ¬ x = c := fun e => h (by rw [e]; exact List.mem_cons_self ..)
      simpa using this
    rw [List.cons_append, splitL, hx]
    simp only [Bool.false_eq_true, if_false]
    rw [ih (x :: acc) (fun e => h (List.mem_cons_of_mem _ e))]
    simp

theorem first_or (c : UInt8) (u : Str) : (¬ c ∈ u) ∨ ∃ a b, u = a ++ c :: b ∧ ¬ c ∈ a := by
  induction u with
  | nil => left; simp
  | cons x u ih =>
    by_cases hx : x = c
    · right; exact ⟨[], u, by simp [hx], by simp⟩
    · rcases ih with h | ⟨a, b, h1, h2⟩
      · left
        intro hm
        rcases List.mem_cons.1 hm with e | e
        · exact hx e.symm
        · exact h e
      · right
        refine ⟨x :: a, b, by simp [h1], fun hm => ?_⟩
        rcases List.mem_cons.1 hm with e | e
        · exact hx e.symm
        · exact h2 e

theorem ref13_cut_eq (a b : Str) (ha : ¬ (0 : UInt8) ∈ a) (hl : (a ++ 0 :: b).length < 9223372036854775807) : ref13_cut (a ++ 0 :: b) = some a := by
  have key : ∀ (j i : Nat), i + j = a.length → loopN (ref13_cut_l1 (a ++ 0 :: b)) (i : Int) = some (.inr a) := by
    intro j
    induction j with
    | zero =>
      intro i hi
      refine loopN_done _ ?_
      unfold ref13_cut_l1
      simp only
      have hx : (a ++ 0 :: b)[i]? = some 0 := by rw [List.getElem?_append_right (by omega)]; simp [show i - a.length = 0 by omega]
      rw [if_pos (by simp; omega), at_nat, hx]
      simp only [Option.bind_some]
      rw [if_pos (by decide), sub_zero _ _ (by simp; omega)]
      simp only [Option.bind_some]
      rw [List.take_append_of_le_length (by omega), List.take_of_length_le (by omega)]
    | succ j ih =>
      intro i hi
      have hx : (a ++ 0 :: b)[i]? = some a[i] := by rw [List.getElem?_append_left (by omega), List.getElem?_eq_getElem (by omega)]
      have hne : ¬ ((a[i].toNat : Int) = 0) := fun e => ha (by
        have h0 : a[i] = 0 := UInt8.toNat_inj.1 (by simp; omega)
        rw [← h0]
        exact List.getElem_mem _)
      simp at hl
      rw [loopN_next ((i + 1 : Nat) : Int)]
      · exact ih (i + 1) (by omega)
      · unfold ref13_cut_l1
        simp only
        rw [if_pos (by simp; omega), at_nat, hx]
        simp only [Option.bind_some]
        rw [if_neg (by simpa using hne), wrap_succ (by omega)]
  unfold ref13_cut
  have := key a.length 0 (by omega)
  have e : loopN (ref13_cut_l1 (a ++ 0 :: b)) 0 = _ := this
  rw [e]
  rfl

theorem ref13_loop (m : Nat) (hm : m < 1000000000000) : ∀ (k : Nat) (u : Str) (acc : List Str), u.length ≤ k → acc.length + u.length + 1 ≤ m → loopN ref13_AsTexts_l1 (u ++ [0], acc) = some (acc ++ splitL 0 [] u) := by
  intro k
  induction k with
  | zero =>
    intro u acc h1 h2
    have : u = [] := List.eq_nil_of_length_eq_zero (by omega)
    subst this
    rw [loopN_next ([], acc ++ [[]])]
    · refine loopN_done _ ?_
      rfl
    · unfold ref13_AsTexts_l1
      have : ref13_cut ([] ++ [0]) = some [] := ref13_cut_eq [] [] (by simp) (by simp)
      simp only [this, Option.bind_some]
      rw [if_pos (by rfl)]
      have happ : app? 16 acc [[]] = some (acc ++ [([] : Str)]) := by
        unfold app?
        rw [if_pos]
        simp
        omega
      rw [happ]
      rfl
  | succ k ih =>
    intro u acc h1 h2
    rcases first_or 0 u with hu | ⟨a, b, rfl, ha⟩
    · rw [loopN_next ([], acc ++ [u])]
      · rw [splitL_none 0 u [] hu]
        refine loopN_done _ ?_
        rfl
      · unfold ref13_AsTexts_l1
        have : ref13_cut (u ++ [0]) = some u := ref13_cut_eq u [] hu (by simp; omega)
        simp only [this, Option.bind_some]
        rw [if_pos (by simp)]
        have happ : app? 16 acc [u] = some (acc ++ [u]) := by
          unfold app?
          rw [if_pos]
          simp
          omega
        rw [happ, wrap_succ (by omega), sub_nat _ _ _ (by simp) (Nat.le_refl _)]
        simp
    · simp at h1 h2
      rw [loopN_next (b ++ [0], acc ++ [a])]
      · rw [splitL_first 0 b a [] ha, ih b (acc ++ [a]) (by omega) (by simp; omega)]
        simp
      · unfold ref13_AsTexts_l1
        have e : a ++ 0 :: b ++ [0] = a ++ 0 :: (b ++ [0]) := by simp
        rw [e]
        have : ref13_cut (a ++ 0 :: (b ++ [0])) = some a := ref13_cut_eq a (b ++ [0]) ha (by simp; omega)
        simp only [this, Option.bind_some]
        rw [if_pos (by simp)]
        have happ : app? 16 acc [a] = some (acc ++ [a]) := by
          unfold app?
          rw [if_pos]
          simp
          omega
        rw [happ, wrap_succ (by omega), sub_nat _ _ _ (by simp) (Nat.le_refl _)]
        simp only [Option.bind_some, List.take_length]
        rw [show a ++ 0 :: (b ++ [0]) = (a ++ [0]) ++ (b ++ [0]) by simp, List.drop_left' (by simp)]

theorem ref13_AsTexts_eq (v : Str) (h : v.length < 1000000000000) : ref13_AsTexts v = some (resParts (textsS v)) := by
  unfold ref13_AsTexts
  rcases getLast_split v with ⟨u, rfl⟩ | hv
  · rw [if_neg (by simp)]
    have e1 : IntKind.wrap .i64 (((u ++ [0]).length : Int) - 1) = (u.length : Int) := by
      simp at h
      rw [wrap_id (by simp) (by simp; omega)]
      simp
    rw [e1, at_nat, List.getElem?_append_right (Nat.le_refl _)]
    simp only [Nat.sub_self, List.getElem?_cons_zero, Option.bind_some]
    rw [if_neg (by decide)]
    simp at h
    have e2 := ref13_loop (u.length + 1) (by omega) u.length u [] (Nat.le_refl _) (by simp)
    rw [e2]
    simp [textsS, resParts]
  · unfold textsS
    rw [if_neg hv]
    by_cases h0 : v = []
    · subst h0; rfl
    · rw [if_neg (by simpa using h0)]
      rcases List.eq_nil_or_concat v with rfl | ⟨u, x, rfl⟩
      · exact (h0 rfl).elim
      · have e1 : IntKind.wrap .i64 (((u.concat x).length : Int) - 1) = (u.length : Int) := by
          rw [List.length_concat] at *
          rw [wrap_id (by omega) (by omega)]
          omega
        have hx : ¬ x = 0 := by simpa using hv
        have hne : ¬ ((x.toNat : Int) = 0) := fun e => hx (UInt8.toNat_inj.1 (by simp; omega))
        rw [e1, at_nat, List.concat_eq_append, List.getElem?_append_right (Nat.le_refl _)]
        simp only [Nat.sub_self, List.getElem?_cons_zero, Option.bind_some]
        rw [if_pos (by simpa using hne)]
        rfl

theorem ref13_AsText_eq (v : Str) (h : v.length < 1000000000000) : ref13_AsText v = some (resStr (textS v)) := by
  unfold ref13_AsText textS
  rw [ref13_AsTexts_eq v h]
  simp only [Option.bind_some]
  exact one_text (textsS v) fun l hl => by have := textsS_len hl; omega

/-- a value's number -/
def bigS (s : Str) : Int := s.foldl (fun t b => t * 256 + (b.toNat : Int)) 0

def numS (v : Str) : Option Int := if v.length = 4 then some (bigS v) else none
def resInt (o : Option Int) : Int × Bool := match o with | some l => (l, true) | none => (0, false)

theorem or_step (a : Nat) (b : UInt8) (ha : a < 281474976710656) : IntKind.wrap .i64 (BitVec.ofInt 64 (IntKind.wrap .i64 ((a : Int) * 2 ^ 8)) ||| BitVec.ofInt 64 (IntKind.wrap .i64 (b.toNat : Int))).toNat = ((a * 256 + b.toNat : Nat) : Int) := by
  have hb := b.toNat_lt
  have e1 : (a : Int) * 2 ^ 8 = ((a * 256 : Nat) : Int) := by omega
  rw [e1, wrap_nat (n := a * 256) (by omega), wrap_nat (n := b.toNat) (by omega)]
  have e2 : ∀ n : Nat, BitVec.ofInt 64 (n : Int) = BitVec.ofNat 64 n := fun n => by simp
  rw [e2, e2, BitVec.toNat_or, BitVec.toNat_ofNat, BitVec.toNat_ofNat, Nat.mod_eq_of_lt (by omega), Nat.mod_eq_of_lt (by omega)]
  have e3 : a * 256 ||| b.toNat = a * 256 + b.toNat := by
    have := Nat.shiftLeft_add_eq_or_of_lt (i := 8) (b := b.toNat) (by omega) a
    rw [Nat.shiftLeft_eq] at this
    exact this.symm
  rw [e3, wrap_nat (by omega)]

theorem fromBig_eq (a b c d : UInt8) : num_FromBig [a, b, c, d] = some (bigS [a, b, c, d], true) := by
  unfold num_FromBig
  rw [if_neg (by simp)]
  have h1 : sub? [a, b, c, d] 0 4 = some [a, b, c, d] := rfl
  have h2 : bytes? [a, b, c, d] = some [(a.toNat : Int), b.toNat, c.toNat, d.toNat] := by
    unfold bytes?
    rw [if_pos (by simp)]
    rfl
  rw [h1]
  simp only [Option.bind_some]
  rw [h2]
  simp only [Option.bind_some]
  have ha := a.toNat_lt
  have hb := b.toNat_lt
  have hc := c.toNat_lt
  have hd := d.toNat_lt
  have step : ∀ (i t : Nat) (x : UInt8), t < 281474976710656 → i < 4 → [(a.toNat : Int), b.toNat, c.toNat, d.toNat][i]? = some (x.toNat : Int) → num_FromBig_l1 [(a.toNat : Int), b.toNat, c.toNat, d.toNat] ((t : Int), (i : Int)) = some (.inl (((t * 256 + x.toNat : Nat) : Int), ((i + 1 : Nat) : Int))) := by
    intro i t x ht hi hx
    unfold num_FromBig_l1
    simp only
    rw [if_pos (by simp; omega), at_nat, hx]
    simp only [Option.bind_some]
    rw [or_step t x ht, wrap_succ (by omega)]
  have h3 : loopN (num_FromBig_l1 [(a.toNat : Int), b.toNat, c.toNat, d.toNat]) (0, 0) = some (((((0 * 256 + a.toNat) * 256 + b.toNat) * 256 + c.toNat) * 256 + d.toNat : Nat) : Int) := by
    have s0 := loopN_next _ (step 0 0 a (by omega) (by omega) rfl)
    have s1 := loopN_next _ (step 1 (0 * 256 + a.toNat) b (by omega) (by omega) rfl)
    have s2 := loopN_next _ (step 2 ((0 * 256 + a.toNat) * 256 + b.toNat) c (by omega) (by omega) rfl)
    have s3 := loopN_next _ (step 3 (((0 * 256 + a.toNat) * 256 + b.toNat) * 256 + c.toNat) d (by omega) (by omega) rfl)
    have s0' : loopN (num_FromBig_l1 [(a.toNat : Int), b.toNat, c.toNat, d.toNat]) (0, 0) = _ := s0
    rw [s0', s1, s2, s3]
    refine loopN_done _ ?_
    unfold num_FromBig_l1
    simp only
    rw [if_neg (by simp)]
  rw [h3]
  simp only [Option.bind_some]
  unfold bigS
  simp only [List.foldl_cons, List.foldl_nil]
  congr 2

theorem ref01_FromBig_eq (a b c d : UInt8) : ref01_FromBig [a, b, c, d] = some (bigS [a, b, c, d], true) := by
  unfold ref01_FromBig
  rw [if_neg (by simp)]
  have ha := a.toNat_lt
  have hb := b.toNat_lt
  have hc := c.toNat_lt
  have hd := d.toNat_lt
  have h0 : at? [a, b, c, d] 0 = some a := rfl
  have h1 : at? [a, b, c, d] 1 = some b := rfl
  have h2 : at? [a, b, c, d] 2 = some c := rfl
  have h3 : at? [a, b, c, d] 3 = some d := rfl
  rw [h0, h1, h2, h3]
  simp only [Option.bind_some]
  rw [wrap_nat (n := a.toNat) (by omega), wrap_nat (n := b.toNat) (by omega), wrap_nat (n := c.toNat) (by omega), wrap_nat (n := d.toNat) (by omega)]
  rw [wrap_id (x := (a.toNat : Int) * 16777216) (by omega) (by omega), wrap_id (x := (b.toNat : Int) * 65536) (by omega) (by omega), wrap_id (x := (c.toNat : Int) * 256) (by omega) (by omega)]
  rw [wrap_id (x := (a.toNat : Int) * 16777216 + (b.toNat : Int) * 65536) (by omega) (by omega), wrap_id (x := (a.toNat : Int) * 16777216 + (b.toNat : Int) * 65536 + (c.toNat : Int) * 256) (by omega) (by omega), wrap_id (by omega) (by omega)]
  have e : bigS [a, b, c, d] = (a.toNat : Int) * 16777216 + (b.toNat : Int) * 65536 + (c.toNat : Int) * 256 + (d.toNat : Int) := by
    unfold bigS
    simp only [List.foldl_cons, List.foldl_nil]
    omega
  rw [e]

theorem four (v : Str) (h : v.length = 4) : ∃ a b c d, v = [a, b, c, d] := by
  match v, h with
  | [a, b, c, d], _ => exact ⟨a, b, c, d, rfl⟩

theorem value_AsNumber_eq (v : Str) : value_AsNumber v = some (resInt (numS v)) := by
  unfold value_AsNumber numS
  by_cases h : v.length = 4
  · obtain ⟨a, b, c, d, rfl⟩ := four v h
    rw [if_neg (by simp), fromBig_eq]
    rfl
  · rw [if_pos (by simp; omega), if_neg h]
    rfl

theorem ref13_AsNumber_eq (v : Str) : ref13_AsNumber v = some (resInt (numS v)) := by
  unfold ref13_AsNumber numS
  by_cases h : v.length = 4
  · obtain ⟨a, b, c, d, rfl⟩ := four v h
    rw [if_neg (by simp), ref01_FromBig_eq]
    rfl
  · rw [if_pos (by simp; omega), if_neg h]
    rfl

end Go.P
