/-
  The guard of low trees, and the comparison of a tree with itself, in plain words. Lemmas alone; no condition but on sizes.
-/
import Derived.Test.YticlelmlnadclaaDoorKPoHB
set_option linter.unusedVariables false
set_option linter.unusedSimpArgs false
set_option linter.unusedSectionVars false
set_option linter.unnecessarySimpa false
set_option linter.deprecated false
namespace Go.P
open Go Go.Abs

/-- a tree whose counts and sizes are low, to a depth -/
def lowB : Nat → GNode → Bool
  | 0, _ => false
  | L + 1, n => decide (n.name.length ≤ 100) && (decide (n.props.length ≤ 300) && (decide (n.kids.length ≤ 80) && ((n.props.all fun p => decide (p.name.length ≤ 100) && decide (p.value.length ≤ 300)) && n.kids.all (lowB L))))

theorem low_l1_eq (n : GNode) (h : n.props.length ≤ maxLen) : loopN (ref12_low_l1 n) 0 = some (if (n.props.all fun p => decide (p.name.length ≤ 100) && decide (p.value.length ≤ 300)) = true then .inl () else .inr ()) := by
  rw [loopN_idx n.props (fun i x => if (decide (x.name.length ≤ 100) && decide (x.value.length ≤ 300)) = true then some (.inl ()) else some (.inr (.inr ()))) (.inl ())]
  · generalize 0 = i
    induction n.props generalizing i with
    | nil => rfl
    | cons x l ih =>
      unfold goL
      rw [List.all_cons]
      cases hp : (decide (x.name.length ≤ 100) && decide (x.value.length ≤ 300)) with
      | true => simp only [if_true, Bool.true_and]; exact ih (i + 1)
      | false => simp
  · intro i x hi hx
    unfold ref12_low_l1
    rw [if_pos (by simp; omega), at_nat, hx, wrap_succ (by have := maxLen_small h; omega)]
    simp only [Option.bind_some]
    by_cases h1 : x.name.length ≤ 100
    · rw [if_neg (by simp; omega)]
      by_cases h2 : x.value.length ≤ 300
      · rw [if_neg (by simp; omega), if_pos (by simp; omega)]; rfl
      · rw [if_pos (by simp; omega), if_neg (by simp; omega)]; rfl
    · rw [if_pos (by simp; omega), if_neg (by simp; omega)]; rfl
  · unfold ref12_low_l1
    rw [if_neg (by simp)]

theorem low_l2_eq (rec_ : GNode → Int → Option Bool) (n : GNode) (L : Nat) (hL : L < 1000) (h : n.kids.length ≤ maxLen) (f : GNode → Bool) (hr : ∀ x ∈ n.kids, rec_ x (L : Int) = some (f x)) : loopN (ref12_low_l2 rec_ n ((L + 1 : Nat) : Int)) 0 = some (if n.kids.all f = true then .inl () else .inr ()) := by
  rw [loopN_idx n.kids (fun i x => if f x = true then some (.inl ()) else some (.inr (.inr ()))) (.inl ())]
  · generalize 0 = i
    induction n.kids generalizing i with
    | nil => rfl
    | cons x l ih =>
      unfold goL
      rw [List.all_cons]
      cases hp : f x with
      | true => simp only [if_true, Bool.true_and]; exact ih (i + 1)
      | false => simp
  · intro i x hi hx
    unfold ref12_low_l2
    rw [if_pos (by simp; omega), at_nat, hx, wrap_succ (by have := maxLen_small h; omega)]
    simp only [Option.bind_some]
    rw [show ((L + 1 : Nat) : Int) - 1 = (L : Int) by omega, wrap_nat (by omega), hr x (List.mem_of_getElem? hx)]
    simp only [Option.bind_some]
    cases f x <;> rfl
  · unfold ref12_low_l2
    rw [if_neg (by simp)]

theorem low_k_eq (L : Nat) (hL : L < 1000) : ∀ (n : GNode) (k : Nat), L + 1 ≤ k → ref12_low_k k n (L : Int) = some (lowB L n) := by
  induction L with
  | zero =>
    intro n k hk
    obtain ⟨k, rfl⟩ : ∃ j, k = j + 1 := ⟨k - 1, by omega⟩
    rfl
  | succ L ih =>
    intro n k hk
    obtain ⟨k, rfl⟩ : ∃ j, k = j + 1 := ⟨k - 1, by omega⟩
    unfold ref12_low_k ref12_low_b lowB
    rw [if_neg (by simp; omega)]
    by_cases h1 : n.name.length ≤ 100
    · rw [if_neg (by simp; omega)]
      by_cases h2 : n.props.length ≤ 300
      · rw [if_neg (by simp; omega)]
        by_cases h3 : n.kids.length ≤ 80
        · rw [if_neg (by simp; omega), low_l1_eq n (by rw [maxLen_eq]; omega)]
          simp only [h1, h2, h3, decide_true, Bool.true_and, Option.bind_some]
          cases n.props.all fun p => decide (p.name.length ≤ 100) && decide (p.value.length ≤ 300) with
          | false => rfl
          | true =>
            simp only [if_true, Bool.true_and]
            rw [low_l2_eq (ref12_low_k k) n L (by omega) (by rw [maxLen_eq]; omega) (lowB L) (fun x _ => ih (by omega) x k (by omega))]
            simp only [Option.bind_some]
            cases n.kids.all (lowB L) <;> rfl
        · rw [if_pos (by simp; omega)]
          simp [h3]
      · rw [if_pos (by simp; omega)]
        simp [h2]
    · rw [if_pos (by simp; omega)]
      simp [h1]

theorem low_eq (n : GNode) : ref12_low n 12 = some (lowB 12 n) := limF_eq 13 fun k hk => low_k_eq 12 (by decide) n k hk

theorem lowB_succ {L : Nat} {n : GNode} (h : lowB (L + 1) n = true) : n.name.length ≤ 100 ∧ n.props.length ≤ 300 ∧ n.kids.length ≤ 80 ∧ (∀ p ∈ n.props, p.name.length ≤ 100 ∧ p.value.length ≤ 300) ∧ ∀ k ∈ n.kids, lowB L k = true := by
  unfold lowB at h
  simp only [Bool.and_eq_true, decide_eq_true_eq, List.all_eq_true] at h
  exact h

theorem lowB_ok {L : Nat} : ∀ {n : GNode}, lowB L n = true → n.Ok := by
  induction L with
  | zero => intro n h; cases h
  | succ L ih =>
    intro n h
    obtain ⟨h1, h2, h3, h4, h5⟩ := lowB_succ h
    rw [← GNode.eta n]
    exact .mk _ _ _ (by rw [maxLen_eq]; omega) ⟨by rw [maxLen_eq]; omega, fun p hp => ⟨by rw [maxLen_eq]; have := h4 p hp; omega, by rw [maxLen_eq]; have := h4 p hp; omega⟩⟩ (by rw [maxLen_eq]; omega) (fun k hk => ih (h5 k hk))

/-- what the count of a tree comes to: it ends when it is great -/
def sizeS : Nat → GNode → Nat
  | 0, _ => 0
  | L + 1, n => n.kids.foldl (fun t k => if t < 1000 then t + sizeS L k else t) (1 + n.props.length)

theorem fold_le {α : Type} (f : α → Nat) (b : Nat) (l : List α) (hf : ∀ x ∈ l, f x ≤ b) : ∀ t, t ≤ 999 + b → l.foldl (fun t k => if t < 1000 then t + f k else t) t ≤ 999 + b := by
  induction l with
  | nil => intro t ht; exact ht
  | cons x l ih =>
    intro t ht
    rw [List.foldl_cons]
    apply ih (fun y hy => hf y (List.mem_cons_of_mem _ hy))
    have := hf x (List.mem_cons_self ..)
    split <;> omega

theorem sizeS_le {L : Nat} : ∀ {n : GNode}, lowB L n = true → sizeS L n ≤ 1000 * L := by
  induction L with
  | zero => intro n _; simp [sizeS]
  | succ L ih =>
    intro n h
    obtain ⟨h1, h2, h3, h4, h5⟩ := lowB_succ h
    unfold sizeS
    have := fold_le (sizeS L) (1000 * L) n.kids (fun k hk => ih (h5 k hk)) (1 + n.props.length) (by omega)
    omega

theorem size_loop (rec_ : GNode → Int → Option Int) (n : GNode) (L : Nat) (hL : L < 1000) (hk : n.kids.length ≤ 80) (f : GNode → Nat) (hb : ∀ x ∈ n.kids, f x ≤ 1000000) (hr : ∀ x ∈ n.kids, rec_ x (L : Int) = some (f x : Int)) : ∀ (l : List GNode) (i t : Nat), i + l.length = n.kids.length → n.kids.drop i = l → t ≤ 2000000 →
    loopN (ref12_size_l1 rec_ n ((L + 1 : Nat) : Int)) ((t : Int), (i : Int)) = some ((l.foldl (fun t k => if t < 1000 then t + f k else t) t : Nat) : Int) := by
  intro l
  induction l with
  | nil =>
    intro i t hi hd ht
    simp at hi
    refine loopN_done _ ?_
    unfold ref12_size_l1
    simp only
    rw [if_neg (by simp; omega)]
    rfl
  | cons x l ih =>
    intro i t hi hd ht
    simp at hi
    have hx : n.kids[i]? = some x := by
      have := congrArg (·[0]?) hd
      simpa using this
    have hd' : n.kids.drop (i + 1) = l := by rw [← List.drop_drop, hd]; rfl
    rw [List.foldl_cons]
    by_cases h1 : t < 1000
    · rw [if_pos h1]
      have hm : x ∈ n.kids := List.mem_of_getElem? hx
      have := hb x hm
      rw [loopN_next (((t + f x : Nat) : Int), ((i + 1 : Nat) : Int))]
      · exact ih (i + 1) (t + f x) (by omega) hd' (by omega)
      · unfold ref12_size_l1
        simp only
        rw [if_pos (by simp; omega), if_pos (by simp; omega), at_nat, hx]
        simp only [Option.bind_some]
        rw [show ((L + 1 : Nat) : Int) - 1 = (L : Int) by omega, wrap_nat (by omega), hr x hm]
        simp only [Option.bind_some]
        rw [wrap_succ (by omega), show (t : Int) + (f x : Int) = ((t + f x : Nat) : Int) by omega, wrap_nat (by omega)]
    · rw [if_neg h1]
      have hst : ∀ (r : List GNode), r.foldl (fun t k => if t < 1000 then t + f k else t) t = t := by
        intro r
        induction r with
        | nil => rfl
        | cons y r ih2 => rw [List.foldl_cons, if_neg h1]; exact ih2
      rw [hst]
      refine loopN_done _ ?_
      unfold ref12_size_l1
      simp only
      rw [if_pos (by simp; omega), if_neg (by simp; omega)]

theorem size_k_eq (L : Nat) (hL : L < 1000) : ∀ (n : GNode) (k : Nat), lowB L n = true → L + 1 ≤ k → ref12_size_k k n (L : Int) = some (sizeS L n : Int) := by
  induction L with
  | zero =>
    intro n k h
    cases h
  | succ L ih =>
    intro n k h hk
    obtain ⟨k, rfl⟩ : ∃ j, k = j + 1 := ⟨k - 1, by omega⟩
    obtain ⟨h1, h2, h3, h4, h5⟩ := lowB_succ h
    unfold ref12_size_k ref12_size_b
    rw [if_neg (by simp; omega), show (1 : Int) + (n.props.length : Int) = ((1 + n.props.length : Nat) : Int) by omega, wrap_nat (by omega)]
    have := size_loop (ref12_size_k k) n L (by omega) h3 (sizeS L) (fun x hx => by have := sizeS_le (h5 x hx); omega) (fun x hx => ih (by omega) x k (h5 x hx) (by omega)) n.kids 0 (1 + n.props.length) (by simp) rfl (by omega)
    have e : loopN (ref12_size_l1 (ref12_size_k k) n ((L + 1 : Nat) : Int)) (((1 + n.props.length : Nat) : Int), 0) = _ := this
    rw [e]
    rfl

theorem size_eq (n : GNode) (h : lowB 12 n = true) : ref12_size n 12 = some (sizeS 12 n : Int) := limF_eq 13 fun k hk => size_k_eq 12 (by decide) n k h hk

theorem Low_eq (n : GNode) : ref12_Low n = some (lowB 12 n && decide (sizeS 12 n ≤ 400)) := by
  unfold ref12_Low
  rw [low_eq]
  simp only [Option.bind_some]
  cases h : lowB 12 n with
  | false => rfl
  | true =>
    simp only [if_true, Bool.true_and]
    rw [size_eq n h]
    simp only [Option.bind_some]
    congr 1
    by_cases h4 : sizeS 12 n ≤ 400
    · simp [h4]; omega
    · simp [h4]; omega

theorem sameProps_refl (l : List GProp) (h : l.length ≤ maxLen) : ref12_SameProps l l = some true := by
  unfold ref12_SameProps
  rw [if_neg (by simp)]
  rw [loopN_idx l (fun i x => some (.inl ())) (.inl ())]
  · have : ∀ (r : List GProp) (i : Nat), goL (fun i (_ : Unit) (x : GProp) => (some (.inl ()) : Option (Unit ⊕ (Unit ⊕ Unit)))) (fun _ => .inl ()) i () r = some (.inl ()) := by
      intro r
      induction r with
      | nil => intro i; rfl
      | cons x r ih => intro i; exact ih (i + 1)
    rw [this]
    rfl
  · intro i x hi hx
    unfold ref12_SameProps_l1
    simp only
    rw [if_pos (by simp; omega), if_pos (by simp; omega), at_nat, hx, wrap_succ (by have := maxLen_small h; omega)]
    simp
  · unfold ref12_SameProps_l1
    rw [if_neg (by simp)]

theorem same_k_refl (L : Nat) (hL : L < 1000) : ∀ (n : GNode) (k : Nat), n.Ok → L + 1 ≤ k → ref12_same_k k n n (L : Int) = some true := by
  induction L with
  | zero =>
    intro n k h hk
    obtain ⟨k, rfl⟩ : ∃ j, k = j + 1 := ⟨k - 1, by omega⟩
    rfl
  | succ L ih =>
    intro n k h hk
    obtain ⟨k, rfl⟩ : ∃ j, k = j + 1 := ⟨k - 1, by omega⟩
    unfold ref12_same_k ref12_same_b
    rw [if_neg (by simp; omega), if_neg (by simp), sameProps_refl _ h.props_len]
    simp only [Option.bind_some, Bool.not_true, Bool.false_eq_true, if_false]
    rw [if_neg (by simp)]
    rw [loopN_idx n.kids (fun i x => some (.inl ())) (.inl ())]
    · have : ∀ (r : List GNode) (i : Nat), goL (fun i (_ : Unit) (x : GNode) => (some (.inl ()) : Option (Unit ⊕ (Unit ⊕ Unit)))) (fun _ => .inl ()) i () r = some (.inl ()) := by
        intro r
        induction r with
        | nil => intro i; rfl
        | cons x r ih => intro i; exact ih (i + 1)
      rw [this]
      rfl
    · intro i x hi hx
      unfold ref12_same_l1
      simp only
      rw [if_pos (by simp; omega), if_pos (by simp; omega), at_nat, hx, wrap_succ (by have := maxLen_small h.kids_len; omega)]
      simp only [Option.bind_some]
      rw [show ((L + 1 : Nat) : Int) - 1 = (L : Int) by omega, wrap_nat (by omega), ih (by omega) x k (h.kid (List.mem_of_getElem? hx)) (by omega)]
      rfl
    · unfold ref12_same_l1
      rw [if_neg (by simp)]

theorem Same_refl (n : GNode) (h : n.Ok) : ref12_Same n n = some true := by
  unfold ref12_Same
  have : ref12_same n n 20 = some true := limF_eq 21 fun k hk => same_k_refl 20 (by decide) n k h hk
  rw [this]
  rfl

end Go.P
