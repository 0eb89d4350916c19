/-
  The reference's parting of a path, and the node at a path: both answers are one. Lemmas alone; no condition but on sizes.
-/
import Derived.Test.YticlelmlnadclaaDoorKPoHA
set_option linter.unusedVariables false
set_option linter.unusedSimpArgs false
set_option linter.unusedSectionVars false
set_option linter.unnecessarySimpa false
set_option linter.deprecated false
namespace Go.P
open Go Go.Abs

def goP : Str → Str → List Str → Option (List Str)
  | cur, [], acc => if cur = [] then none else if acc.length = 7 then none else some (acc ++ [cur])
  | cur, x :: r, acc => if x = 47 then (if cur = [] then none else if acc.length = 7 then none else goP [] r (acc ++ [cur])) else goP (cur ++ [x]) r acc

theorem goP_eq (r : Str) : ∀ (cur : Str) (acc : List Str), acc.length ≤ 7 → goP cur r acc = if [] ∈ splitL 47 cur.reverse r ∨ acc.length + (splitL 47 cur.reverse r).length > 7 then none else some (acc ++ splitL 47 cur.reverse r) := by
  induction r with
  | nil =>
    intro cur acc ha
    unfold goP splitL
    by_cases h : cur = []
    · simp [h]
    · simp only [h, if_false, List.reverse_reverse, List.mem_singleton, List.length_singleton]
      have : ¬ [] = cur := fun e => h e.symm
      simp only [this, false_or]
      split <;> split <;> first | rfl | omega
  | cons x r ih =>
    intro cur acc ha
    unfold goP splitL
    by_cases hx : x = 47
    · subst hx
      simp only [if_true, beq_self_eq_true, List.reverse_reverse]
      by_cases h : cur = []
      · simp [h]
      · have hne : ¬ [] = cur := fun e => h e.symm
        simp only [h, if_false]
        by_cases h7 : acc.length = 7
        · rw [if_pos h7, if_pos]
          right
          simp
          omega
        · rw [if_neg h7, ih [] (acc ++ [cur]) (by simp; omega)]
          simp only [List.reverse_nil, List.mem_cons, List.length_cons, List.length_append, List.length_nil, List.append_assoc, List.cons_append, List.nil_append, hne, false_or]
          have : acc.length + (0 + 1) + (splitL 47 [] r).length = acc.length + ((splitL 47 [] r).length + 1) := by omega
          simp only [this]
    · have h1 : (x == 47) = false := by simpa using hx
      simp only [hx, if_false, h1, Bool.false_eq_true]
      rw [ih (cur ++ [x]) acc ha]
      simp

theorem take_drop_snoc {α : Type} (p : List α) (s i : Nat) (x : α) (hs : s ≤ i) (hx : p[i]? = some x) : (p.take (i + 1)).drop s = (p.take i).drop s ++ [x] := by
  have hi := (List.getElem?_eq_some_iff.1 hx).1
  rw [List.take_add_one, hx, List.drop_append_of_le_length (by simp; omega)]
  rfl

theorem ref16_loop (p : Str) (hp : p.length < 9000000000000000000) : ∀ (r : Str) (s i : Nat) (acc : List Str), s ≤ i → i + r.length = p.length → p.drop i = r → acc.length ≤ 7 →
    ∃ y, loopN (ref16_Parts_l1 p) ((s : Int), (i : Int), acc) = some y ∧ (match goP ((p.take i).drop s) r acc with | some l => y = .inl l | none => ∃ a, y = .inr a) := by
  intro r
  induction r with
  | nil =>
    intro s i acc hs hi hd ha
    simp at hi
    rw [loopN_eq]
    unfold ref16_Parts_l1
    simp only
    rw [if_pos (by simp; omega), if_neg (by simp; omega)]
    unfold goP
    by_cases h1 : i = s
    · subst h1
      have : (p.take i).drop i = [] := List.drop_eq_nil_of_le (by simp; omega)
      simp [this]
    · have hc : ¬ (p.take i).drop s = [] := by
        intro e
        have := congrArg List.length e
        simp at this
        omega
      rw [if_neg (by simp; omega)]
      simp only [hc, if_false]
      by_cases h7 : acc.length = 7
      · rw [if_pos (by simp [h7]), if_pos h7]
        exact ⟨_, rfl, _, rfl⟩
      · rw [if_neg (by simp; omega), if_neg h7, sub_nat p s i hs (by omega)]
        simp only [Option.bind_some]
        have happ : app? 16 acc [List.drop s (List.take i p)] = some (acc ++ [List.drop s (List.take i p)]) := by
          unfold app?
          rw [if_pos]
          simp
          omega
        rw [happ]
        simp only [Option.bind_some]
        rw [wrap_succ (by omega)]
        refine ⟨.inl (acc ++ [List.drop s (List.take i p)]), ?_, rfl⟩
        show loopN (ref16_Parts_l1 p) (((i + 1 : Nat) : Int), ((i + 1 : Nat) : Int), acc ++ [List.drop s (List.take i p)]) = _
        refine loopN_done _ ?_
        unfold ref16_Parts_l1
        simp only
        rw [if_neg (by simp; omega)]
  | cons x r ih =>
    intro s i acc hs hi hd ha
    simp at hi
    have hx : p[i]? = some x := by
      have := congrArg (·[0]?) hd
      simpa using this
    have hd' : p.drop (i + 1) = r := by rw [← List.drop_drop, hd]; rfl
    rw [loopN_eq]
    unfold ref16_Parts_l1
    simp only
    rw [if_pos (by simp; omega), if_pos (by simp; omega), at_nat, hx]
    simp only [Option.bind_some]
    unfold goP
    by_cases h47 : x = 47
    · subst h47
      rw [if_neg (by decide)]
      simp only [if_true]
      by_cases h1 : i = s
      · subst h1
        have : (p.take i).drop i = [] := List.drop_eq_nil_of_le (by simp; omega)
        simp [this]
      · have hc : ¬ (p.take i).drop s = [] := by
          intro e
          have := congrArg List.length e
          simp at this
          omega
        rw [if_neg (by simp; omega)]
        simp only [hc, if_false]
        by_cases h7 : acc.length = 7
        · rw [if_pos (by simp [h7]), if_pos h7]
          exact ⟨_, rfl, _, rfl⟩
        · rw [if_neg (by simp; omega), if_neg h7, sub_nat p s i hs (by omega)]
          simp only [Option.bind_some]
          have happ : app? 16 acc [List.drop s (List.take i p)] = some (acc ++ [List.drop s (List.take i p)]) := by
            unfold app?
            rw [if_pos]
            simp
            omega
          rw [happ]
          simp only [Option.bind_some]
          rw [wrap_succ (by omega)]
          have := ih (i + 1) (i + 1) (acc ++ [List.drop s (List.take i p)]) (Nat.le_refl _) (by omega) hd' (by simp; omega)
          have e : List.drop (i + 1) (List.take (i + 1) p) = [] := List.drop_eq_nil_of_le (by simp; omega)
          rw [e] at this
          exact this
    · have hne : ¬ ((x.toNat : Int) = 47) := fun e => h47 (UInt8.toNat_inj.1 (by simp; omega))
      rw [if_pos (by simpa using hne), wrap_succ (by omega)]
      simp only [h47, if_false]
      have := ih s (i + 1) acc (by omega) (by omega) hd' ha
      rw [take_drop_snoc p s i x hs hx] at this
      exact this

theorem ref16_Parts_eq (p : Str) (hp : p.length < 9000000000000000000) : ref16_Parts p = some (resParts (partsS p)) := by
  unfold ref16_Parts
  by_cases h1 : p = [47]
  · subst h1; rfl
  · rw [if_neg (by simpa using h1)]
    cases p with
    | nil => rfl
    | cons c r =>
      rw [if_neg (by simp)]
      have h0 : at? (c :: r) 0 = some c := rfl
      rw [h0]
      simp only [Option.bind_some]
      by_cases hc : c = 47
      · subst hc
        have h2 : r ≠ [] := fun e => h1 (by rw [e])
        rw [if_neg (by decide)]
        obtain ⟨y, hy, hz⟩ := ref16_loop (47 :: r) hp r 1 1 [] (Nat.le_refl _) (by simp; omega) rfl (by simp)
        have hy' : loopN (ref16_Parts_l1 (47 :: r)) (1, 1, []) = some y := hy
        rw [hy']
        have ht : List.drop 1 (List.take 1 ((47 : UInt8) :: r)) = [] := rfl
        rw [ht, goP_eq r [] [] (by simp)] at hz
        simp only [List.reverse_nil, List.length_nil, Nat.zero_add, List.nil_append] at hz
        unfold partsS
        simp only [beq_self_eq_true, if_true, h2, if_false, Option.bind_some]
        by_cases h6 : [] ∈ splitL 47 [] r
        · rw [if_pos (Or.inr h6)]
          rw [if_pos (Or.inl h6)] at hz
          obtain ⟨a, ha⟩ := hz
          rw [ha]
          rfl
        · by_cases h7 : (splitL 47 [] r).length > 7
          · rw [if_pos (Or.inl (by omega))]
            rw [if_pos (Or.inr h7)] at hz
            obtain ⟨a, ha⟩ := hz
            rw [ha]
            rfl
          · rw [if_neg (by rintro (h | h); omega; exact h6 h)]
            rw [if_neg (by rintro (h | h); exact h6 h; exact h7 h)] at hz
            rw [hz]
            rfl
      · have hne : ¬ ((c.toNat : Int) = 47) := fun e => hc (UInt8.toNat_inj.1 (by simp; omega))
        rw [if_pos (by simpa using hne)]
        have : (c == 47) = false := by simpa using hc
        simp [partsS, this, resParts]

/-- the node at a path's names -/
def findS : GNode → List Str → Option GNode
  | n, [] => some n
  | n, x :: l => (findK x n.kids).bind fun k => findS k l

def resNode (o : Option GNode) : GNode × Bool := match o with | some k => (k, true) | none => (GNode.mk [] [] [], false)

theorem findS_ok {n : GNode} (h : n.Ok) : ∀ {l : List Str} {m : GNode}, findS n l = some m → m.Ok := by
  intro l
  induction l generalizing n with
  | nil => intro m hm; simp [findS] at hm; subst hm; exact h
  | cons x l ih =>
    intro m hm
    unfold findS at hm
    obtain ⟨k, hk, hm⟩ := Option.bind_eq_some_iff.1 hm
    exact ih (h.kid (findK_mem hk)) hm

theorem path_Find_loop (r1 : List Str × Bool) (hl : r1.1.length ≤ maxLen) : ∀ (l : List Str) (i : Nat), i + l.length = r1.1.length → r1.1.drop i = l →
    (∀ n : GNode, n.Ok → ∃ r : GNode, loopN (path_Find_l1 r1) (true, (i : Int), n.name, n.props, n.kids) = some (match findS n l with | some k => (true, k.name, k.props, k.kids) | none => (false, r.name, r.props, r.kids))) ∧
    (∀ n : GNode, loopN (path_Find_l1 r1) (false, (i : Int), n.name, n.props, n.kids) = some (false, n.name, n.props, n.kids)) := by
  intro l
  induction l with
  | nil =>
    intro i hi hd
    simp at hi
    constructor
    · intro n _
      rw [loopN_eq]
      unfold path_Find_l1
      simp only
      rw [if_neg (by simp; omega)]
      exact ⟨n, rfl⟩
    · intro n
      rw [loopN_eq]
      unfold path_Find_l1
      simp only
      rw [if_neg (by simp; omega)]
  | cons x l ih =>
    intro i hi hd
    simp at hi
    have hx : r1.1[i]? = some x := by
      have := congrArg (·[0]?) hd
      simpa using this
    have hd' : r1.1.drop (i + 1) = l := by rw [← List.drop_drop, hd]; rfl
    have hm := maxLen_small hl
    obtain ⟨ih1, ih2⟩ := ih (i + 1) (by omega) hd'
    constructor
    · intro n hn
      rw [loopN_eq]
      unfold path_Find_l1
      simp only
      rw [if_pos (by simp; omega), at_nat, hx]
      simp only [Option.bind_some, if_true]
      rw [GNode.eta, path_Kid_eq n x hn.kids_len, wrap_succ (by omega)]
      unfold findS
      cases hk : findK x n.kids with
      | some k =>
        simp only [Option.bind_some]
        exact ih1 k (hn.kid (findK_mem hk))
      | none =>
        simp only [Option.bind_some, Option.bind_none]
        exact ⟨_, ih2 (GNode.mk [] [] [])⟩
    · intro n
      rw [loopN_eq]
      unfold path_Find_l1
      simp only
      rw [if_pos (by simp; omega), at_nat, hx]
      simp only [Option.bind_some, Bool.false_eq_true, if_false]
      rw [wrap_succ (by omega)]
      exact ih2 n

theorem partsS_len {p : Str} {l : List Str} (h : partsS p = some l) : l.length ≤ 7 := by
  unfold partsS at h
  split at h
  · cases h
  · split at h
    · split at h
      · cases h; simp
      · split at h
        · cases h
        · rename_i h8
          cases h
          omega
    · cases h

theorem path_Find_eq (n : GNode) (p : Str) (hn : n.Ok) (hp : p.length < 4294967281) : path_Find n p = some (resNode ((partsS p).bind (findS n))) := by
  unfold path_Find
  rw [path_Parts_eq p hp]
  simp only [Option.bind_some]
  cases h : partsS p with
  | none =>
    obtain ⟨_, h2⟩ := path_Find_loop (resParts none) (by decide) [] 0 rfl rfl
    have h3 := h2 n
    rw [show (resParts none).2 = false from rfl]
    have h4 : loopN (path_Find_l1 (resParts none)) (false, 0, n.name, n.props, n.kids) = some (false, n.name, n.props, n.kids) := h3
    rw [h4]
    rfl
  | some l =>
    have hl := partsS_len h
    obtain ⟨h1, _⟩ := path_Find_loop (resParts (some l)) (by rw [maxLen_eq]; show l.length ≤ _; omega) l 0 (by simp [resParts]) rfl
    obtain ⟨r, h3⟩ := h1 n hn
    rw [show (resParts (some l)).2 = true from rfl]
    have h4 : loopN (path_Find_l1 (resParts (some l))) (true, 0, n.name, n.props, n.kids) = _ := h3
    rw [h4]
    simp only [Option.bind_some]
    cases findS n l with
    | none => rfl
    | some k => simp [resNode, GNode.eta]

theorem ref16_Find_loop (r1 : List Str × Bool) (hl : r1.1.length ≤ maxLen) : ∀ (l : List Str) (i : Nat), i + l.length = r1.1.length → r1.1.drop i = l →
    (∀ n : GNode, n.Ok → ∃ r, loopN (ref16_Find_l1 r1) ((i : Int), n.name, n.props, n.kids) = some (match findS n l with | some k => .inl (k.name, k.props, k.kids) | none => .inr r)) := by
  intro l
  induction l with
  | nil =>
    intro i hi hd n _
    simp at hi
    rw [loopN_eq]
    unfold ref16_Find_l1
    simp only
    rw [if_neg (by simp; omega)]
    exact ⟨([], [], []), rfl⟩
  | cons x l ih =>
    intro i hi hd n hn
    simp at hi
    have hx : r1.1[i]? = some x := by
      have := congrArg (·[0]?) hd
      simpa using this
    have hd' : r1.1.drop (i + 1) = l := by rw [← List.drop_drop, hd]; rfl
    have hm := maxLen_small hl
    have ih1 := ih (i + 1) (by omega) hd'
    rw [loopN_eq]
    unfold ref16_Find_l1
    simp only
    rw [if_pos (by simp; omega), at_nat, hx]
    simp only [Option.bind_some]
    rw [GNode.eta, ref16_Kid_eq n x hn.kids_len, wrap_succ (by omega)]
    unfold findS
    cases hk : findK x n.kids with
    | some k =>
      simp only [Option.bind_some, Bool.not_true, Bool.false_eq_true, if_false]
      exact ih1 k (hn.kid (findK_mem hk))
    | none =>
      exact ⟨(n.name, n.props, n.kids), rfl⟩

theorem ref16_Find_eq (n : GNode) (p : Str) (hn : n.Ok) (hp : p.length < 9000000000000000000) : ref16_Find n p = some (resNode ((partsS p).bind (findS n))) := by
  unfold ref16_Find
  rw [ref16_Parts_eq p hp]
  simp only [Option.bind_some]
  cases h : partsS p with
  | none => rfl
  | some l =>
    have hl := partsS_len h
    have h1 := ref16_Find_loop (resParts (some l)) (by rw [maxLen_eq]; show l.length ≤ _; omega) l 0 (by simp [resParts]) rfl
    obtain ⟨r, h3⟩ := h1 n hn
    rw [show (resParts (some l)).2 = true from rfl]
    have h4 : loopN (ref16_Find_l1 (resParts (some l))) (0, n.name, n.props, n.kids) = _ := h3
    rw [h4]
    simp only [Option.bind_some, Bool.not_true, Bool.false_eq_true, if_false]
    cases findS n l with
    | none => rfl
    | some k => simp [resNode, GNode.eta]

end Go.P
