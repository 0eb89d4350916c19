/-
  The law of the walker: each node is found at its path. Its condition is on the sizes of what is handed in.
-/
import Derived.Test.YticlelmlnadclaaDoorKPoHC
set_option linter.unusedVariables false
set_option linter.unusedSimpArgs false
set_option linter.unusedSectionVars false
set_option linter.unnecessarySimpa false
set_option linter.deprecated false
namespace Go.P
open Go Go.Abs

/-- a kid's path -/
def subS (path nm : Str) : Str := (if path.getLast? = some 47 then path else path ++ [47]) ++ nm

def walkS : Nat → Str → GNode → List GSpot
  | 0, _, _ => []
  | L + 1, path, n => GSpot.mk path n :: n.kids.flatMap fun k => walkS L (subS path k.name) k

theorem fold_sum {α : Type} (f : α → Nat) (l : List α) : ∀ t, l.foldl (fun t k => if t < 1000 then t + f k else t) t < 1000 → l.foldl (fun t k => if t < 1000 then t + f k else t) t = t + (l.map f).sum := by
  induction l with
  | nil => intro t _; simp
  | cons x l ih =>
    intro t h
    rw [List.foldl_cons] at h ⊢
    by_cases ht : t < 1000
    · rw [if_pos ht] at h ⊢
      rw [ih _ h]
      simp
      omega
    · exfalso
      rw [if_neg ht] at h
      have hst : ∀ (r : List α), r.foldl (fun t k => if t < 1000 then t + f k else t) t = t := by
        intro r
        induction r with
        | nil => rfl
        | cons y r ih2 => rw [List.foldl_cons, if_neg ht]; exact ih2
      rw [hst] at h
      omega

theorem sum_le {α : Type} (f g : α → Nat) (l : List α) (h : ∀ x ∈ l, f x ≤ g x) : (l.map f).sum ≤ (l.map g).sum := by
  induction l with
  | nil => simp
  | cons x l ih =>
    have h1 := h x (List.mem_cons_self ..)
    have h2 := ih fun y hy => h y (List.mem_cons_of_mem _ hy)
    simp
    omega

theorem mem_sum_le {α : Type} (f : α → Nat) (l : List α) (x : α) (h : x ∈ l) : f x ≤ (l.map f).sum := by
  induction l with
  | nil => cases h
  | cons y l ih =>
    simp
    rcases List.mem_cons.1 h with rfl | h
    · omega
    · have := ih h; omega

theorem flat_len {α β : Type} (f : α → List β) (l : List α) : (l.flatMap f).length = (l.map fun x => (f x).length).sum := by
  induction l with
  | nil => rfl
  | cons x l ih => simp [List.flatMap_cons]

theorem sizeS_succ {M : Nat} {n : GNode} (h : sizeS (M + 1) n < 1000) : sizeS (M + 1) n = 1 + n.props.length + (n.kids.map (sizeS M)).sum := fold_sum _ _ _ h

theorem walkS_len (L : Nat) : ∀ (M : Nat) (n : GNode) (path : Str), L ≤ M → sizeS M n < 1000 → (walkS L path n).length ≤ sizeS M n := by
  induction L with
  | zero => intro M n path _ _; simp [walkS]
  | succ L ih =>
    intro M n path hL hs
    obtain ⟨M, rfl⟩ : ∃ j, M = j + 1 := ⟨M - 1, by omega⟩
    have e := sizeS_succ hs
    unfold walkS
    rw [List.length_cons, flat_len]
    have : (n.kids.map fun x => (walkS L (subS path x.name) x).length).sum ≤ (n.kids.map (sizeS M)).sum := sum_le _ _ _ fun x hx => by
      have := mem_sum_le (sizeS M) n.kids x hx
      exact ih M x _ (by omega) (by omega)
    omega

theorem cat_some {a b : Str} (h : a.length + b.length < 9223372036854775807) : cat? a b = some (a ++ b) := by
  unfold cat?
  rw [if_pos (by omega)]

theorem app_some {α : Type} (m : Nat) (hm : m ≤ 1000) (a b : List α) (h : a.length + b.length < 100000000) : app? m a b = some (a ++ b) := by
  unfold app?
  rw [if_pos]
  have : (a.length + b.length) * m ≤ 100000000 * 1000 := Nat.mul_le_mul (by omega) hm
  omega

theorem last_at {path : Str} (h : path ≠ []) (hl : path.length < 1000000) : at? path (IntKind.wrap .i64 ((path.length : Int) - 1)) = path.getLast? := by
  have : 0 < path.length := List.length_pos_iff.2 h
  rw [wrap_id (by omega) (by omega), show (path.length : Int) - 1 = ((path.length - 1 : Nat) : Int) by omega, at_nat, List.getLast?_eq_getElem?]

theorem walk_loop (rec_ : Str → GNode → Int → Option (List GSpot)) (path : Str) (n : GNode) (L : Nat) (hL : L < 1000) (hp : path ≠ []) (hpl : path.length < 100000) (hk : n.kids.length ≤ 80) (hn : ∀ k ∈ n.kids, k.name.length ≤ 100)
    (W : GNode → List GSpot) (hr : ∀ k ∈ n.kids, rec_ (subS path k.name) k (L : Int) = some (W k)) : ∀ (l : List GNode) (i : Nat) (acc : List GSpot), i + l.length = n.kids.length → n.kids.drop i = l → acc.length + (l.flatMap W).length < 10000000 →
    loopN (ref12_walk_l1 rec_ path n ((L + 1 : Nat) : Int)) ((i : Int), acc) = some (acc ++ l.flatMap W) := by
  intro l
  induction l with
  | nil =>
    intro i acc hi hd ha
    simp at hi
    refine loopN_done _ ?_
    unfold ref12_walk_l1
    simp only
    rw [if_neg (by simp; omega)]
    simp
  | cons x l ih =>
    intro i acc hi hd ha
    simp at hi
    have hx : n.kids[i]? = some x := by
      have := congrArg (·[0]?) hd
      simpa using this
    have hd' : n.kids.drop (i + 1) = l := by rw [← List.drop_drop, hd]; rfl
    have hm : x ∈ n.kids := List.mem_of_getElem? hx
    have hxl := hn x hm
    simp only [List.flatMap_cons, List.length_append] at ha
    rw [loopN_next (((i + 1 : Nat) : Int), acc ++ W x)]
    · rw [ih (i + 1) (acc ++ W x) (by omega) hd' (by rw [List.length_append]; omega)]
      simp [List.flatMap_cons]
    · unfold ref12_walk_l1
      simp only
      rw [if_pos (by simp; omega), cat_some (by simp; omega)]
      simp only [Option.bind_some]
      rw [last_at hp (by omega)]
      obtain ⟨c, hc⟩ : ∃ c, path.getLast? = some c := by
        cases h : path.getLast? with
        | none => exact (hp (List.getLast?_eq_none_iff.1 h)).elim
        | some c => exact ⟨c, rfl⟩
      rw [hc]
      simp only [Option.bind_some]
      have hs := hr x hm
      unfold subS at hs
      rw [hc] at hs
      by_cases h47 : c = 47
      · subst h47
        rw [if_pos (by decide), at_nat, hx]
        simp only [Option.bind_some]
        rw [cat_some (by omega)]
        simp only [Option.bind_some]
        rw [show ((L + 1 : Nat) : Int) - 1 = (L : Int) by omega, wrap_nat (by omega)]
        simp only [if_true] at hs
        rw [hs]
        simp only [Option.bind_some]
        rw [app_some 80 (by omega) _ _ (by omega), wrap_succ (by omega)]
        rfl
      · have hne : ¬ ((c.toNat : Int) = 47) := fun e => h47 (UInt8.toNat_inj.1 (by simp; omega))
        rw [if_neg (by simpa using hne), at_nat, hx]
        simp only [Option.bind_some]
        rw [cat_some (by simp; omega)]
        simp only [Option.bind_some]
        rw [show ((L + 1 : Nat) : Int) - 1 = (L : Int) by omega, wrap_nat (by omega)]
        rw [if_neg (by simpa using h47)] at hs
        rw [hs]
        simp only [Option.bind_some]
        rw [app_some 80 (by omega) _ _ (by omega), wrap_succ (by omega)]
        rfl

theorem subS_len (path nm : Str) : (subS path nm).length ≤ path.length + 1 + nm.length := by
  unfold subS
  split <;> simp <;> omega

theorem subS_ne {path nm : Str} (h : path ≠ []) : subS path nm ≠ [] := by
  unfold subS
  split <;> simp [h]

theorem walk_k_eq (L : Nat) (hL : L < 1000) : ∀ (M : Nat) (n : GNode) (path : Str) (k : Nat), L ≤ M → lowB M n = true → sizeS M n < 1000 → path ≠ [] → path.length + 200 * L < 100000 → L + 1 ≤ k → ref12_walk_k k path n (L : Int) = some (walkS L path n) := by
  induction L with
  | zero =>
    intro M n path k _ _ _ _ _ hk
    obtain ⟨k, rfl⟩ : ∃ j, k = j + 1 := ⟨k - 1, by omega⟩
    rfl
  | succ L ih =>
    intro M n path k hM h hs hp hpl hk
    obtain ⟨k, rfl⟩ : ∃ j, k = j + 1 := ⟨k - 1, by omega⟩
    obtain ⟨M, rfl⟩ : ∃ j, M = j + 1 := ⟨M - 1, by omega⟩
    obtain ⟨h1, h2, h3, h4, h5⟩ := lowB_succ h
    have e := sizeS_succ hs
    have hM0 : 1 ≤ M ∨ n.kids = [] := by
      cases M with
      | zero =>
        right
        cases hkk : n.kids with
        | nil => rfl
        | cons x l => exact (by have := h5 x (by rw [hkk]; exact List.mem_cons_self ..); cases this)
      | succ M => left; omega
    have hn : ∀ k ∈ n.kids, k.name.length ≤ 100 := fun k hk => by
      rcases hM0 with hM1 | hM1
      · obtain ⟨M, rfl⟩ : ∃ j, M = j + 1 := ⟨M - 1, by omega⟩
        exact (lowB_succ (h5 k hk)).1
      · rw [hM1] at hk; cases hk
    have hsk : ∀ x ∈ n.kids, sizeS M x < 1000 := fun x hx => by have := mem_sum_le (sizeS M) n.kids x hx; omega
    unfold ref12_walk_k ref12_walk_b
    rw [if_neg (by simp; omega)]
    have hlen := walkS_len (L + 1) (M + 1) n path hM hs
    unfold walkS at hlen
    rw [List.length_cons] at hlen
    have := walk_loop (ref12_walk_k k) path n L (by omega) hp (by omega) h3 hn (fun x => walkS L (subS path x.name) x) (fun x hx => ih (by omega) M x (subS path x.name) k (by omega) (h5 x hx) (hsk x hx) (subS_ne hp) (by have := subS_len path x.name; have := hn x hx; omega) (by omega)) n.kids 0 [GSpot.mk path n] (by simp) rfl (by simp only [List.length_singleton]; omega)
    have e2 : loopN (ref12_walk_l1 (ref12_walk_k k) path n ((L + 1 : Nat) : Int)) (0, [GSpot.mk path n]) = _ := this
    rw [e2]
    rfl

theorem Walk_eq (n : GNode) (h : lowB 12 n = true) (hs : sizeS 12 n ≤ 400) : ref12_Walk n = some (walkS 8 [47] n) := by
  unfold ref12_Walk
  have : ref12_walk [47] n 8 = some (walkS 8 [47] n) := limF_eq 9 fun k hk => walk_k_eq 8 (by decide) 12 n [47] k (by decide) h (by omega) (by simp) (by simp) hk
  rw [this]
  rfl

/-- kids with good names -/
def NameOk (nm : Str) : Prop := nm ≠ [] ∧ ¬ (47 : UInt8) ∈ nm
def KidsGood (kids : List GNode) : Prop := ∀ (i : Nat) x, kids[i]? = some x → NameOk x.name ∧ ∀ (j : Nat) y, j < i → kids[j]? = some y → ¬ y.name = x.name

theorem splitL_ne (c : UInt8) (l : Str) : ∀ acc, 1 ≤ (splitL c acc l).length := by
  induction l with
  | nil => intro acc; simp [splitL]
  | cons x l ih =>
    intro acc
    unfold splitL
    split
    · simp
    · exact ih _

theorem splitL_one (c : UInt8) (l : Str) : ∀ acc, (splitL c acc l).length = 1 → ¬ c ∈ l := by
  induction l with
  | nil => intro acc _; simp
  | cons x l ih =>
    intro acc h
    unfold splitL at h
    split at h
    · have := splitL_ne c l []
      rw [List.length_cons] at h
      omega
    · rename_i hx
      intro hm
      rcases List.mem_cons.1 hm with e | e
      · exact hx (by simp [e])
      · exact ih _ h e

theorem name_ok {nm : Str} {l : List Str} (h : partsS (47 :: nm) = some l) (hl : l.length = 1) : NameOk nm := by
  unfold partsS at h
  simp only [beq_self_eq_true, if_true] at h
  split at h
  · cases h; cases hl
  · rename_i hne
    split at h
    · cases h
    · cases h
      exact ⟨hne, splitL_one 47 nm [] hl⟩

theorem l3_spec (x : GSpot) (v : Nat) (y : GNode) (hv : x.node.kids[v]? = some y) (hlen : x.node.kids.length ≤ 80) : ∀ (d j : Nat), j + d = v → (∀ (i : Nat) z, i < j → x.node.kids[i]? = some z → ¬ z.name = y.name) →
    ∃ r, loopN (law16_PathWalk_l3 x (v : Int)) (j : Int) = some r ∧ (r = .inr true ∨ (r = .inl () ∧ ∀ (i : Nat) z, i < v → x.node.kids[i]? = some z → ¬ z.name = y.name)) := by
  have hvl := (List.getElem?_eq_some_iff.1 hv).1
  intro d
  induction d with
  | zero =>
    intro j hj hg
    have : j = v := by omega
    subst this
    refine ⟨.inl (), loopN_done _ ?_, .inr ⟨rfl, hg⟩⟩
    unfold law16_PathWalk_l3
    simp only
    rw [if_neg (by simp)]
  | succ d ih =>
    intro j hj hg
    obtain ⟨z, hz⟩ : ∃ z, x.node.kids[j]? = some z := ⟨x.node.kids[j], List.getElem?_eq_getElem (by omega)⟩
    by_cases he : y.name = z.name
    · refine ⟨.inr true, loopN_done _ ?_, .inl rfl⟩
      unfold law16_PathWalk_l3
      simp only
      rw [if_pos (by simp; omega), at_nat, at_nat, hv, hz]
      simp only [Option.bind_some]
      rw [if_pos (by simpa using he)]
      rfl
    · rw [loopN_next ((j + 1 : Nat) : Int)]
      · exact ih (j + 1) (by omega) fun i w hi hw => by
          by_cases hij : i = j
          · subst hij
            rw [hz] at hw
            cases hw
            exact fun e => he e.symm
          · exact hg i w (by omega) hw
      · unfold law16_PathWalk_l3
        simp only
        rw [if_pos (by simp; omega), at_nat, at_nat, hv, hz]
        simp only [Option.bind_some]
        rw [if_neg (by simpa using he), wrap_succ (by omega)]

def KidsTo (kids : List GNode) (k : Nat) : Prop := ∀ (i : Nat) x, i < k → kids[i]? = some x → NameOk x.name ∧ ∀ (j : Nat) y, j < i → kids[j]? = some y → ¬ y.name = x.name

theorem l2_spec (x : GSpot) (hlen : x.node.kids.length ≤ 80) (hn : ∀ k ∈ x.node.kids, k.name.length ≤ 100) : ∀ (d v : Nat), v + d = x.node.kids.length → KidsTo x.node.kids v →
    ∃ r, loopN (law16_PathWalk_l2 x) (v : Int) = some r ∧ (r = .inr true ∨ (r = .inl () ∧ KidsTo x.node.kids x.node.kids.length)) := by
  intro d
  induction d with
  | zero =>
    intro v hv hg
    have : v = x.node.kids.length := by omega
    subst this
    refine ⟨.inl (), loopN_done _ ?_, .inr ⟨rfl, hg⟩⟩
    unfold law16_PathWalk_l2
    simp only
    rw [if_neg (by simp)]
  | succ d ih =>
    intro v hv hg
    obtain ⟨y, hy⟩ : ∃ z, x.node.kids[v]? = some z := ⟨x.node.kids[v], List.getElem?_eq_getElem (by omega)⟩
    have hyn := hn y (List.mem_of_getElem? hy)
    have hp : path_Parts (47 :: y.name) = some (resParts (partsS (47 :: y.name))) := path_Parts_eq _ (by simp; omega)
    have start : ∀ R, law16_PathWalk_l2 x (v : Int) = R ↔ (if (!(resParts (partsS (47 :: y.name))).2) = true then (some (.inr (.inr true)) : Option (Int ⊕ (Unit ⊕ Bool))) else if (((resParts (partsS (47 :: y.name))).1.length : Int) != 1) = true then some (.inr (.inr true)) else (loopN (law16_PathWalk_l3 x (v : Int)) 0).bind fun r44 => match r44 with
          | (.inl r46) => some (.inl (IntKind.wrap .i64 ((v : Int) + 1)))
          | (.inr r47) => some (.inr (.inr r47))) = R := by
      intro R
      unfold law16_PathWalk_l2
      simp only
      rw [if_pos (by simp; omega), at_nat, hy]
      simp only [Option.bind_some]
      rw [cat_some (by simp; omega)]
      simp only [Option.bind_some, List.cons_append, List.nil_append]
      rw [hp]
      rfl
    cases hq : partsS (47 :: y.name) with
    | none =>
      refine ⟨.inr true, loopN_done _ ?_, .inl rfl⟩
      rw [start, hq]
      rfl
    | some l =>
      by_cases hl : l.length = 1
      · have hok := name_ok hq hl
        obtain ⟨r, h3, hr⟩ := l3_spec x v y hy hlen v 0 (by omega) (fun i z hi => by omega)
        have h3' : loopN (law16_PathWalk_l3 x (v : Int)) 0 = some r := h3
        rcases hr with rfl | ⟨rfl, hd⟩
        · refine ⟨.inr true, loopN_done _ ?_, .inl rfl⟩
          rw [start, hq, h3']
          simp [resParts, hl]
        · rw [loopN_next ((v + 1 : Nat) : Int)]
          · exact ih (v + 1) (by omega) fun i z hi hz => by
              by_cases hiv : i = v
              · subst hiv
                rw [hy] at hz
                cases hz
                exact ⟨hok, hd⟩
              · exact hg i z (by omega) hz
          · rw [start, hq, h3']
            rw [wrap_succ (by omega)]
            simp [resParts, hl]
      · refine ⟨.inr true, loopN_done _ ?_, .inl rfl⟩
        rw [start, hq]
        have : ¬ ((l.length : Int) = 1) := by omega
        simp [resParts, this]

theorem l1_spec (r15 : List GSpot) (hr : r15.length < 1000000) (hlow : ∀ s ∈ r15, s.node.kids.length ≤ 80 ∧ ∀ k ∈ s.node.kids, k.name.length ≤ 100) : ∀ (d v : Nat), v + d = r15.length → (∀ (i : Nat) s, i < v → r15[i]? = some s → KidsTo s.node.kids s.node.kids.length) →
    ∃ r, loopN (law16_PathWalk_l1 r15) (v : Int) = some r ∧ (r = .inr true ∨ (r = .inl () ∧ ∀ s ∈ r15, KidsTo s.node.kids s.node.kids.length)) := by
  intro d
  induction d with
  | zero =>
    intro v hv hg
    have : v = r15.length := by omega
    subst this
    refine ⟨.inl (), loopN_done _ ?_, .inr ⟨rfl, fun s hs => ?_⟩⟩
    · unfold law16_PathWalk_l1
      simp only
      rw [if_neg (by simp)]
    · obtain ⟨i, hi⟩ := List.getElem?_of_mem hs
      exact hg i s ((List.getElem?_eq_some_iff.1 hi).1) hi
  | succ d ih =>
    intro v hv hg
    obtain ⟨s, hs⟩ : ∃ z, r15[v]? = some z := ⟨r15[v], List.getElem?_eq_getElem (by omega)⟩
    obtain ⟨hl1, hl2⟩ := hlow s (List.mem_of_getElem? hs)
    obtain ⟨r, h2, hr2⟩ := l2_spec s hl1 hl2 s.node.kids.length 0 (by omega) (fun i x hi => by omega)
    have h2' : loopN (law16_PathWalk_l2 s) 0 = some r := h2
    rcases hr2 with rfl | ⟨rfl, hd⟩
    · refine ⟨.inr true, loopN_done _ ?_, .inl rfl⟩
      unfold law16_PathWalk_l1
      simp only
      rw [if_pos (by simp; omega), at_nat, hs]
      simp only [Option.bind_some]
      rw [h2']
      rfl
    · rw [loopN_next ((v + 1 : Nat) : Int)]
      · exact ih (v + 1) (by omega) fun i z hi hz => by
          by_cases hiv : i = v
          · subst hiv
            rw [hs] at hz
            cases hz
            exact hd
          · exact hg i z (by omega) hz
      · unfold law16_PathWalk_l1
        simp only
        rw [if_pos (by simp; omega), at_nat, hs]
        simp only [Option.bind_some]
        rw [h2', wrap_succ (by omega)]
        rfl

/-- the path of names -/
def pathOf (l : List Str) : Str := 47 :: joinL [47] l

theorem splitL_name (nm r acc : Str) (h : ¬ (47 : UInt8) ∈ nm) : splitL 47 acc (nm ++ r) = splitL 47 (nm.reverse ++ acc) r := by
  induction nm generalizing acc with
  | nil => rfl
  | cons x nm ih =>
    have hx : (x == 47) = false := by
      have : ¬ x = 47 := fun e => h (by rw [e]; exact List.mem_cons_self ..)
      simpa using this
    rw [List.cons_append, splitL, hx]
    simp only [Bool.false_eq_true, if_false]
    rw [ih _ (fun e => h (List.mem_cons_of_mem _ e))]
    simp

theorem split_join : ∀ (l : List Str), l ≠ [] → (∀ x ∈ l, NameOk x) → splitL 47 [] (joinL [47] l) = l
  | [], h, _ => (h rfl).elim
  | [x], _, hg => by
    have := splitL_name x [] [] (hg x (List.mem_cons_self ..)).2
    rw [List.append_nil] at this
    unfold joinL
    rw [this]
    simp [splitL]
  | x :: y :: r, _, hg => by
    have h1 := splitL_name x ([47] ++ joinL [47] (y :: r)) [] (hg x (List.mem_cons_self ..)).2
    have h2 := split_join (y :: r) (by simp) (fun z hz => hg z (List.mem_cons_of_mem _ hz))
    unfold joinL
    rw [List.append_assoc, h1]
    simp only [List.append_nil, List.singleton_append]
    rw [splitL]
    simp [h2]

theorem parts_path {l : List Str} (hg : ∀ x ∈ l, NameOk x) (hl : l.length ≤ 7) : partsS (pathOf l) = some l := by
  unfold partsS pathOf
  simp only [beq_self_eq_true, if_true]
  cases l with
  | nil => rfl
  | cons x r =>
    have h1 := split_join (x :: r) (by simp) hg
    have hne : joinL [47] (x :: r) ≠ [] := by
      intro e
      rw [e] at h1
      simp [splitL] at h1
      exact (hg x (List.mem_cons_self ..)).1 h1.1
    rw [if_neg hne, h1, if_neg]
    rintro (h | h)
    · omega
    · exact (hg [] h).1 rfl

theorem join_snoc : ∀ (l : List Str) (nm : Str), l ≠ [] → joinL [47] (l ++ [nm]) = joinL [47] l ++ [47] ++ nm
  | [], _, h => (h rfl).elim
  | [x], nm, _ => rfl
  | x :: y :: r, nm, _ => by
    have := join_snoc (y :: r) nm (by simp)
    have e1 : joinL [47] (x :: y :: r ++ [nm]) = x ++ [47] ++ joinL [47] (y :: r ++ [nm]) := rfl
    have e2 : joinL [47] (x :: y :: r) = x ++ [47] ++ joinL [47] (y :: r) := rfl
    rw [e1, e2, this]
    simp

theorem join_last : ∀ (l : List Str), l ≠ [] → (∀ x ∈ l, NameOk x) → ∃ c, (joinL [47] l).getLast? = some c ∧ c ≠ 47
  | [], h, _ => (h rfl).elim
  | [x], _, hg => by
    obtain ⟨h1, h2⟩ := hg x (List.mem_cons_self ..)
    rcases List.eq_nil_or_concat x with rfl | ⟨u, c, rfl⟩
    · exact (h1 rfl).elim
    · refine ⟨c, by simp [joinL], fun e => h2 (by simp [e])⟩
  | x :: y :: r, _, hg => by
    obtain ⟨c, h1, h2⟩ := join_last (y :: r) (by simp) (fun z hz => hg z (List.mem_cons_of_mem _ hz))
    refine ⟨c, ?_, h2⟩
    have e2 : joinL [47] (x :: y :: r) = x ++ [47] ++ joinL [47] (y :: r) := rfl
    rw [e2, List.getLast?_append, h1]
    rfl

theorem sub_path {l : List Str} (hg : ∀ x ∈ l, NameOk x) (nm : Str) : subS (pathOf l) nm = pathOf (l ++ [nm]) := by
  cases l with
  | nil => rfl
  | cons x r =>
    obtain ⟨c, h1, h2⟩ := join_last (x :: r) (by simp) hg
    unfold subS pathOf
    have : (47 :: joinL [47] (x :: r)).getLast? = some c := by rw [List.getLast?_cons, h1]; rfl
    rw [this, if_neg (by simpa using h2), join_snoc _ _ (by simp)]
    simp

theorem findK_here {kids : List GNode} (h : KidsTo kids kids.length) {i : Nat} {k : GNode} (hk : kids[i]? = some k) : findK k.name kids = some k := by
  have hi := (List.getElem?_eq_some_iff.1 hk).1
  have hd := (h i k hi hk).2
  unfold findK
  rw [← find_of_idx]
  have : kids.findIdx? (fun x => x.name == k.name) = some i := by
    rw [List.findIdx?_eq_some_iff_getElem]
    refine ⟨hi, ?_, fun j hj => ?_⟩
    · have := (List.getElem?_eq_some_iff.1 hk).2
      simp [this]
    · have := hd j kids[j] hj (List.getElem?_eq_getElem _)
      simpa using this
  rw [this]
  exact hk

theorem findS_snoc {n m k : GNode} {l : List Str} {x : Str} (h : findS n l = some m) (hk : findK x m.kids = some k) : findS n (l ++ [x]) = some k := by
  induction l generalizing n with
  | nil => simp [findS] at h; subst h; simp [findS, hk]
  | cons y l ih =>
    unfold findS at h
    obtain ⟨q, hq, h⟩ := Option.bind_eq_some_iff.1 h
    rw [List.cons_append]
    unfold findS
    rw [hq]
    exact ih h

theorem walk_found (n : GNode) (L : Nat) : ∀ (m : GNode) (l : List Str), findS n l = some m → (∀ x ∈ l, NameOk x) → l.length + L ≤ 8 → (∀ s ∈ walkS L (pathOf l) m, KidsTo s.node.kids s.node.kids.length) → ∀ s ∈ walkS L (pathOf l) m, (partsS s.path).bind (findS n) = some s.node ∧ s.path.length < 4294967281 ∨ 4294967281 ≤ s.path.length := by
  induction L with
  | zero => intro m l _ _ _ _ s hs; simp [walkS] at hs
  | succ L ih =>
    intro m l hf hg hl hk s hs
    unfold walkS at hs hk
    rcases List.mem_cons.1 hs with rfl | hs
    · by_cases hlt : (pathOf l).length < 4294967281
      · left
        refine ⟨?_, hlt⟩
        show (partsS (pathOf l)).bind (findS n) = some m
        rw [parts_path hg (by omega)]
        exact hf
      · right
        show 4294967281 ≤ (pathOf l).length
        omega
    · obtain ⟨k, hkm, hs⟩ := List.mem_flatMap.1 hs
      obtain ⟨i, hi⟩ := List.getElem?_of_mem hkm
      have hkids := hk _ (List.mem_cons_self ..)
      have hname := (hkids i k ((List.getElem?_eq_some_iff.1 hi).1) hi).1
      have hfk := findK_here hkids hi
      rw [sub_path hg] at hs
      refine ih k (l ++ [k.name]) (findS_snoc hf hfk) ?_ (by simp; omega) ?_ s hs
      · intro x hx
        rcases List.mem_append.1 hx with hx | hx
        · exact hg x hx
        · simp at hx; subst hx; exact hname
      · intro t ht
        exact hk t (List.mem_cons_of_mem _ (List.mem_flatMap.2 ⟨k, hkm, by rw [sub_path hg]; exact ht⟩))

theorem walk_props (L : Nat) : ∀ (M : Nat) (n : GNode) (path : Str), L ≤ M → lowB M n = true → ∀ s ∈ walkS L path n, s.node.Ok ∧ s.path.length ≤ path.length + 101 * L ∧ s.node.kids.length ≤ 80 ∧ ∀ k ∈ s.node.kids, k.name.length ≤ 100 := by
  induction L with
  | zero => intro M n path _ _ s hs; simp [walkS] at hs
  | succ L ih =>
    intro M n path hM h s hs
    obtain ⟨M, rfl⟩ : ∃ j, M = j + 1 := ⟨M - 1, by omega⟩
    obtain ⟨h1, h2, h3, h4, h5⟩ := lowB_succ h
    have hn : ∀ k ∈ n.kids, k.name.length ≤ 100 := fun k hk => by
      have := h5 k hk
      cases M with
      | zero => cases this
      | succ M => exact (lowB_succ this).1
    unfold walkS at hs
    rcases List.mem_cons.1 hs with rfl | hs
    · exact ⟨lowB_ok h, by simp, h3, hn⟩
    · obtain ⟨k, hkm, hs⟩ := List.mem_flatMap.1 hs
      obtain ⟨a, b, c⟩ := ih M k (subS path k.name) (by omega) (h5 k hkm) s hs
      refine ⟨a, ?_, c⟩
      have := subS_len path k.name
      have := hn k hkm
      omega

theorem l4_spec (n : GNode) (hn : n.Ok) (r15 : List GSpot) (hr : r15.length < 1000000) (hok : ∀ s ∈ r15, s.node.Ok ∧ s.path.length < 4294967281 ∧ (partsS s.path).bind (findS n) = some s.node) : loopN (law16_PathWalk_l4 n r15) 0 = some (.inl ()) := by
  rw [loopN_idx r15 (fun i x => some (.inl ())) (.inl ())]
  · have : ∀ (r : List GSpot) (i : Nat), goL (fun i (_ : Unit) (x : GSpot) => (some (.inl ()) : Option (Unit ⊕ (Unit ⊕ Unit)))) (fun _ => .inl ()) i () r = some (.inl ()) := by
      intro r
      induction r with
      | nil => intro i; rfl
      | cons x r ih => intro i; exact ih (i + 1)
    rw [this]
  · intro i s hi hs
    obtain ⟨h1, h2, h3⟩ := hok s (List.mem_of_getElem? hs)
    unfold law16_PathWalk_l4
    simp only
    rw [if_pos (by simp; omega), at_nat, hs]
    simp only [Option.bind_some]
    rw [path_Find_eq n s.path hn h2, h3]
    simp only [Option.bind_some, resNode, Bool.not_true, Bool.false_eq_true, if_false]
    rw [Same_refl _ h1, wrap_succ (by omega)]
    rfl
  · unfold law16_PathWalk_l4
    rw [if_neg (by simp)]

theorem join_split (r : Str) : ∀ acc, joinL [47] (splitL 47 acc r) = acc.reverse ++ r := by
  induction r with
  | nil => intro acc; simp [splitL, joinL]
  | cons x r ih =>
    intro acc
    unfold splitL
    by_cases hx : x = 47
    · subst hx
      simp only [beq_self_eq_true, if_true]
      have h1 := ih []
      cases hs : splitL 47 [] r with
      | nil => have := splitL_ne 47 r []; rw [hs] at this; simp at this
      | cons y l =>
        rw [hs] at h1
        show acc.reverse ++ [47] ++ joinL [47] (y :: l) = _
        rw [h1]
        simp
    · have : (x == 47) = false := by simpa using hx
      rw [this]
      simp only [Bool.false_eq_true, if_false]
      rw [ih]
      simp

theorem parts_join {p : Str} {l : List Str} (h : partsS p = some l) : 47 :: joinL [47] l = p := by
  unfold partsS at h
  split at h
  · cases h
  · rename_i c r
    split at h
    · rename_i hc
      have hc : c = 47 := by simpa using hc
      subst hc
      split at h
      · rename_i hr
        cases h
        rw [hr]
        rfl
      · split at h
        · cases h
        · cases h
          rw [join_split]
          rfl
    · cases h

theorem law16_PathWalk_true (n : GNode) (p : Str) (hn : n.Ok) (hp : p.length ≤ maxLen) : law16_PathWalk n p = some true := by
  unfold law16_PathWalk
  rw [Low_eq]
  simp only [Option.bind_some]
  cases hb : (lowB 12 n && decide (sizeS 12 n ≤ 400)) with
  | false => rfl
  | true =>
    obtain ⟨h, hs⟩ : lowB 12 n = true ∧ sizeS 12 n ≤ 400 := by simpa using hb
    simp only [Bool.not_true, Bool.false_eq_true, if_false]
    by_cases h1 : p.length > 200
    · rw [if_pos (by simp; omega)]
      rfl
    · rw [if_neg (by simp; omega), path_Parts_eq p (by omega)]
      simp only [Option.bind_some]
      have hW := walkS_len 8 12 n [47] (by decide) (by omega)
      have hP := walk_props 8 12 n [47] (by decide) h
      obtain ⟨r, hr1, hr2⟩ := l1_spec (walkS 8 [47] n) (by omega) (fun s hs => (hP s hs).2.2) (walkS 8 [47] n).length 0 (by omega) (fun i s hi => by omega)
      have hr1' : loopN (law16_PathWalk_l1 (walkS 8 [47] n)) 0 = some r := hr1
      have hfin : (∀ s ∈ walkS 8 [47] n, KidsTo s.node.kids s.node.kids.length) → loopN (law16_PathWalk_l4 n (walkS 8 [47] n)) 0 = some (.inl ()) := by
        intro hk
        refine l4_spec n hn _ (by omega) fun s hs => ?_
        obtain ⟨a, b, _⟩ := hP s hs
        have hlen : s.path.length < 4294967281 := by simp at b; omega
        rcases walk_found n 8 n [] rfl (fun x hx => by cases hx) (by simp) hk s hs with ⟨q, _⟩ | q
        · exact ⟨a, hlen, q⟩
        · omega
      have tail : ((ref12_Walk n).bind fun r15 =>
          (loopN (law16_PathWalk_l1 r15) 0).bind fun r52 => match r52 with
          | (.inl r54) =>
            (loopN (law16_PathWalk_l4 n r15) 0).bind fun r67 => match r67 with
            | (.inl r69) => (law16_awake).bind fun r70 => some r70
            | (.inr r72) => some false
          | (.inr r73) => some r73) = some true := by
        rw [Walk_eq n h hs]
        simp only [Option.bind_some]
        rw [hr1']
        rcases hr2 with rfl | ⟨rfl, hk⟩
        · rfl
        · simp only [Option.bind_some]
          rw [hfin hk]
          rfl
      cases hq : partsS p with
      | none => exact tail
      | some l =>
        have hj := parts_join hq
        have hl := partsS_len hq
        have hjoin : path_Join l = some p := by
          unfold path_Join
          have : strings_Join l [47] = some (joinL [47] l) := by
            unfold strings_Join
            rw [if_pos]
            have := congrArg List.length hj
            simp at this
            omega
          rw [this]
          simp only [Option.bind_some]
          rw [cat_some (by have := congrArg List.length hj; simp at this ⊢; omega)]
          simp only [Option.bind_some, List.singleton_append]
          rw [hj]
        simp only [resParts, if_true]
        rw [hjoin]
        simp only [Option.bind_some, beq_self_eq_true, Bool.not_true, Bool.false_eq_true, if_false]
        exact tail

end Go.P
