/-
  Tools for plain proofs about printed functions: loops over a list, indices, wrapping. Lemmas alone; no condition.
-/
import Derived.Test.YticlelmlnadclaaDoorKAbsE
set_option linter.unusedVariables false
set_option linter.unusedSimpArgs false
set_option linter.unusedSectionVars false
set_option linter.unnecessarySimpa false
set_option linter.deprecated false
namespace Go.P
open Go Go.Abs

theorem wrap_id {x : Int} (h1 : -9223372036854775808 ≤ x) (h2 : x < 9223372036854775808) : IntKind.wrap .i64 x = x := by
  unfold IntKind.wrap
  simp [IntKind.bits, IntKind.signed]
  omega

theorem wrap_nat {n : Nat} (h : n < 9223372036854775808) : IntKind.wrap .i64 (n : Int) = (n : Int) := wrap_id (by omega) (by omega)
theorem wrap_succ {n : Nat} (h : n + 1 < 9223372036854775808) : IntKind.wrap .i64 ((n : Int) + 1) = ((n + 1 : Nat) : Int) := by rw [wrap_id] <;> omega

theorem at_nat {α : Type} (l : List α) (k : Nat) : at? l (k : Int) = l[k]? := by
  unfold at?
  rw [if_neg (by omega)]
  simp

theorem at_zero {α : Type} (l : List α) : at? l 0 = l[0]? := at_nat l 0

theorem sub_nat {α : Type} (l : List α) (a b : Nat) (h1 : a ≤ b) (h2 : b ≤ l.length) : sub? l (a : Int) (b : Int) = some ((l.take b).drop a) := by
  unfold sub?
  rw [if_pos (by omega)]
  simp

theorem sub_zero {α : Type} (l : List α) (b : Nat) (h2 : b ≤ l.length) : sub? l 0 (b : Int) = some (l.take b) := by
  have := sub_nat l 0 b (Nat.zero_le _) h2
  simpa using this

theorem loopN_next {σ ρ : Type} {body : σ → Option (σ ⊕ ρ)} {s : σ} (s' : σ) (h : body s = some (.inl s')) : loopN body s = loopN body s' := by rw [loopN_eq, h]
theorem loopN_done {σ ρ : Type} {body : σ → Option (σ ⊕ ρ)} {s : σ} (r : ρ) (h : body s = some (.inr r)) : loopN body s = some r := by rw [loopN_eq, h]

/-- a loop that shrinks what is left to do, and keeps an invariant, ends -/
theorem loopN_wp {σ ρ : Type} {body : σ → Option (σ ⊕ ρ)} (m : σ → Nat) (I : σ → Prop) (Q : ρ → Prop) (h : ∀ s, I s → (∃ s', body s = some (.inl s') ∧ I s' ∧ m s' < m s) ∨ (∃ r, body s = some (.inr r) ∧ Q r)) :
    ∀ s, I s → ∃ r, loopN body s = some r ∧ Q r := by
  intro s hs
  generalize hk : m s = k
  induction k using Nat.strongRecOn generalizing s with
  | ind k ih =>
    rw [loopN_eq]
    rcases h s hs with ⟨s', h1, h2, h3⟩ | ⟨r, h1, h2⟩
    · rw [h1]
      exact ih (m s') (by omega) s' h2 rfl
    · rw [h1]
      exact ⟨r, rfl, h2⟩

/-- a loop over a list, told on the list -/
def goL {α τ ρ : Type} (f : Nat → τ → α → Option (τ ⊕ ρ)) (fin : τ → ρ) : Nat → τ → List α → Option ρ
  | _, t, [] => some (fin t)
  | i, t, x :: l => match f i t x with
    | none => none
    | some (.inl t') => goL f fin (i + 1) t' l
    | some (.inr r) => some r

theorem loopN_list {α τ σ ρ : Type} (l : List α) (st : Nat → τ → σ) {body : σ → Option (σ ⊕ ρ)} (f : Nat → τ → α → Option (τ ⊕ ρ)) (fin : τ → ρ)
    (hstep : ∀ (i : Nat) t x, (h : i < l.length) → l[i]? = some x → body (st i t) = (f i t x).map fun y => match y with | .inl t' => .inl (st (i + 1) t') | .inr r => .inr r)
    (hend : ∀ t, body (st l.length t) = some (.inr (fin t))) (t : τ) : loopN body (st 0 t) = goL f fin 0 t l := by
  have key : ∀ (r : List α) (i : Nat) (t : τ), i + r.length = l.length → l.drop i = r → loopN body (st i t) = goL f fin i t r := by
    intro r
    induction r with
    | nil =>
      intro i t hi _
      simp at hi
      subst hi
      rw [loopN_eq, hend]
      rfl
    | cons x r ih =>
      intro i t hi hd
      simp at hi
      have hx : l[i]? = some x := by
        have := congrArg (·[0]?) hd
        simpa using this
      rw [loopN_eq, hstep i t x (by omega) hx]
      unfold goL
      cases hf : f i t x with
      | none => rfl
      | some y =>
        cases y with
        | inl t' =>
          show loopN body (st (i + 1) t') = _
          exact ih (i + 1) t' (by omega) (by rw [← List.drop_drop, hd]; rfl)
        | inr r => rfl
  exact key l 0 t (by simp) (by simp)

/-- the usual loop: the index alone -/
theorem loopN_idx {α ρ : Type} (l : List α) {body : Int → Option (Int ⊕ ρ)} (f : Nat → α → Option (Unit ⊕ ρ)) (fin : ρ)
    (hstep : ∀ (i : Nat) x, (h : i < l.length) → l[i]? = some x → body (i : Int) = (f i x).map fun y => match y with | .inl _ => .inl ((i + 1 : Nat) : Int) | .inr r => .inr r)
    (hend : body (l.length : Int) = some (.inr fin)) : loopN body 0 = goL (fun i (_ : Unit) x => f i x) (fun _ => fin) 0 () l :=
  loopN_list l (fun i (_ : Unit) => (i : Int)) (fun i _ x => f i x) (fun _ => fin) (fun i _ x h hx => by
    rw [hstep i x h hx]
    cases f i x with
    | none => rfl
    | some y => cases y <;> rfl) (fun _ => hend) ()


end Go.P
