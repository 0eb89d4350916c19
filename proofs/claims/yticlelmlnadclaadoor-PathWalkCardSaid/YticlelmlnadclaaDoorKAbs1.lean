/-
  What a value of the evaluator stands for in a world of the model; what a step of the model may change; and that what stood for a value stands for it behind a step. Lemmas alone; no condition.
-/
import Derived.Test.YticlelmlnadclaaDoorKAbs0
set_option linter.unusedVariables false
set_option linter.unusedSimpArgs false
set_option linter.unusedSectionVars false
set_option linter.unnecessarySimpa false
set_option linter.deprecated false
namespace Go.Abs
open Go

/-- the world, the blocks that nobody writes any more, the store, and what the store's objects are in the world -/
structure Cx where
  w : World
  fz : Nat → Prop
  st : Store
  io : Nat → Value

/-- the block that an object's handle leads to -/
def blk : Value → Option Nat
  | .pointer (some a) => some a.block
  | .slice (some a) _ _ => some a.block
  | .map (some r) => some r
  | _ => none

def Cx.ver (c : Cx) (id : Nat) : Option Nat := (c.st[id]?).bind AObj.ver?
def Cx.live (c : Cx) (id : Nat) : Prop := (c.ver id).isSome
def Cx.mine (c : Cx) (k : Nat) : Prop := ∃ id, c.live id ∧ blk (c.io id) = some k

/-- a slice of the array of which 'h' is the whole -/
def OwnSl (h : Value) (k off len : Nat) (v : Value) : Prop :=
  ∃ A n c, h = .slice A n c ∧ off + len ≤ n ∧ ∃ A' c', v = .slice A' len c' ∧ len ≤ c' ∧ c' ≤ c ∧ (off = 0 → A' = A ∧ c' = c) ∧ (0 < len → ∃ g, A = some ⟨g, 0, none⟩ ∧ A' = some ⟨g, off * k, none⟩)

mutual
inductive Rep (c : Cx) : AV → Value → Prop
  | sc (v : Value) : plainV v = true → Rep c (.sc v) v
  | bad (v : Value) : Rep c .bad v
  | lst (n : Nat) (cs : List AV) (A : Option Addr) (cap : Nat) (vs : List Value) : n ≤ cap → Reps c cs vs → n ≤ 9223372036854775807 →
      ((n = 0 ∧ cs = []) ∨ ∃ ad, A = some ad ∧ ad.spot = none ∧ c.fz ad.block ∧ ∀ j u, vs[j]? = some u → c.w.cell? (ad.add j) = some u) → Rep c (.lst n cs) (.slice A n cap)
  | agg (cs : List AV) (vs : Array Value) : Reps c cs vs.toList → Rep c (.agg cs) (.agg vs)
  | tup (cs : List AV) (vs : Array Value) : Reps c cs vs.toList → Rep c (.tup cs) (.tuple vs)
  | fn (f : FuncId) (cs : List AV) (vs : Array Value) : Reps c cs vs.toList → Rep c (.fn f cs) (.func (.func f) #[] vs)
  | ref (id ver off : Nat) (v : Value) : v.oneCell' = true → id < c.st.length → (∀ v0, c.ver id = some v0 → ver ≤ v0) → (c.ver id = some ver → ∃ g, blk (c.io id) = some g ∧ v = .pointer (some ⟨g, off, none⟩)) → Rep c (.ref id ver off) v
  | own (id ver off len : Nat) (v : Value) : v.oneCell' = true → id < c.st.length → (∀ v0, c.ver id = some v0 → ver ≤ v0) → (∀ e k n cs, c.st[id]? = some (.arr e k ver n cs) → OwnSl (c.io id) k off len v) → Rep c (.own id ver off len) v
  | mref (id : Nat) (v : Value) : v.oneCell' = true → id < c.st.length → (c.ver id = some 0 → v = c.io id) → Rep c (.mref id) v
  | fp (cs : List AV) (off : Nat) (ad : Addr) (vs : List Value) : Reps c cs vs → ad.spot = none → c.fz ad.block → (∀ j u, vs[j]? = some u → c.w.cell? (ad.add j) = some u) → Rep c (.fp cs off) (.pointer (some (ad.add off)))
inductive Reps (c : Cx) : List AV → List Value → Prop
  | nil : Reps c [] []
  | cons (a : AV) (v : Value) (as : List AV) (vs : List Value) : Rep c a v → Reps c as vs → Reps c (a :: as) (v :: vs)
end

/-- what holds of an object -/
def Good (c : Cx) (id : Nat) : AObj → Prop
  | .box t cs => ∃ g vs, c.io id = .pointer (some ⟨g, 0, none⟩) ∧ c.w.heap[g]? = some (.cells vs t (0, 0)) ∧ Reps c cs vs.toList
  | .arr e k _ n cs => ∃ vs, c.w.ownsRow 0 e k (c.io id) n vs ∧ Reps c cs vs ∧ 0 < k
  | .mp es => ∃ r es' clock, c.io id = .map (some r) ∧ c.w.heap[r]? = some (.map es' clock) ∧ es.map (·.1) = es'.toList.map (·.key) ∧ Reps c (es.map (·.2)) (es'.toList.map (·.val))
  | .dead => True

structure Inv (c : Cx) : Prop where
  fzlt : ∀ k, c.fz k → k < c.w.heap.size
  good : ∀ id o, c.st[id]? = some o → Good c id o
  apart : ∀ k, c.mine k → ¬ c.fz k
  sep : ∀ i j k, c.live i → c.live j → blk (c.io i) = some k → blk (c.io j) = some k → i = j
  minelt : ∀ k, c.mine k → k < c.w.heap.size
  gl : ∃ W0 : World, Glob W0 ∧ ∀ k, k < W0.heap.size → c.fz k ∧ c.w.heap[k]? = W0.heap[k]?

structure Step (c c' : Cx) : Prop where
  os : c'.w.os = c.w.os
  tape : c'.w.tape = c.w.tape
  output : c'.w.output = c.w.output
  size : c.w.heap.size ≤ c'.w.heap.size
  heap : ∀ k, k < c.w.heap.size → ¬ c.mine k → c'.w.heap[k]? = c.w.heap[k]?
  fz : ∀ k, c.fz k → c'.fz k
  fznew : ∀ k, k < c.w.heap.size → c'.fz k → c.fz k ∨ c.mine k
  len : c.st.length ≤ c'.st.length
  ver : ∀ id, id < c.st.length → ∀ v, c'.ver id = some v → ∃ v0, c.ver id = some v0 ∧ v0 ≤ v ∧ (v0 = v → c'.io id = c.io id)
  arr : ∀ id, id < c.st.length → ∀ e k v n cs, c'.st[id]? = some (.arr e k v n cs) → c.ver id = some v → ∃ e' n' cs', c.st[id]? = some (.arr e' k v n' cs')
  mine : ∀ k, c'.mine k → c.mine k ∨ c.w.heap.size ≤ k

theorem Reps.length {c : Cx} : ∀ {l : List AV} {vs : List Value}, Reps c l vs → l.length = vs.length
  | _, _, .nil => rfl
  | _, _, .cons _ _ _ _ _ h => by simp [h.length]

theorem Step.refl (c : Cx) : Step c c :=
  ⟨rfl, rfl, rfl, Nat.le_refl _, fun _ _ _ => rfl, fun _ h => h, fun _ _ h => .inl h, Nat.le_refl _, fun _ _ v h => ⟨v, h, Nat.le_refl _, fun _ => rfl⟩,
    fun _ _ _ _ _ _ _ h _ => ⟨_, _, _, h⟩, fun _ h => .inl h⟩

theorem Step.trans {a b c : Cx} (h : Step a b) (k : Step b c) (hm : ∀ x, b.mine x → x < b.w.heap.size) : Step a c where
  os := k.os.trans h.os
  tape := k.tape.trans h.tape
  output := k.output.trans h.output
  size := Nat.le_trans h.size k.size
  heap := fun x hx hn => (k.heap x (Nat.lt_of_lt_of_le hx h.size) (fun hb => (h.mine x hb).elim hn (fun hh => by omega))).trans (h.heap x hx hn)
  fz := fun x hx => k.fz x (h.fz x hx)
  fznew := fun x hx hc => (k.fznew x (Nat.lt_of_lt_of_le hx h.size) hc).elim (h.fznew x hx) (fun hb => (h.mine x hb).elim .inr (fun hh => by omega))
  len := Nat.le_trans h.len k.len
  ver := fun id hid v hv => by
    obtain ⟨v1, h1, l1, e1⟩ := k.ver id (Nat.lt_of_lt_of_le hid h.len) v hv
    obtain ⟨v0, h0, l0, e0⟩ := h.ver id hid v1 h1
    refine ⟨v0, h0, Nat.le_trans l0 l1, fun e => ?_⟩
    have : v0 = v1 := by omega
    have h2 : v1 = v := by omega
    rw [e1 h2, e0 this]
  arr := fun id hid e kk v n cs hc ha => by
    have hv : c.ver id = some v := by simp [Cx.ver, hc, AObj.ver?]
    obtain ⟨v1, h1, l1, _⟩ := k.ver id (Nat.lt_of_lt_of_le hid h.len) v hv
    obtain ⟨v0, h0, l0, _⟩ := h.ver id hid v1 h1
    rw [ha] at h0
    injection h0 with h0
    have : v1 = v := by omega
    subst this
    obtain ⟨e', n', cs', hb⟩ := k.arr id (Nat.lt_of_lt_of_le hid h.len) e kk v1 n cs hc h1
    exact h.arr id hid e' kk v1 n' cs' hb ha
  mine := fun x hx => (k.mine x hx).elim (fun hb => h.mine x hb) (fun hh => .inr (Nat.le_trans h.size hh))

theorem add_block (a : Addr) (n : Nat) : (a.add n).block = a.block := by unfold Addr.add; split <;> rfl

theorem cell_kept {c c' : Cx} (h : Step c c') (hi : Inv c) {a : Addr} {v : Value} (hf : c.fz a.block) (hc : c.w.cell? a = some v) : c'.w.cell? a = some v := by
  rw [World.cell?_of_block (w := c.w) (h.heap a.block (hi.fzlt _ hf) (fun hm => hi.apart _ hm hf))]
  exact hc

theorem gl_step {c c' : Cx} (h : Step c c') (hi : Inv c) : ∃ W0 : World, Glob W0 ∧ ∀ k, k < W0.heap.size → c'.fz k ∧ c'.w.heap[k]? = W0.heap[k]? := by
  obtain ⟨W0, hg, hk⟩ := hi.gl
  refine ⟨W0, hg, fun k hlt => ?_⟩
  obtain ⟨hf, he⟩ := hk k hlt
  exact ⟨h.fz k hf, (h.heap k (hi.fzlt k hf) (fun hm => hi.apart k hm hf)).trans he⟩

mutual
theorem Rep.step {c c' : Cx} (h : Step c c') (hi : Inv c) : ∀ {a : AV} {v : Value}, Rep c a v → Rep c' a v
  | _, _, .sc v hp => .sc v hp
  | _, _, .bad v => .bad v
  | _, _, .lst n cs A cap vs hn hr hb hx => .lst n cs A cap vs hn (hr.step h hi) hb (by
      rcases hx with hx | ⟨ad, e, hs, hf, hc⟩
      · exact .inl hx
      · refine .inr ⟨ad, e, hs, h.fz _ hf, fun j u hu => cell_kept h hi (a := ad.add j) (by rw [add_block]; exact hf) (hc j u hu)⟩)
  | _, _, .agg cs vs hr => .agg cs vs (hr.step h hi)
  | _, _, .tup cs vs hr => .tup cs vs (hr.step h hi)
  | _, _, .fn f cs vs hr => .fn f cs vs (hr.step h hi)
  | _, _, .ref id ver off v ho hid hle hx => .ref id ver off v ho (Nat.lt_of_lt_of_le hid h.len) (fun v0 hv => by
      obtain ⟨v1, h1, l1, _⟩ := h.ver id hid v0 hv
      exact Nat.le_trans (hle v1 h1) l1) (fun hv => by
      obtain ⟨v0, h0, l0, e0⟩ := h.ver id hid ver hv
      have := hle v0 h0
      obtain rfl : v0 = ver := by omega
      rw [e0 rfl]
      exact hx h0)
  | _, _, .own id ver off len v ho hid hle hx => .own id ver off len v ho (Nat.lt_of_lt_of_le hid h.len) (fun v0 hv => by
      obtain ⟨v1, h1, l1, _⟩ := h.ver id hid v0 hv
      exact Nat.le_trans (hle v1 h1) l1) (fun e k n cs hc => by
      have hv : c'.ver id = some ver := by simp [Cx.ver, hc, AObj.ver?]
      obtain ⟨v0, h0, l0, e0⟩ := h.ver id hid ver hv
      have := hle v0 h0
      obtain rfl : v0 = ver := by omega
      obtain ⟨e', n', cs', hb⟩ := h.arr id hid e k v0 n cs hc h0
      rw [e0 rfl]
      exact hx _ _ _ _ hb)
  | _, _, .mref id v ho hid hx => .mref id v ho (Nat.lt_of_lt_of_le hid h.len) (fun hv => by
      obtain ⟨v0, h0, l0, e0⟩ := h.ver id hid 0 hv
      obtain rfl : v0 = 0 := by omega
      rw [e0 rfl]
      exact hx h0)
  | _, _, .fp cs off ad vs hr hs hf hc => .fp cs off ad vs (hr.step h hi) hs (h.fz _ hf) (fun j u hu => cell_kept h hi (a := ad.add j) (by rw [add_block]; exact hf) (hc j u hu))
theorem Reps.step {c c' : Cx} (h : Step c c') (hi : Inv c) : ∀ {l : List AV} {vs : List Value}, Reps c l vs → Reps c' l vs
  | _, _, .nil => .nil
  | _, _, .cons a v as vs ha hl => .cons a v as vs (ha.step h hi) (hl.step h hi)
end

end Go.Abs
