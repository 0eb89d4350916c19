/-
  What a datum that is read is: a typed value, whose cells lie in the memory that was there. Lemmas alone; no condition.
-/
import Derived.Test.YticlelmlnadclaaDoorKAbsU
import Derived.ChangeArms
import Derived.Below
set_option linter.unusedVariables false
set_option linter.unusedSimpArgs false
set_option linter.unusedSectionVars false
set_option linter.unnecessarySimpa false
set_option linter.deprecated false
namespace Go.Abs
open Go Go.RowKit

/-- all memory that is there is nobody's to write -/
structure Old (c : Cx) (W : World) : Prop where
  w : c.w = W
  fz : ∀ k, k < W.heap.size → c.fz k

/-- cells that are read at a type, to a depth, are those of a typed value -/
def Reads (P : Program) {α : Type} (T : Ty α) (t : TypeId) (g : α → Prop) (n : Nat) : Prop :=
  ∀ {H : Type} (enc : TypeId × Value → H) (w : World) (sp : Nat → Bool) (held : Bool) (fuel : Nat) (cs : List Value) (x : DataW H × List MemPlace), fuel ≤ n →
    DataW.trod enc P w 0 sp held fuel t cs = some x → ∃ a : α, g a ∧ ∀ c : Cx, Old c w → Reps c (T.cells a) cs

theorem Reads.mono {P : Program} {α : Type} {T : Ty α} {t : TypeId} {g : α → Prop} {n m : Nat} (h : Reads P T t g n) (hm : m ≤ n) : Reads P T t g m :=
  fun enc w sp held fuel cs x hf hx => h enc w sp held fuel cs x (Nat.le_trans hf hm) hx

section
variable {P : Program} {t e : TypeId} {n : Nat}

theorem reads_int {k : IntKind} (hu : P.underlying t = some (.int k)) : Reads P (tI k) t (fun i => (Lit.int k i).wf = true) n := by
  intro H enc w sp held fuel cs x _ hx
  cases fuel with
  | zero => simp [DataW.trod] at hx
  | succ m =>
    obtain ⟨i, rfl, rfl, hw⟩ := DataW.trod_int hu hx
    exact ⟨i, hw, fun c _ => .cons _ _ _ _ (.sc _ rfl) .nil⟩

theorem reads_bool (hu : P.underlying t = some .bool) : Reads P tB t (fun _ => True) n := by
  intro H enc w sp held fuel cs x _ hx
  cases fuel with
  | zero => simp [DataW.trod] at hx
  | succ m =>
    unfold DataW.trod at hx
    rw [hu] at hx
    split at hx <;> simp_all
    rename_i b
    cases b
    · exact .inl fun c _ => .cons _ _ _ _ (.sc _ rfl) .nil
    · exact .inr fun c _ => .cons _ _ _ _ (.sc _ rfl) .nil

theorem reads_str (hu : P.underlying t = some .string) : Reads P tS t (fun s => s.length ≤ maxLen) n := by
  intro H enc w sp held fuel cs x _ hx
  obtain ⟨s, rfl, rfl, hw⟩ := DataW.trod_string hu hx
  obtain ⟨⟨l⟩⟩ := s
  exact ⟨l, hw, fun c _ => .cons _ _ _ _ (.sc _ rfl) .nil⟩

theorem mapM_range_cell {w : World} {a : Addr} {n : Nat} {vs : List Value} (h : (List.range n).mapM (fun i => w.cell? (a.add i)) = some vs) : vs.length = n ∧ ∀ (j : Nat) u, vs[j]? = some u → w.cell? (a.add j) = some u := by
  have hl := mapM_some_length h
  simp at hl
  refine ⟨hl, fun j u hu => ?_⟩
  have hj : j < n := by
    have := (List.getElem?_eq_some_iff.1 hu).1
    omega
  have := mapM_some_get h j j (by simp [hj])
  rw [this, hu]

theorem cells_some {w : World} {a : Addr} {n : Nat} {vs : List Value} (h : w.cells? 0 a n = some vs) : vs.length = n ∧ ∀ (j : Nat) u, vs[j]? = some u → w.cell? (a.add j) = some u := by
  unfold World.cells? at h
  rw [if_pos (Nat.zero_le _)] at h
  exact mapM_range_cell h

theorem cell_lt {w : World} {a : Addr} {v : Value} (h : w.cell? a = some v) : a.spot = none ∧ a.block < w.heap.size := by
  unfold World.cell? at h
  split at h
  · rename_i c _ _ hb
    split at h
    · cases h
    · rename_i hs
      refine ⟨by simpa using hs, ?_⟩
      rcases Nat.lt_or_ge a.block w.heap.size with hh | hh
      · exact hh
      · simp [Array.getElem?_eq_none hh] at hb
  · cases h

theorem reads_slice {α : Type} {T : Ty α} {g : α → Prop} (hu : P.underlying t = some (.slice e)) (hc : P.cellsOf e = T.size) (hz : 0 < T.size) (he : Reads P T e g n) : Reads P (tL T) t (fun l => l.length ≤ maxLen ∧ ∀ x ∈ l, g x) (n + 1) := by
  intro H enc w sp held fuel cs x hf hx
  rcases DataW.trod_slice hu hx with ⟨rfl, rfl⟩ | ⟨a, len, cap, elems, rest, m, rfl, rfl, rfl, _, hl, hm, hlen, hel, _, _⟩
  · refine ⟨[], ⟨Nat.zero_le _, fun _ h => by cases h⟩, fun c _ => .cons _ _ _ _ ?_ .nil⟩
    exact .lst 0 [] none 0 [] (Nat.le_refl _) .nil (by decide) (.inl ⟨rfl, rfl⟩)
  · have key : ∀ k, k ≤ len → ∃ (l : List α) (vs : List Value), l.length = k ∧ (∀ x ∈ l, g x) ∧ vs.length = k * T.size ∧ (∀ (j : Nat) u, vs[j]? = some u → w.cell? (a.add j) = some u) ∧ ∀ c : Cx, Old c w → Reps c (l.flatMap T.cells) vs := by
      intro k
      induction k with
      | zero => intro _; exact ⟨[], [], rfl, (fun _ h => by cases h), by simp, (fun j u h => by simp at h), fun _ _ => .nil⟩
      | succ k ih =>
        intro hk
        obtain ⟨l, vs, h1, h2, h3, h4, h5⟩ := ih (by omega)
        have hk' := hel k (by omega)
        rw [List.getElem?_eq_getElem (by omega : k < elems.length)] at hk'
        obtain ⟨cs', hc1, hc2⟩ := Option.bind_eq_some_iff.1 hk'
        obtain ⟨y, hg, hy⟩ := he enc w sp held m cs' _ (by omega) hc2
        rw [hc] at hc1
        obtain ⟨hcl, hcc⟩ := cells_some hc1
        refine ⟨l ++ [y], vs ++ cs', by simp [h1], ?_, ?_, ?_, ?_⟩
        · intro x hx
          rcases List.mem_append.1 hx with hx | hx
          · exact h2 x hx
          · simp at hx; subst hx; exact hg
        · rw [List.length_append, h3, hcl, Nat.add_mul, Nat.one_mul]
        · intro j u hj
          by_cases hlt : j < vs.length
          · rw [List.getElem?_append_left hlt] at hj
            exact h4 j u hj
          · rw [List.getElem?_append_right (by omega)] at hj
            have := hcc _ u hj
            rw [add_add] at this
            rwa [show k * T.size + (j - vs.length) = j by omega] at this
        · intro c ho
          rw [List.flatMap_append, List.flatMap_cons, List.flatMap_nil, List.append_nil]
          exact (h5 c ho).append (hy c ho)
    obtain ⟨l, vs, h1, h2, h3, h4, h5⟩ := key len (Nat.le_refl _)
    refine ⟨l, ⟨by rw [h1]; omega, h2⟩, fun c ho => .cons _ _ _ _ ?_ .nil⟩
    unfold Ty.sl
    rw [h1]
    refine .lst len _ _ cap vs hl (h5 c ho) (by unfold maxLen at hm; omega) ?_
    by_cases h0 : len = 0
    · left
      subst h0
      have : l = [] := List.eq_nil_of_length_eq_zero h1
      subst this
      exact ⟨rfl, rfl⟩
    · right
      have hvl : 0 < vs.length := by rw [h3]; exact Nat.mul_pos (by omega) hz
      have h6 := h4 0 _ (List.getElem?_eq_getElem hvl)
      have h7 := cell_lt h6
      rw [add_block] at h7
      have hsp : a.spot = none := by
        have h8 := h7.1
        unfold Addr.add at h8
        simpa using h8
      refine ⟨a, rfl, hsp, ho.fz _ h7.2, fun j u hj => ?_⟩
      rw [ho.w]
      exact h4 j u hj

/-- the fields of a struct, one behind the other -/
def ReadsFs (P : Program) {α : Type} (T : Ty α) (fs : List (TypeId × Nat)) (off : Nat) (g : α → Prop) (n : Nat) : Prop :=
  ∀ {H : Type} (enc : TypeId × Value → H) (w : World) (sp : Nat → Bool) (held : Bool) (fuel : Nat) (cs : List Value) (xs : List (DataW H × List MemPlace)), fuel ≤ n → xs.length = fs.length →
    (∀ (i : Nat) (f : TypeId × Nat), fs[i]? = some f → DataW.trod enc P w 0 sp held fuel f.1 ((cs.drop f.2).take (P.cellsOf f.1)) = xs[i]?) → ∃ a : α, g a ∧ ∀ c : Cx, Old c w → Reps c (T.cells a) ((cs.drop off).take T.size)

theorem readsFs_nil {off : Nat} : ReadsFs P tU [] off (fun _ => True) n := by
  intro H enc w sp held fuel cs xs _ _ _
  exact ⟨(), trivial, fun c _ => by simpa [tU] using Reps.nil⟩

theorem readsFs_cons {α β : Type} {T : Ty α} {U : Ty β} {g : α → Prop} {h : β → Prop} {off : Nat} {fs : List (TypeId × Nat)} (hc : P.cellsOf t = T.size) (h1 : Reads P T t g n) (h2 : ReadsFs P U fs (off + T.size) h n) :
    ReadsFs P (tP T U) ((t, off) :: fs) off (fun x => g x.1 ∧ h x.2) n := by
  intro H enc w sp held fuel cs xs hf hl hx
  cases xs with
  | nil => simp at hl
  | cons x xs =>
    have h0 := hx 0 (t, off) rfl
    simp only [List.getElem?_cons_zero] at h0
    obtain ⟨a, ha, hra⟩ := h1 enc w sp held fuel _ _ hf h0
    obtain ⟨b, hb, hrb⟩ := h2 enc w sp held fuel cs xs hf (by simpa using hl) (fun i f hi => by
      have := hx (i + 1) f (by simpa using hi)
      simpa using this)
    refine ⟨(a, b), ⟨ha, hb⟩, fun c ho => ?_⟩
    have r1 := hra c ho
    have r2 := hrb c ho
    rw [hc] at r1
    have : (cs.drop off).take (tP T U).size = (cs.drop off).take T.size ++ (cs.drop (off + T.size)).take U.size := by
      show (cs.drop off).take (T.size + U.size) = _
      rw [List.take_add, List.drop_drop]
    rw [this]
    exact r1.append r2

theorem reads_struct {α β : Type} {T : Ty α} {Tp : Ty β} {g : β → Prop} {fs : Array Field} (hu : P.underlying t = some (.struct fs)) (hc : P.cellsOf t = Tp.size) {fl : List (TypeId × Nat)} (hf : fs.toList.map (fun f => (f.type, f.offset)) = fl)
    (h : ReadsFs P Tp fl 0 g n) (mk : β → α) (hmk : ∀ p, T.cells (mk p) = Tp.cells p) {g' : α → Prop} (hg : ∀ p, g p → g' (mk p)) : Reads P T t g' (n + 1) := by
  intro H enc w sp held fuel cs x hfu hx
  obtain ⟨xs, m, rfl, rfl, hlen, hxl, hel⟩ := DataW.trod_struct hu hx
  obtain ⟨p, hp, hr⟩ := h enc w sp held m cs xs (by omega) (by rw [← hf]; simpa using hxl) (fun i f hi => by
    rw [← hf] at hi
    simp only [List.getElem?_map, Option.map_eq_some_iff] at hi
    obtain ⟨f0, hf0, rfl⟩ := hi
    exact hel i f0 (by simpa using hf0))
  refine ⟨mk p, hg p hp, fun c ho => ?_⟩
  have := hr c ho
  rw [hmk, List.drop_zero, ← hc, List.take_of_length_le (by omega)] at *
  exact this

theorem reads_zero {α : Type} {T : Ty α} {g : α → Prop} : Reads P T t g 0 := by
  intro H enc w sp held fuel cs x hf hx
  obtain rfl : fuel = 0 := by omega
  simp [DataW.trod] at hx

theorem reads_slice_any {α : Type} {T : Ty α} {g : α → Prop} (hu : P.underlying t = some (.slice e)) (hc : P.cellsOf e = T.size) (hz : 0 < T.size) (he : ∀ m, m < n → Reads P T e g m) : Reads P (tL T) t (fun l => l.length ≤ maxLen ∧ ∀ x ∈ l, g x) n := by
  cases n with
  | zero => exact reads_zero
  | succ m => exact reads_slice hu hc hz (he m (Nat.lt_succ_self m))

theorem reads_struct_any {α β : Type} {T : Ty α} {Tp : Ty β} {g : β → Prop} {fs : Array Field} (hu : P.underlying t = some (.struct fs)) (hc : P.cellsOf t = Tp.size) {fl : List (TypeId × Nat)} (hf : fs.toList.map (fun f => (f.type, f.offset)) = fl)
    (mk : β → α) (hmk : ∀ p, T.cells (mk p) = Tp.cells p) {g' : α → Prop} (hg : ∀ p, g p → g' (mk p)) (h : ∀ m, m < n → ReadsFs P Tp fl 0 g m) : Reads P T t g' n := by
  cases n with
  | zero => exact reads_zero
  | succ m => exact reads_struct hu hc hf (h m (Nat.lt_succ_self m)) mk hmk hg

end

/-- an argument that is read -/
theorem arg_agg {P : Program} {α : Type} {T : Ty α} {t : TypeId} {g : α → Prop} (hr : ∀ n, Reads P T t g n) {H : Type} {enc : TypeId × Value → H} {w : World} {sp : Nat → Bool} {held : Bool} {v : Value} {d : DataW H} {ps : List MemPlace} {fs : Array Field} (hu : P.underlying t = some (.struct fs)) {b : Nat} {r : Reach}
    (hval : Value.okWide P w r b t v) (h : DataW.Trod enc P w 0 sp held t v d ps) : ∃ a : α, g a ∧ ∀ c : Cx, Old c w → Rep c (.agg (T.cells a)) v := by
  obtain ⟨fuel, hx⟩ := h
  obtain ⟨a, ha, hra⟩ := hr fuel enc w sp held fuel _ _ (Nat.le_refl _) hx
  unfold Value.okWide at hval
  rw [hu] at hval
  obtain ⟨cs, rfl, _⟩ := hval
  exact ⟨a, ha, fun c ho => .agg _ cs (by simpa [Value.cells] using hra c ho)⟩

theorem arg_arr {P : Program} {α : Type} {T : Ty α} {t e : TypeId} {g : α → Prop} (hr : ∀ n, Reads P T t g n) {H : Type} {enc : TypeId × Value → H} {w : World} {sp : Nat → Bool} {held : Bool} {v : Value} {d : DataW H} {ps : List MemPlace} {k : Nat} (hu : P.underlying t = some (.array k e)) {b : Nat} {r : Reach}
    (hval : Value.okWide P w r b t v) (h : DataW.Trod enc P w 0 sp held t v d ps) : ∃ a : α, g a ∧ ∀ c : Cx, Old c w → Rep c (.agg (T.cells a)) v := by
  obtain ⟨fuel, hx⟩ := h
  obtain ⟨a, ha, hra⟩ := hr fuel enc w sp held fuel _ _ (Nat.le_refl _) hx
  unfold Value.okWide at hval
  rw [hu] at hval
  obtain ⟨cs, rfl, _⟩ := hval
  exact ⟨a, ha, fun c ho => .agg _ cs (by simpa [Value.cells] using hra c ho)⟩

/-- an argument of one cell -/
theorem arg_one {P : Program} {α : Type} {T : Ty α} {t : TypeId} {g : α → Prop} (hr : ∀ n, Reads P T t g n) (cell : α → AV) (hT : ∀ a, T.cells a = [cell a]) {H : Type} {enc : TypeId × Value → H} {w : World} {sp : Nat → Bool} {held : Bool} {v : Value} {d : DataW H} {ps : List MemPlace} (hv : v.cells = #[v])
    (h : DataW.Trod enc P w 0 sp held t v d ps) : ∃ a : α, g a ∧ ∀ c : Cx, Old c w → Rep c (cell a) v := by
  obtain ⟨fuel, hx⟩ := h
  obtain ⟨a, ha, hra⟩ := hr fuel enc w sp held fuel _ _ (Nat.le_refl _) hx
  refine ⟨a, ha, fun c ho => ?_⟩
  have := hra c ho
  rw [hT, hv] at this
  cases this with
  | cons _ _ _ _ h _ => exact h

theorem ok_cells {P : Program} {w : World} {r : Reach} {b : Nat} {t : TypeId} {v : Value} (hval : Value.okWide P w r b t v) (hu : (match P.underlying t with | some .bool | some .string | some (.int _) | some (.slice _) => true | _ => false) = true) : v.cells = #[v] := by
  unfold Value.okWide at hval
  cases hd : P.underlying t with
  | none => rw [hd] at hu; cases hu
  | some ty =>
    rw [hd] at hval hu
    cases ty <;> simp at hu <;> cases v <;> simp_all [Cell.okWide, Cell.ok, Value.cells]

/-- what the evaluator says of a call holds of the model's -/
theorem run_calls {P : Program} {E : Env} (hE : EnvOk P E) {f : FuncId} {args : List AV} {vs : Array Value} {W : World} {r : AV} (hg : Glob W) (hc : fcall E f args [] = some (r, [])) (hr : ∀ c : Cx, Old c W → Reps c args vs.toList) :
    Calls P f vs W fun e w' => ∃ v c, e = .returned v ∧ Below W.heap.size W w' ∧ Rep c r v := by
  obtain ⟨n, hn⟩ := fcall_some.1 hc
  let c : Cx := { w := W, fz := fun k => k < W.heap.size, st := [], io := fun _ => undef }
  have hm : ∀ k, ¬ c.mine k := fun k ⟨id, hl, _⟩ => by simp [c, Cx.live, Cx.ver] at hl
  have hi : Inv c := ⟨fun k h => h, fun id o ho => by simp [c] at ho, fun k hk => (hm k hk).elim, fun i j k h1 => by simp [c, Cx.live, Cx.ver] at h1, fun k hk => (hm k hk).elim, ⟨W, hg, fun k h => ⟨h, rfl⟩⟩⟩
  obtain ⟨_, h⟩ := acall_sound hE n f args [] r [] hn c vs hi rfl (hr c ⟨rfl, fun _ h => h⟩)
  refine h.mono fun e w' ⟨c', v, he, hw, _, _, hs, hrep⟩ => ⟨v, c', he, ?_, hrep⟩
  subst hw
  exact ⟨hs.os, hs.tape, hs.output, hs.size, fun k hk => hs.heap k hk (hm k)⟩

end Go.Abs
