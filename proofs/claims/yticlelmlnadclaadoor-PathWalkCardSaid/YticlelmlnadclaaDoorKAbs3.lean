/-
  The types' table, and what loads and stores come to. Lemmas alone; no condition.
-/
import Derived.Test.YticlelmlnadclaaDoorKAbs2
import Derived.Laws.CopyRow
import Derived.Deep.OwnRows
set_option linter.unusedVariables false
set_option linter.unusedSimpArgs false
set_option linter.unusedSectionVars false
set_option linter.unnecessarySimpa false
set_option linter.deprecated false
namespace Go.Abs
open Go

def sameV : Value → Value → Bool
  | .bool a, .bool b => a == b
  | .int k a, .int k' b => k == k' && a == b
  | .string a, .string b => a.data == b.data
  | .nilIface, .nilIface => true
  | .nilFunc, .nilFunc => true
  | .pointer none, .pointer none => true
  | .slice none 0 0, .slice none 0 0 => true
  | .map none, .map none => true
  | _, _ => false

theorem sameV_eq : ∀ {a b : Value}, sameV a b = true → a = b ∧ plainV a = true := by
  intro a b h
  unfold sameV at h
  split at h <;> simp_all [plainV]
  rename_i x y
  cases x; cases y; simp_all

def zeroCellsB : List Value → List AV → Bool
  | [], [] => true
  | v :: vs, .sc u :: us => sameV v u && zeroCellsB vs us
  | _, _ => false

def aggD : TypeDesc → Bool
  | .struct _ | .array _ _ => true
  | _ => false

def fieldsB (P : Program) (tb : Tb) : List Field → List FI → Bool
  | [], [] => true
  | f :: fs, g :: gs =>
    f.type == g.type && f.offset == g.off && (g.blank == (f.name == "_")) &&
    (match P.info? f.type, P.underlying f.type with
     | some ti, some d => ti.size == g.size && (aggD d == g.agg)
     | _, _ => false) && fieldsB P tb fs gs
  | _, _ => false

def kindB (P : Program) (tb : Tb) : TypeDesc → TK → Bool
  | .int k, .int k' => k == k'
  | .bool, .bool => true
  | .string, .str => true
  | .slice e, .slice e' => e == e'
  | .struct fs, .struct gs => fieldsB P tb fs.toList gs
  | .array n e, .array n' e' => n == n' && e == e'
  | .map k v, .map k' v' => k == k' && v == v'
  | .pointer e, .ptr e' => e == e'
  | .func _ _ _, .func => true
  | .struct _, .other => false
  | .array _ _, .other => false
  | _, .other => true
  | _, _ => false

def infoB (P : Program) (tb : Tb) (t : TypeId) (i : TInfo) : Bool :=
  match P.info? t, P.underlying t with
  | some ti, some d =>
    ti.size == i.size && ti.bytes == i.bytes && kindB P tb d i.kind &&
    (match ti.zero with
     | some z => zeroCellsB z.cells.toList i.zero && (i.zero.length == i.size) && ((match z with | .agg _ => true | _ => false) == i.kind.agg)
     | none => false) &&
    (!i.safe || (!P.eqGuardType P.depth t && !P.stoodInHeld t))
  | _, _ => false

structure TbOk (P : Program) (tb : Tb) : Prop where
  ok : ∀ t i, tb t = some i → infoB P tb t i = true

structure Info (P : Program) (tb : Tb) (t : TypeId) (i : TInfo) : Prop where
  info : ∃ ti, P.info? t = some ti ∧ ti.size = i.size ∧ ti.bytes = i.bytes ∧ ∃ z, ti.zero = some z ∧ zeroCellsB z.cells.toList i.zero = true ∧ i.zero.length = i.size ∧ (match z with | .agg _ => true | _ => false) = i.kind.agg
  desc : ∃ d, P.underlying t = some d ∧ kindB P tb d i.kind = true
  safe : i.safe = true → P.eqGuardType P.depth t = false ∧ P.stoodInHeld t = false

theorem TbOk.get {P : Program} {tb : Tb} (h : TbOk P tb) {t : TypeId} {i : TInfo} (ht : tb t = some i) : Info P tb t i := by
  have hb := h.ok t i ht
  unfold infoB at hb
  split at hb
  · rename_i ti d h1 h2
    simp only [Bool.and_eq_true, beq_iff_eq] at hb
    obtain ⟨⟨⟨⟨h3, h4⟩, h5⟩, h6⟩, h7⟩ := hb
    split at h6
    · rename_i z hz
      simp only [Bool.and_eq_true, beq_iff_eq] at h6
      exact ⟨⟨ti, h1, h3, h4, z, hz, h6.1.1, h6.1.2, h6.2⟩, ⟨d, h2, h5⟩, fun hs => by simp [hs] at h7; exact h7⟩
    · cases h6
  · cases hb

theorem zero_reps {c : Cx} : ∀ {vs : List Value} {l : List AV}, zeroCellsB vs l = true → Reps c l vs
  | [], [], _ => .nil
  | v :: vs, .sc u :: l, h => by
    simp only [zeroCellsB, Bool.and_eq_true] at h
    obtain ⟨rfl, hp⟩ := sameV_eq h.1
    exact .cons _ _ _ _ (.sc v hp) (zero_reps h.2)
  | [], _ :: _, h => by simp [zeroCellsB] at h
  | v :: vs, [], h => by simp [zeroCellsB] at h
  | v :: vs, .bad :: _, h => by simp [zeroCellsB] at h
  | v :: vs, .lst .. :: _, h => by simp [zeroCellsB] at h
  | v :: vs, .agg .. :: _, h => by simp [zeroCellsB] at h
  | v :: vs, .tup .. :: _, h => by simp [zeroCellsB] at h
  | v :: vs, .fn .. :: _, h => by simp [zeroCellsB] at h
  | v :: vs, .ref .. :: _, h => by simp [zeroCellsB] at h
  | v :: vs, .own .. :: _, h => by simp [zeroCellsB] at h
  | v :: vs, .mref .. :: _, h => by simp [zeroCellsB] at h
  | v :: vs, .fp .. :: _, h => by simp [zeroCellsB] at h

section
variable {P : Program} {tb : Tb} {t : TypeId} {i : TInfo}

theorem Info.agg (h : Info P tb t i) (w : World) : (isAgg t).run P w = .ok i.kind.agg w := by
  obtain ⟨d, hd, hk⟩ := h.desc
  unfold isAgg
  rw [Sem.run_bind, run_underlying hd]
  cases d <;> cases hh : i.kind <;> rw [hh] at hk <;> simp [kindB, TK.agg] at hk ⊢

theorem Info.size (h : Info P tb t i) (w : World) : (sizeOf t).run P w = .ok i.size w := by
  obtain ⟨ti, h1, h2, _⟩ := h.info
  simp [sizeOf, typeInfo, h1, h2]

end

theorem Rep.one {c : Cx} {a : AV} {v : Value} (h : Rep c a v) (ho : a.one = true) : v.cells = #[v] ∧ v.oneCell' = true := by
  cases h with
  | sc v hp => cases v <;> simp_all [plainV, Value.cells, Value.oneCell']
  | bad v => simp [AV.one] at ho
  | agg => simp [AV.one] at ho
  | tup => simp [AV.one] at ho
  | lst => exact ⟨rfl, rfl⟩
  | fn => exact ⟨rfl, rfl⟩
  | fp => exact ⟨rfl, rfl⟩
  | ref id ver off v h1 h2 h3 => cases v <;> simp_all [Value.cells, Value.oneCell']
  | own id ver off len v h1 h2 h3 => cases v <;> simp_all [Value.cells, Value.oneCell']
  | mref id v h1 h2 => cases v <;> simp_all [Value.cells, Value.oneCell']

end Go.Abs
