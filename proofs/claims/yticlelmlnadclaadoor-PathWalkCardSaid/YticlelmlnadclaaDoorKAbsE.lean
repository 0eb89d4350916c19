/-
  Functions of Go's library that stand for their code: what they answer on typed values. Definitions and lemmas; no condition.
-/
import Derived.Test.YticlelmlnadclaaDoorKAbsU
set_option linter.unusedVariables false
set_option linter.unusedSimpArgs false
set_option linter.unusedSectionVars false
set_option linter.unnecessarySimpa false
set_option linter.deprecated false
namespace Go.Abs
open Go

def splitL (c : UInt8) : Str → Str → List Str
  | acc, [] => [acc.reverse]
  | acc, x :: l => if x == c then acc.reverse :: splitL c [] l else splitL c (x :: acc) l

def joinL (sep : Str) : List Str → Str
  | [] => []
  | [x] => x
  | x :: r => x ++ sep ++ joinL sep r

/-- the first place of a byte -/
def idxB (c : UInt8) : Str → Option Nat
  | [] => none
  | x :: l => if x == c then some 0 else (idxB c l).map (· + 1)

def strings_Split (s sep : Str) : Option (List Str) :=
  match sep with
  | [c] => if s.length < 4294967281 then some (splitL c [] s) else none
  | _ => none

def strings_Join (l : List Str) (sep : Str) : Option Str := if l.length ≤ 140737488355328 ∧ (joinL sep l).length ≤ 140737488355328 then some (joinL sep l) else none

def strings_Cut (s sep : Str) : Option (Str × Str × Bool) :=
  match sep with
  | [c] => if s.length < 4294967281 then (match idxB c s with | some i => some (s.take i, s.drop (i + 1), true) | none => some (s, [], false)) else none
  | _ => none

def strings_Contains (s sep : Str) : Option Bool :=
  match sep with
  | [c] => if s.length < 4294967281 then some (idxB c s).isSome else none
  | _ => none

def unstr : List AV → Option (List Str)
  | [] => some []
  | .sc (.string ⟨⟨s⟩⟩) :: r => (unstr r).map (s :: ·)
  | _ => none

theorem unstr_flat : ∀ l : List Str, unstr (l.flatMap tS.cells) = some l
  | [] => rfl
  | x :: l => by
    show (unstr (l.flatMap tS.cells)).map (x :: ·) = _
    rw [unstr_flat l]
    rfl

def extSplit : List AV → Option AV
  | [.sc (.string ⟨⟨s⟩⟩), .sc (.string ⟨⟨sep⟩⟩)] => (strings_Split s sep).map fun r => tS.sl r
  | _ => none
def extJoin : List AV → Option AV
  | [.lst n cs, .sc (.string ⟨⟨sep⟩⟩)] => (unstr cs).bind fun l => if n = l.length then (strings_Join l sep).map fun r => strV r else none
  | _ => none
def extCut : List AV → Option AV
  | [.sc (.string ⟨⟨s⟩⟩), .sc (.string ⟨⟨sep⟩⟩)] => (strings_Cut s sep).map fun r => .tup [strV r.1, strV r.2.1, .sc (.bool r.2.2)]
  | _ => none
def extContains : List AV → Option AV
  | [.sc (.string ⟨⟨s⟩⟩), .sc (.string ⟨⟨sep⟩⟩)] => (strings_Contains s sep).map fun r => .sc (.bool r)
  | _ => none

section
variable {E : Env} {g : FuncId} {st : Store}
theorem split_C (hg : E.ext g = some extSplit) (s sep : Str) (r : List Str) (h : strings_Split s sep = some r) : fcall E g [strV s, strV sep] st = some (tS.sl r, st) :=
  ext_call hg rfl (args' := [strV s, strV sep]) rfl (by unfold strV; show (strings_Split s sep).map _ = _; rw [h]; rfl) (sl_pure tS r)
theorem join_C (hg : E.ext g = some extJoin) (l : List Str) (sep r : Str) (h : strings_Join l sep = some r) : fcall E g [tS.sl l, strV sep] st = some (strV r, st) :=
  ext_call hg (pC (sl_pure tS l) (pC rfl pN)) (args' := [tS.sl l, strV sep]) (lC (sl_scrub tS 0 l) (lC rfl lN)) (by
    show (unstr (l.flatMap tS.cells)).bind _ = _
    rw [unstr_flat]
    show (if l.length = l.length then (strings_Join l sep).map _ else none) = _
    rw [if_pos rfl, h]
    rfl) rfl
theorem cut_C (hg : E.ext g = some extCut) (s sep : Str) (r : Str × Str × Bool) (h : strings_Cut s sep = some r) : fcall E g [strV s, strV sep] st = some (.tup [strV r.1, strV r.2.1, .sc (.bool r.2.2)], st) :=
  ext_call hg rfl (args' := [strV s, strV sep]) rfl (by unfold strV; show (strings_Cut s sep).map _ = _; rw [h]; rfl) rfl
theorem contains_C (hg : E.ext g = some extContains) (s sep : Str) (r : Bool) (h : strings_Contains s sep = some r) : fcall E g [strV s, strV sep] st = some (.sc (.bool r), st) :=
  ext_call hg rfl (args' := [strV s, strV sep]) rfl (by unfold strV; show (strings_Contains s sep).map _ = _; rw [h]; rfl) rfl
end

end Go.Abs
