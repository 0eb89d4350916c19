/-
  The functions of Go's library that stand for their code: that they answer so is shown out of the shelf's contracts. Lemmas; each bears its contract as a premise.
-/
import Derived.Test.YticlelmlnadclaaDoorKAbsE
import Derived.Test.YticlelmlnadclaaDoorKAbsW
import Derived.Lib.SplitLaws
import Derived.Lib.Join
import Derived.Lib.IndexBytes
import Derived.Deep.Draws
set_option linter.unusedVariables false
set_option linter.unusedSimpArgs false
set_option linter.unusedSectionVars false
set_option linter.unnecessarySimpa false
set_option linter.deprecated false
namespace Go.Abs
open Go Go.RowKit

/-- a function of the evaluator stands for a function of the program -/
def ExtOk (P : Program) (f : FuncId) (g : List AV → Option AV) : Prop :=
  ∀ args r, g args = some r → ∀ (c : Cx) (vs : Array Value), Inv c → pureL args = true → Reps c args vs.toList →
    (∀ w : World, (callFunc f vs).run P w = .ok (.enter f vs) w) ∧ Calls P f vs c.w fun e w' => ∃ c' v, e = .returned v ∧ c'.w = w' ∧ c'.st = c.st ∧ Inv c' ∧ Step c c' ∧ Rep c' r v

theorem grow_below {c : Cx} (hi : Inv c) {w' : World} (hb : Below c.w.heap.size c.w w') : ∃ c' : Cx, c'.w = w' ∧ c'.st = c.st ∧ Inv c' ∧ Step c c' := by
  have hg : Grow c w' (fun _ => False) := ⟨hb.os, hb.tape, hb.output, hb.size, hb.block, fun _ h => h.elim⟩
  exact ⟨c.grow w' _, rfl, rfl, hg.inv hi, hg.step⟩

theorem grow_row {c : Cx} (hi : Inv c) {vs : List Value} {cs : List AV} {T : TypeId} {n : Nat} (hr : Reps c cs vs) (hn : n ≤ 9223372036854775807) :
    ∃ c' : Cx, c'.w = c.w.alloc (.cells vs.toArray T) ∧ c'.st = c.st ∧ Inv c' ∧ Step c c' ∧ Rep c' (.lst n cs) (.slice (some ⟨c.w.heap.size, 0, none⟩) n n) := by
  have hg : Grow c (c.w.alloc (.cells vs.toArray T)) (fun k => k = c.w.heap.size) := ⟨rfl, rfl, rfl, by simp, fun k hk => heap_alloc_old c.w _ k hk, fun k hk => by subst hk; simp⟩
  refine ⟨c.grow _ _, rfl, rfl, hg.inv hi, hg.step, .lst n cs _ n vs (Nat.le_refl _) (hr.step hg.step hi) hn (.inr ⟨_, rfl, rfl, .inr rfl, fun j u hu => ?_⟩)⟩
  rw [add0]
  show (c.w.alloc (.cells vs.toArray T)).cell? _ = _
  rw [cell_of_row _ _ j vs.toArray T (0, 0) (heap_alloc_new c.w _)]
  simpa using hu

theorem glob_now {c : Cx} (hi : Inv c) : ∃ m, c.w.cell? ⟨0, 0, none⟩ = some (.int .i64 m) := by
  obtain ⟨W0, ⟨m, hm⟩, hk⟩ := hi.gl
  have hlt := (cell_lt hm).2
  refine ⟨m, ?_⟩
  rw [World.cell?_of_block (w := W0) (hk 0 hlt).2]
  exact hm

theorem rep_str {c : Cx} {s : Str} {v : Value} (h : Rep c (strV s) v) : v = .string ⟨⟨s⟩⟩ := by
  unfold strV at h
  cases h
  rfl

theorem two_args {c : Cx} {a b : AV} {vs : Array Value} (h : Reps c [a, b] vs.toList) : ∃ u v, vs = #[u, v] ∧ Rep c a u ∧ Rep c b v := by
  obtain ⟨l⟩ := vs
  cases h with
  | cons _ u _ _ h1 h2 =>
    cases h2 with
    | cons _ v _ _ h3 h4 =>
      cases h4
      exact ⟨u, v, rfl, h1, h3⟩

theorem args_two {F : Str → Str → Option AV} {args : List AV} {r : AV} (h : (match args with
    | [.sc (.string ⟨⟨s⟩⟩), .sc (.string ⟨⟨sep⟩⟩)] => F s sep
    | _ => none) = some r) : ∃ s sep, args = [strV s, strV sep] ∧ F s sep = some r := by
  split at h
  · exact ⟨_, _, rfl, h⟩
  · cases h

/-! ## plain laws -/

theorem index_cons_ne {b c : UInt8} {l : Str} (h : ¬ (b == c) = true) : Lib.index (b :: l) [c] = if Lib.index l [c] == -1 then -1 else Lib.index l [c] + 1 := by
  rw [Lib.index]
  have : List.isPrefixOf [c] (b :: l) = false := by
    simp only [List.isPrefixOf, Bool.and_true]
    have hn : ¬ c = b := fun e => h (by simp [e])
    simpa using hn
  rw [this]
  simp

theorem index_cons_eq {b c : UInt8} {l : Str} (h : (b == c) = true) : Lib.index (b :: l) [c] = 0 := by
  have : b = c := by simpa using h
  subst this
  rw [Lib.index]
  simp [List.isPrefixOf]

theorem idxB_index (c : UInt8) : ∀ s : Str, Lib.index s [c] = match idxB c s with | some i => (i : Int) | none => -1
  | [] => rfl
  | b :: l => by
    rw [idxB]
    by_cases h : (b == c) = true
    · rw [if_pos h, index_cons_eq h]; first | rfl | simp
    · rw [if_neg h, index_cons_ne h, idxB_index c l]
      cases idxB c l with
      | none => rfl
      | some i =>
        have : ¬ ((i : Int) == -1) = true := fun e => by have e := beq_iff_eq.1 e; omega
        simp only [Option.map_some]
        rw [if_neg this]
        simp

theorem idxB_mem {c : UInt8} : ∀ {l : Str}, c ∈ l → idxB c l ≠ none
  | [], h, _ => by cases h
  | y :: l, hm, h => by
    rw [idxB] at h
    split at h
    · cases h
    · rename_i hy
      rcases List.mem_cons.1 hm with e | e
      · exact hy (by simp [e])
      · exact idxB_mem e (by simpa using h)

theorem split_acc (c : UInt8) : ∀ (s acc : Str), splitL c acc s = match Lib.splitK [c] 0 (s.count c) s with | [] => [] | p :: r => (acc.reverse ++ p) :: r
  | [], acc => by simp [splitL, Lib.splitK]
  | x :: l, acc => by
    rw [splitL]
    by_cases h : (x == c) = true
    · have hx : x = c := by simpa using h
      rw [if_pos h, hx, List.count_cons_self, Lib.splitK]
      have hi : Lib.index (c :: l) [c] = 0 := index_cons_eq (by simp)
      rw [hi, if_neg (by decide)]
      have ih := split_acc c l []
      simp only [Int.toNat_zero, Nat.add_zero, List.take_zero, List.append_nil, List.length_cons, List.length_nil, Nat.zero_add, List.drop_succ_cons, List.drop_zero]
      rw [ih]
      cases hk : Lib.splitK [c] 0 (l.count c) l with
      | nil =>
        exfalso
        cases hc : l.count c with
        | zero => rw [hc] at hk; simp [Lib.splitK] at hk
        | succ k => rw [hc, Lib.splitK] at hk; split at hk <;> simp at hk
      | cons p r => simp
    · have hx : ¬ x = c := by simpa using h
      rw [if_neg h, List.count_cons_of_ne (fun e => hx e), split_acc c l (x :: acc)]
      cases hc : l.count c with
      | zero => simp [Lib.splitK]
      | succ k =>
        rw [Lib.splitK, Lib.splitK, index_cons_ne h]
        have hne : ¬ (Lib.index l [c] == -1) = true := by
          intro e
          have e := beq_iff_eq.1 e
          rw [idxB_index] at e
          have hmem : c ∈ l := List.count_pos_iff.1 (by omega)
          cases hb : idxB c l with
          | none => exact idxB_mem hmem hb
          | some i => rw [hb] at e; exact absurd e (by simp only []; omega)
        have hge := Lib.index_ge l [c]
        obtain ⟨j, hj⟩ : ∃ j : Nat, Lib.index l [c] = j := ⟨(Lib.index l [c]).toNat, by
          have : Lib.index l [c] ≠ -1 := fun e => hne (beq_iff_eq.2 e)
          omega⟩
        have h2 : ¬ ((j : Int) == -1) = true := fun e => by have e := beq_iff_eq.1 e; omega
        have h3 : ¬ ((j : Int) + 1 == -1) = true := fun e => by have e := beq_iff_eq.1 e; omega
        rw [hj, if_neg h2, if_neg h2, if_neg h3]
        have e1 : ((j : Int) + 1).toNat = j + 1 := by omega
        simp only [Int.toNat_natCast, e1, Nat.add_zero, List.take_succ_cons, List.length_cons, List.length_nil, Nat.zero_add, List.drop_succ_cons, List.reverse_cons, List.append_assoc, List.singleton_append, List.cons_append]
        congr 1

theorem splitL_eq (c : UInt8) (s : Str) : Lib.splitK [c] 0 (s.count c) s = splitL c [] s := by
  rw [split_acc]
  cases Lib.splitK [c] 0 (s.count c) s <;> simp

theorem joinL_eq (sep : Str) : ∀ l : List Str, Lib.join l sep = joinL sep l
  | [] => rfl
  | [x] => by rw [Lib.join_one]; rfl
  | x :: y :: r => by
    have hj : joinL sep (x :: y :: r) = x ++ sep ++ joinL sep (y :: r) := by simp [joinL]
    rw [Lib.join_cons, hj, ← joinL_eq sep (y :: r), Lib.join_cons]
    simp [Lib.joinTail, List.append_assoc]

theorem flat_strs {c : Cx} (l : List Str) : Reps c (l.flatMap tS.cells) (l.map fun s => Value.string ⟨⟨s⟩⟩) := by
  induction l with
  | nil => exact .nil
  | cons s l ih => exact .cons _ _ _ _ (.sc _ rfl) ih

theorem unstr_reps {c : Cx} : ∀ {cs : List AV} {vs : List Value} {l : List Str}, Reps c cs vs → unstr cs = some l → vs = l.map fun s => Value.string ⟨⟨s⟩⟩
  | [], _, l, h, hu => by
    cases h
    simp [unstr] at hu
    subst hu
    rfl
  | a :: cs, _, l, h, hu => by
    cases h with
    | cons _ v _ vs h1 h2 =>
      unfold unstr at hu
      split at hu
      · rename_i heq; cases heq
      · rename_i s r heq
        simp only [List.cons.injEq] at heq
        obtain ⟨rfl, rfl⟩ := heq
        simp only [Option.map_eq_some_iff] at hu
        obtain ⟨l', hl', rfl⟩ := hu
        cases h1
        rw [unstr_reps h2 hl']
        rfl
      · cases hu

section
variable {P : Program} {f : FuncId} (henter : ∀ vs (w : World), (callFunc f vs).run P w = .ok (.enter f vs) w)
include henter

theorem extSplit_ok {T : TypeId} (hc : ∀ (s sep : ByteArray) (m : Int) (w : World), s.size < 4294967281 → w.cell? ⟨0, 0, none⟩ = some (.int .i64 m) → 1 ≤ sep.size →
    Calls P f #[.string s, .string sep] w fun e w' => e = .returned (.slice (some ⟨w.heap.size, 0, none⟩) (Lib.countB s sep + 1) (Lib.countB s sep + 1)) ∧ w' = w.alloc (.cells ((Lib.splitB sep 0 (Lib.countB s sep) s).map Value.string).toArray T)) : ExtOk P f extSplit := by
  intro args r hr c vs hi hp0 hrep
  clear hp0
  unfold extSplit at hr
  obtain ⟨s, sep, rfl, hr⟩ := args_two (F := fun s sep => (strings_Split s sep).map fun r => tS.sl r) hr
  obtain ⟨u, v, rfl, h1, h2⟩ := two_args hrep
  obtain rfl := rep_str h1
  obtain rfl := rep_str h2
  obtain ⟨q, hq, rfl⟩ := Option.map_eq_some_iff.1 hr
  clear hr
  unfold strings_Split at hq
  split at hq
  · rename_i b
    split at hq
    · rename_i hs
      simp only [Option.some.injEq] at hq
      subst hq
      obtain ⟨m, hm⟩ := glob_now hi
      refine ⟨fun w => henter _ w, (hc ⟨⟨s⟩⟩ ⟨⟨[b]⟩⟩ m c.w hs hm (Nat.le_refl _)).mono fun e w' ⟨he, hw⟩ => ?_⟩
      have hl : (Lib.splitB ⟨⟨[b]⟩⟩ 0 (Lib.countB ⟨⟨s⟩⟩ ⟨⟨[b]⟩⟩) ⟨⟨s⟩⟩).map (·.data.toList) = splitL b [] s := by
        rw [Lib.splitB_data, ← splitL_eq]
        show Lib.splitK [b] 0 (Lib.count s [b]) s = _
        rw [Lib.count_one]
      have hlen : (splitL b [] s).length = Lib.countB ⟨⟨s⟩⟩ ⟨⟨[b]⟩⟩ + 1 := by
        rw [← hl, List.length_map, Lib.splitB_all ⟨⟨[b]⟩⟩ (Nat.le_refl _) 0 _ _ rfl]
      have hv : (Lib.splitB ⟨⟨[b]⟩⟩ 0 (Lib.countB ⟨⟨s⟩⟩ ⟨⟨[b]⟩⟩) ⟨⟨s⟩⟩).map Value.string = (splitL b [] s).map fun s => Value.string ⟨⟨s⟩⟩ := by
        rw [← hl, List.map_map]
        exact List.map_congr_left fun x _ => rfl
      have hle : (splitL b [] s).length ≤ 9223372036854775807 := by
        have := Lib.countB_le ⟨⟨[b]⟩⟩ (Nat.le_refl _) s.length ⟨⟨s⟩⟩ (Nat.le_refl _)
        have h0 : (⟨⟨s⟩⟩ : ByteArray).size = s.length := rfl
        omega
      obtain ⟨c', hw', hst, hi', hs', hrp⟩ := grow_row (T := T) hi (flat_strs (c := c) (splitL b [] s)) hle
      refine ⟨c', _, he, ?_, hst, hi', hs', ?_⟩
      · rw [hw', hw, hv]
      · rw [← hlen]; exact hrp
    · cases hq
  · cases hq

theorem extCut_ok (hc : ∀ (s sep : ByteArray) (m : Int) (w : World), s.size < 4294967281 → w.cell? ⟨0, 0, none⟩ = some (.int .i64 m) →
    Calls P f #[.string s, .string sep] w fun e w' => e = .returned (.tuple #[.string ⟨(Lib.cut s.data.toList sep.data.toList).1.toArray⟩, .string ⟨(Lib.cut s.data.toList sep.data.toList).2.1.toArray⟩, .bool (Lib.cut s.data.toList sep.data.toList).2.2]) ∧ ∃ n, w' = w.drewN n) : ExtOk P f extCut := by
  intro args r hr c vs hi hp0 hrep
  clear hp0
  unfold extCut at hr
  obtain ⟨s, sep, rfl, hr⟩ := args_two (F := fun s sep => (strings_Cut s sep).map fun r => .tup [strV r.1, strV r.2.1, .sc (.bool r.2.2)]) hr
  obtain ⟨u, v, rfl, h1, h2⟩ := two_args hrep
  obtain rfl := rep_str h1
  obtain rfl := rep_str h2
  obtain ⟨q, hq, rfl⟩ := Option.map_eq_some_iff.1 hr
  clear hr
  unfold strings_Cut at hq
  split at hq
  · rename_i b
    split at hq
    · rename_i hs
      obtain ⟨m, hm⟩ := glob_now hi
      refine ⟨fun w => henter _ w, (hc ⟨⟨s⟩⟩ ⟨⟨[b]⟩⟩ m c.w hs hm).mono fun e w' ⟨he, n, hw⟩ => ?_⟩
      have hb : Below c.w.heap.size c.w w' := by subst hw; exact ⟨rfl, rfl, rfl, Nat.le_refl _, fun _ _ => rfl⟩
      obtain ⟨c', hw', hst, hi', hs'⟩ := grow_below hi hb
      refine ⟨c', _, he, hw', hst, hi', hs', ?_⟩
      have hcut : Lib.cut s [b] = match idxB b s with | some i => (s.take i, s.drop (i + 1), true) | none => (s, [], false) := by
        unfold Lib.cut
        rw [idxB_index]
        cases idxB b s with
        | none => simp
        | some i =>
          simp only [Int.toNat_natCast, List.length_cons, List.length_nil, Nat.zero_add]
          rw [if_pos (Int.natCast_nonneg _)]
      show Rep c' _ (.tuple #[.string ⟨(Lib.cut s [b]).1.toArray⟩, .string ⟨(Lib.cut s [b]).2.1.toArray⟩, .bool (Lib.cut s [b]).2.2])
      rw [hcut]
      cases hx : idxB b s with
      | none => rw [hx] at hq; simp at hq; subst hq; exact .tup _ _ (.cons _ _ _ _ (.sc _ rfl) (.cons _ _ _ _ (.sc _ rfl) (.cons _ _ _ _ (.sc _ rfl) .nil)))
      | some i => rw [hx] at hq; simp at hq; subst hq; exact .tup _ _ (.cons _ _ _ _ (.sc _ rfl) (.cons _ _ _ _ (.sc _ rfl) (.cons _ _ _ _ (.sc _ rfl) .nil)))
    · cases hq
  · cases hq

theorem extContains_ok (hc : ∀ (s sub : ByteArray) (m : Int) (w : World), s.size < 4294967281 → w.cell? ⟨0, 0, none⟩ = some (.int .i64 m) →
    Calls P f #[.string s, .string sub] w fun e w' => e = .returned (.bool (Lib.contains s.data.toList sub.data.toList)) ∧ w' = w) : ExtOk P f extContains := by
  intro args r hr c vs hi hp0 hrep
  clear hp0
  unfold extContains at hr
  obtain ⟨s, sep, rfl, hr⟩ := args_two (F := fun s sep => (strings_Contains s sep).map fun r => .sc (.bool r)) hr
  obtain ⟨u, v, rfl, h1, h2⟩ := two_args hrep
  obtain rfl := rep_str h1
  obtain rfl := rep_str h2
  obtain ⟨q, hq, rfl⟩ := Option.map_eq_some_iff.1 hr
  clear hr
  unfold strings_Contains at hq
  split at hq
  · rename_i b
    split at hq
    · rename_i hs
      simp only [Option.some.injEq] at hq
      subst hq
      obtain ⟨m, hm⟩ := glob_now hi
      refine ⟨fun w => henter _ w, (hc ⟨⟨s⟩⟩ ⟨⟨[b]⟩⟩ m c.w hs hm).mono fun e w' ⟨he, hw⟩ => ?_⟩
      refine ⟨c, _, he, hw.symm, rfl, hi, Step.refl c, ?_⟩
      have hcn : Lib.contains s [b] = (idxB b s).isSome := by
        unfold Lib.contains
        rw [idxB_index]
        cases idxB b s with
        | none => rfl
        | some i => simp
      show Rep c _ (.bool (Lib.contains s [b]))
      rw [hcn]
      exact .sc _ rfl
    · cases hq
  · cases hq

theorem extJoin_ok (hc : ∀ (bk o c : Nat) (xs : List ByteArray) (sep : ByteArray) (w : World) (hcells : ∀ (j : Nat) x, xs[j]? = some x → w.cell? ⟨bk, o + j, none⟩ = some (.string x)) (hbk : bk < w.heap.size) (hN : xs.length ≤ 140737488355328) (hcap : xs.length ≤ c) (hlen : (Lib.join (xs.map (·.data.toList)) sep.data.toList).length ≤ 140737488355328),
    Calls P f #[.slice (some ⟨bk, o, none⟩) xs.length c, .string sep] w fun e w' => e = .returned (.string ⟨(Lib.join (xs.map (·.data.toList)) sep.data.toList).toArray⟩) ∧ Below w.heap.size w w')
    (hn : ∀ (a : Option Addr) (c : Nat) (sep : ByteArray) (w : World), Calls P f #[.slice a 0 c, .string sep] w fun e w' => e = .returned (.string .empty) ∧ w' = w) : ExtOk P f extJoin := by
  intro args r hr c vs hi _ hrep
  unfold extJoin at hr
  split at hr
  · rename_i n cs sep hp0
    obtain ⟨u, v, rfl, h1, h2⟩ := two_args hrep
    have := rep_str (s := sep) h2
    subst this
    simp only [Option.bind_eq_some_iff] at hr
    obtain ⟨l, hl, hr⟩ := hr
    split at hr
    · rename_i hnl
      simp only [Option.map_eq_some_iff] at hr
      obtain ⟨q, hq, rfl⟩ := hr
      unfold strings_Join at hq
      split at hq
      · rename_i hb
        simp only [Option.some.injEq] at hq
        subst hq hnl
        cases h1 with
        | lst _ _ A cap ws hcap hrw hn0 hx =>
          have hws := unstr_reps hrw hl
          refine ⟨fun w => henter _ w, ?_⟩
          cases l with
          | nil =>
            refine (hn A cap ⟨⟨sep⟩⟩ c.w).mono fun e w' ⟨he, hw⟩ => ⟨c, _, he, hw.symm, rfl, hi, Step.refl c, .sc _ rfl⟩
          | cons x0 l0 =>
            rcases hx with ⟨h0, _⟩ | ⟨ad, rfl, hsp, hfz, hcell⟩
            · simp at h0
            · obtain ⟨bk, o, sp⟩ := ad
              simp only at hsp
              subst hsp
              have hbk := hi.fzlt bk hfz
              generalize hL : x0 :: l0 = L at *
              have hxs : (L.map fun s => (⟨⟨s⟩⟩ : ByteArray)).map (·.data.toList) = L := by rw [List.map_map]; exact List.map_id L
              have key := hc bk o cap (L.map fun s => ⟨⟨s⟩⟩) ⟨⟨sep⟩⟩ c.w (fun j x hj => by
                rw [List.getElem?_map] at hj
                obtain ⟨s, hs, rfl⟩ := Option.map_eq_some_iff.1 hj
                have := hcell j (.string ⟨⟨s⟩⟩) (by rw [hws, List.getElem?_map, hs]; rfl)
                rwa [addo] at this) hbk (by rw [List.length_map]; exact hb.1) (by rw [List.length_map]; exact hcap) (by rw [hxs, joinL_eq]; exact hb.2)
              rw [List.length_map, hxs] at key
              refine key.mono fun e w' ⟨he, hbl⟩ => ?_
              obtain ⟨c', hw', hst, hi', hs'⟩ := grow_below hi hbl
              refine ⟨c', _, he, hw', hst, hi', hs', ?_⟩
              show Rep c' (strV (joinL sep L)) (.string ⟨(Lib.join L sep).toArray⟩)
              rw [joinL_eq]
              exact .sc _ rfl
      · cases hq
    · cases hr
  · cases hr

end
end Go.Abs
