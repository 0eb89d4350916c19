/-
  Maps; bytes and strings. Lemmas alone; no condition.
-/
import Derived.Test.YticlelmlnadclaaDoorKAbs10
set_option linter.unusedVariables false
set_option linter.unusedSimpArgs false
set_option linter.unusedSectionVars false
set_option linter.unnecessarySimpa false
set_option linter.deprecated false
namespace Go.Abs
open Go

theorem getObj_run {P : Program} {w : World} {r : Nat} {es : Array MapEntry} {clock : Nat} (h : w.heap[r]? = some (.map es clock)) : (getObj r).run P w = .ok (.map es clock) w := by
  simp [getObj, Sem.run, h]

theorem setObj_run {P : Program} {w : World} {r : Nat} {es : Array MapEntry} {clock : Nat} (h : w.heap[r]? = some (.map es clock)) (o : Obj) : (setObj r o).run P w = .ok () { w with heap := w.heap.setIfInBounds r o } := by
  simp [setObj, Sem.run, h]

theorem beq_string {a b : ByteArray} (h : (a == b) = true) : a = b := by
  rw [beq_toListBytes, ByteArray.toList_eq, ByteArray.toList_eq] at h
  have := eq_of_beq h
  cases a; cases b
  simpa using this

theorem beq_string_refl (a : ByteArray) : (a == a) = true := by rw [beq_toListBytes]; exact beq_self_eq_true _

def keyDesc : TypeDesc → Value → Bool
  | .int k, .int k' _ => k == k'
  | .string, .string _ => true
  | _, _ => false

theorem sameNow_key {d : TypeDesc} {k e : Value} {b : Bool} (hd : keyDesc d k = true) (h : sameKey k e = some b) : Instr.sameNow d k e = some b := by
  cases d <;> cases k <;> simp [keyDesc] at hd <;> cases e <;> simp [sameKey] at h <;> simp [Instr.sameNow, h]

theorem mfind_run {c : Cx} {d : TypeDesc} {k : Value} (hd : keyDesc d k = true) : ∀ {es : List (Value × AV)} {es' : List MapEntry} (i : Nat), es.map (·.1) = es'.map (·.key) → Reps c (es.map (·.2)) (es'.map (·.val)) →
    (mfind k es i = some none → Instr.findNow d k es' i = some none) ∧
    (∀ j v, mfind k es i = some (some (j, v)) → ∃ u, Instr.findNow d k es' i = some (some (j, u)) ∧ Rep c v u ∧ i ≤ j ∧ (∃ e, es'[j - i]? = some e ∧ sameKey k e.key = some true))
  | [], [], i, _, _ => ⟨fun _ => rfl, fun j v h => by simp [mfind] at h⟩
  | [], _ :: _, i, h, _ => by simp at h
  | _ :: _, [], i, h, _ => by simp at h
  | e :: es, e' :: es', i, h, hr => by
    simp only [List.map_cons, List.cons.injEq] at h
    obtain ⟨hk, h⟩ := h
    simp only [List.map_cons] at hr
    cases hr with
    | cons _ _ _ _ ha hl =>
    obtain ⟨ih1, ih2⟩ := mfind_run hd (i + 1) h hl
    simp only [mfind, Instr.findNow]
    cases hs : sameKey k e.1 with
    | none => simp
    | some b =>
      have := sameNow_key hd hs
      rw [hk] at this hs
      cases b with
      | true =>
        simp only [this]
        refine ⟨fun h => by simp at h, fun j v hj => ?_⟩
        simp only [Option.some.injEq, Prod.mk.injEq] at hj
        obtain ⟨rfl, rfl⟩ := hj
        exact ⟨_, rfl, ha, Nat.le_refl _, e', by simp, hs⟩
      | false =>
        simp only [this]
        refine ⟨ih1, fun j v hj => ?_⟩
        obtain ⟨u, h1, h2, h3, e2, h4, h5⟩ := ih2 j v hj
        refine ⟨u, h1, h2, by omega, e2, ?_, h5⟩
        rw [show j - i = (j - (i + 1)) + 1 by omega]
        simpa using h4

theorem modify_val {α : Type} (es : Array MapEntry) (j : Nat) (f : MapEntry → MapEntry) (g : MapEntry → α) (v : α) (h : ∀ e, g (f e) = v) : (es.modify j f).toList.map g = (es.toList.map g).set j v := by
  apply List.ext_getElem?
  intro i
  simp only [List.getElem?_map, Array.getElem?_toList, Array.getElem?_modify, List.getElem?_set, List.length_map, Array.length_toList]
  by_cases e : j = i
  · subst e
    simp only [if_true]
    by_cases hl : j < es.size
    · simp [hl, h]
    · simp [hl]
  · simp [e]

section
variable {P : Program} {tb : Tb} (hT : TbOk P tb) {c : Cx} (hi : Inv c)
include hi hT

theorem key_desc {kt : TypeId} {ki : TInfo} {kv : Value} (hk : tb kt = some ki) (h : ¬ keyKind ki.kind kv = false) : ∃ d, P.underlying kt = some d ∧ keyDesc d kv = true := by
  obtain ⟨d, hd, hkb⟩ := (hT.get hk).desc
  refine ⟨d, hd, ?_⟩
  generalize ki.kind = kk at h hkb
  cases kk <;> cases kv <;> simp [keyKind] at h <;> cases d <;> simp [kindB] at hkb <;> simp_all [keyDesc]

theorem checkKey_run {kt : TypeId} {d : TypeDesc} {kv : Value} (hd : P.underlying kt = some d) (h : keyDesc d kv = true) (b : Bool) : (Instr.checkKey b 10000 kt kv).run P c.w = .ok () c.w := by
  have : ∀ n, (Instr.checkKey b (n + 1) kt kv).run P c.w = .ok () c.w := by
    intro n
    simp only [Instr.checkKey, Sem.run_bind, run_underlying hd, Result.andThen_ok]
    cases d <;> cases kv <;> simp [keyDesc] at h <;> rfl
  exact this 9999

theorem zero_rep {t : TypeId} {i : TInfo} (ht : tb t = some i) {r : AV} (h : ofCells i.kind.agg i.zero 0 i.size = some r) : ∃ z, (zeroValue t).run P c.w = .ok z c.w ∧ Rep c r z := by
  obtain ⟨z, h1, h2, h3, h4⟩ := run_zero hT hi ht c.w
  refine ⟨z, h1, ?_⟩
  have hr := zero_reps (c := c) h2
  unfold ofCells at h
  cases z with
  | agg cs =>
    simp only at h4
    rw [← h4] at h
    simp only [if_true, Nat.zero_add, Option.ite_none_right_eq_some, Option.some.injEq, List.drop_zero] at h
    obtain ⟨_, rfl⟩ := h
    rw [List.take_of_length_le (by omega)]
    exact .agg _ _ hr
  | _ =>
    simp only at h4
    rw [← h4] at h
    simp only [Bool.false_eq_true, if_false] at h
    obtain ⟨u, hu, hru⟩ := hr.get h
    simp [Value.cells] at hu
    subst hu
    exact hru

theorem run_alookup {t : TypeId} {m k r : AV} {mv kv : Value} {ok : Bool} (hm : Rep c m mv) (hk : Rep c k kv) (h : alookup tb c.st t m k ok = some r) : ∃ u, (Instr.lookup t mv kv ok).run P c.w = .ok u c.w ∧ Rep c r u := by
  unfold alookup at h
  split at h
  · rename_i i ht
    split at h
    · rename_i kt vt kv' hkk
      cases hk
      obtain ⟨d, hd, hkb⟩ := (hT.get ht).desc
      rw [hkk] at hkb
      cases d <;> simp [kindB] at hkb
      obtain ⟨rfl, rfl⟩ := hkb
      rename_i kt vt
      split at h
      · rename_i ki vi hki hvi
        split at h
        · cases h
        · rename_i hkey
          obtain ⟨dk, hdk, hdd⟩ := key_desc hT hi hki hkey
          split at h
          · cases h
          · rename_i es hes
            have hentries : (mv = .map none ∧ es = []) ∨ ∃ (r : Nat) (es' : Array MapEntry) (clock : Nat), mv = .map (some r) ∧ c.w.heap[r]? = some (.map es' clock) ∧ es.map (·.1) = es'.toList.map (·.key) ∧ Reps c (es.map (·.2)) (es'.toList.map (·.val)) := by
              split at hes
              · rename_i id
                split at hes
                · rename_i es0 hq
                  simp only [Option.some.injEq] at hes
                  subst hes
                  cases hm with
                  | mref id v ho hid hx =>
                  obtain ⟨r, es', clock, h1, h2, h3, h4⟩ := hi.good id _ hq
                  have hv := hx (by simp [Cx.ver, hq, AObj.ver?])
                  rw [h1] at hv
                  exact .inr ⟨r, es', clock, hv, h2, h3, h4⟩
                · cases hes
              · simp only [Option.some.injEq] at hes
                cases hm
                exact .inl ⟨rfl, hes.symm⟩
              · cases hes
            split at h
            · rename_i j v hf
              simp only [Option.some.injEq] at h
              subst h
              rcases hentries with ⟨_, rfl⟩ | ⟨r, es', clock, rfl, h2, h3, h4⟩
              · simp [mfind] at hf
              · obtain ⟨u, hu, hru, _⟩ := (mfind_run hdd 0 h3 h4).2 j v hf
                refine ⟨if ok then .tuple #[u, .bool true] else u, ?_, ?_⟩
                · simp [Instr.lookup, run_underlying hd, getObj_run h2, checkKey_run hT hi hdk hdd, Instr.findKey, run_underlying hdk, hu]
                · cases ok with
                  | true => exact .tup _ _ (.cons _ _ _ _ hru (.cons _ _ _ _ (.sc _ rfl) .nil))
                  | false => exact hru
            · rename_i hf
              cases hz : ofCells vi.kind.agg vi.zero 0 vi.size with
              | none => simp [hz] at h
              | some za =>
                simp only [hz, Option.map_some, Option.some.injEq] at h
                subst h
                obtain ⟨z, hzr, hzp⟩ := zero_rep hT hi hvi hz
                refine ⟨if ok then .tuple #[z, .bool false] else z, ?_, ?_⟩
                · rcases hentries with ⟨rfl, rfl⟩ | ⟨r, es', clock, rfl, h2, h3, h4⟩
                  · simp [Instr.lookup, run_underlying hd, checkKey_run hT hi hdk hdd, Instr.findKey, run_underlying hdk, Instr.findNow, hzr]
                  · have hu := (mfind_run hdd 0 h3 h4).1 hf
                    simp [Instr.lookup, run_underlying hd, getObj_run h2, checkKey_run hT hi hdk hdd, Instr.findKey, run_underlying hdk, hu, hzr]
                · cases ok with
                  | true => exact .tup _ _ (.cons _ _ _ _ hzp (.cons _ _ _ _ (.sc _ rfl) .nil))
                  | false => exact hzp
            · cases h
      · cases h
    · cases h
  · cases h

theorem ends_makeMap {t : TypeId} : Ends P c (Instr.makeMap t none) (.mref c.st.length) (c.st ++ [.mp []]) := by
  have hp : Push c (c.w.alloc (.map #[] 0)) (.mp []) (.map (some c.w.heap.size)) :=
    ⟨alloc_grow c _, fun k hk => by simp only [blk, Option.some.injEq] at hk; subst hk; simp⟩
  refine ⟨c.push (c.w.alloc (.map #[] 0)) (.mp []) (.map (some c.w.heap.size)), _, ?_, rfl, hp.inv hi ⟨c.w.heap.size, #[], 0, by simp [Cx.push], heap_alloc_new c.w _, rfl, .nil⟩, hp.step, .mref _ _ rfl (by simp [Cx.push]) (fun _ => by simp [Cx.push]; rfl)⟩
  simp [Instr.makeMap, Cx.push]

theorem ends_mapUpdate {t : TypeId} {m k x : AV} {mv kv xv : Value} {st' : Store} (hm : Rep c m mv) (hk : Rep c k kv) (hx : Rep c x xv) (h : amapUpdate tb c.st t m k x = some st') :
    ∃ c', (Instr.mapUpdate t mv kv xv).run P c.w = .ok () c'.w ∧ c'.st = st' ∧ Inv c' ∧ Step c c' := by
  unfold amapUpdate at h
  split at h
  · rename_i i ht
    split at h
    · rename_i kt vt id kv0 hkk
      cases hk
      obtain ⟨d, hd, hkb⟩ := (hT.get ht).desc
      rw [hkk] at hkb
      cases d <;> simp [kindB] at hkb
      obtain ⟨rfl, rfl⟩ := hkb
      rename_i kt vt
      split at h
      · rename_i ki es hki hq
        split at h
        · cases h
        · rename_i hkey
          obtain ⟨dk, hdk, hdd⟩ := key_desc hT hi hki hkey
          cases hm with
          | mref id v ho hid hxx =>
          obtain ⟨r, es', clock, h1, h2, h3, h4⟩ := hi.good id _ hq
          have hv := hxx (by simp [Cx.ver, hq, AObj.ver?])
          rw [h1] at hv
          subst hv
          have hrlt : r < c.w.heap.size := (Array.getElem?_eq_some_iff.1 h2).1
          have hU : ∀ (es2 : List (Value × AV)) (o : Obj), Upd c id (.mp es) (.mp es2) { c.w with heap := c.w.heap.setIfInBounds r o } (c.io id) := fun es2 o =>
            { ho := hq, os := rfl, tape := rfl, output := rfl, size := by simp, heap := fun j hj hne => by
                have : r ≠ j := fun e => hne (by rw [h1, e]; rfl)
                simp [Array.getElem?_setIfInBounds, this],
              ver := ⟨0, 0, rfl, rfl, Nat.le_refl _, fun _ => rfl⟩, arr := fun _ _ _ _ _ h _ => (by cases h), blk := fun j hj => .inl hj }
          obtain ⟨f1, f2⟩ := mfind_run hdd 0 h3 h4
          split at h
          · rename_i j w hf
            simp only [Option.some.injEq] at h
            subst h
            obtain ⟨u, hu, hru, _, e, he, hsame⟩ := f2 j w hf
            simp only [Nat.sub_zero, Array.getElem?_toList] at he
            refine ⟨c.upd id (.mp (es.set j (kv, x))) { c.w with heap := c.w.heap.setIfInBounds r (.map (es'.modify j fun e => { e with key := kv, val := xv }) clock) } (c.io id), ?_, rfl, (hU _ _).inv hi ⟨r, es'.modify j fun e => { e with key := kv, val := xv }, clock, by simp [Cx.upd, h1], by simp [Cx.upd, hrlt], ?_, ?_⟩, (hU _ _).step hi⟩
            · have hb : Instr.sameBits 10000 e.key kv = true := by
                cases kv <;> cases he2 : e.key <;> simp [he2, sameKey] at hsame <;> simp [Instr.sameBits, hsame]
                have := beq_string hsame
                rw [this]
                exact beq_string_refl _
              simp [Instr.mapUpdate, run_underlying hd, getObj_run h2, checkKey_run hT hi hdk hdd, Instr.findKey, run_underlying hdk, hu, he, Instr.keyThatStays, hb, setObj_run h2, Cx.upd]
            · have hs := modify_val es' j (fun e => { e with key := kv, val := xv }) (·.key) kv (fun _ => rfl)
              rw [List.map_set, hs, h3]
            · have hs := modify_val es' j (fun e => { e with key := kv, val := xv }) (·.val) xv (fun _ => rfl)
              rw [List.map_set, hs]
              exact (h4.set j hx).step ((hU _ _).step hi) hi
          · rename_i hf
            simp only [Option.some.injEq] at h
            subst h
            have hu := f1 hf
            refine ⟨c.upd id (.mp (es ++ [(kv, x)])) { c.w with heap := c.w.heap.setIfInBounds r (.map (es'.push { key := kv, val := xv, born := clock }) (clock + 1)) } (c.io id), ?_, rfl, (hU _ _).inv hi ⟨r, es'.push { key := kv, val := xv, born := clock }, clock + 1, by simp [Cx.upd, h1], by simp [Cx.upd, hrlt], ?_, ?_⟩, (hU _ _).step hi⟩
            · simp [Instr.mapUpdate, run_underlying hd, getObj_run h2, checkKey_run hT hi hdk hdd, Instr.findKey, run_underlying hdk, hu, setObj_run h2, Cx.upd]
            · simp [h3]
            · have := (h4.append (.cons _ _ _ _ hx .nil)).step ((hU (es ++ [(kv, x)]) (.map (es'.push { key := kv, val := xv, born := clock }) (clock + 1))).step hi) hi
              simpa using this
          · cases h
      · cases h
    · cases h
  · cases h

/-! ### bytes and strings -/
theorem ends_bytes {s d e : TypeId} {i j q : TInfo} (hs : tb s = some i) (hd : tb d = some j) (he : tb e = some q) (hi' : i.kind = .str) (hj : j.kind = .slice e) (hq : q.kind = .int .u8) {x : ByteArray} (hx : x.size ≤ maxBytes) :
    Ends P c (convert s d (.string x)) (.lst x.size (x.data.toList.map fun b => .sc (.int .u8 b.toNat))) c.st := by
  obtain ⟨ds, hds, hks⟩ := (hT.get hs).desc
  obtain ⟨dd, hdd, hkd⟩ := (hT.get hd).desc
  obtain ⟨de, hde, hke⟩ := (hT.get he).desc
  rw [hj] at hkd
  cases dd <;> simp [kindB] at hkd
  subst hkd
  rw [hq] at hke
  cases de <;> simp [kindB] at hke
  subst hke
  rename_i e
  have hrun := Lib.run_convert_string_bytes (P := P) c.w s d e x hds hdd hde
  have hr : Reps c (x.data.toList.map fun b => AV.sc (.int .u8 b.toNat)) (x.data.toList.map fun b => Value.int .u8 b.toNat) := by
    induction x.data.toList with
    | nil => exact .nil
    | cons b l ih => exact .cons _ _ _ _ (.sc _ rfl) ih
  refine ends_lst hi hr (fun j u hu => ?_) (grownCap_ge c.w x.size 0 e) (by simp only [maxBytes] at hx; omega) (w' := Lib.bytesWorld c.w e x) ?_ hrun
  · rw [List.getElem?_map] at hu
    cases hb : x.data.toList[j]? with
    | none => simp [hb] at hu
    | some b =>
      simp only [hb, Option.map_some, Option.some.injEq] at hu
      subst hu
      have hj : j < x.size := by
        have := (List.getElem?_eq_some_iff.1 hb).1
        simpa using this
      rw [Lib.bytesWorld_cell c.w e x j hj]
      have h2 := (List.getElem?_eq_some_iff.1 hb).2
      have h3 : x.data[j]? = some b := by simpa using hb
      obtain ⟨h4, h5⟩ := Array.getElem?_eq_some_iff.1 h3
      simp [List.getD_eq_getElem?_getD, h3]
  · exact ⟨rfl, rfl, rfl, by rw [Lib.bytesWorld_size]; omega, fun k hk => Lib.bytesWorld_at_old c.w e x k hk, fun k hk => by subst hk; rw [Lib.bytesWorld_size]; omega⟩

theorem bytes_ints : ∀ {cs : List AV} {vs : List Value} {l : List UInt8}, Reps c cs vs → bytesOfCells cs = some l → ∃ xs : List Int, vs = xs.map (Value.int .u8) ∧ l = xs.map fun n => UInt8.ofNat n.toNat
  | [], _, l, .nil, h => by simp [bytesOfCells] at h; subst h; exact ⟨[], rfl, rfl⟩
  | a :: cs, _, l, .cons _ v _ vs ha hl, h => by
    unfold bytesOfCells at h
    split at h
    · rename_i heq; cases heq
    · rename_i n l' heq
      cases heq
      cases ha
      cases hb : bytesOfCells cs with
      | none => simp [hb] at h
      | some l2 =>
        simp only [hb, Option.map_some, Option.some.injEq] at h
        subst h
        obtain ⟨xs, rfl, rfl⟩ := bytes_ints hl hb
        exact ⟨n :: xs, rfl, rfl⟩
    · cases h

theorem run_toString {s d e : TypeId} {i j q : TInfo} (hs : tb s = some i) (hd : tb d = some j) (he : tb e = some q) (hi' : i.kind = .slice e) (hj : j.kind = .str) (hq : q.kind = .int .u8) {y : AV} {v : Value} (hy : Rep c y v) {n : Nat} {cs : List AV}
    (hsl : sliceOf 1 c.st y = some (n, cs)) {l : List UInt8} (hl : bytesOfCells cs = some l) : (convert s d v).run P c.w = .ok (.string ⟨l.toArray⟩) c.w := by
  obtain ⟨ds, hds, hks⟩ := (hT.get hs).desc
  obtain ⟨dd, hdd, hkd⟩ := (hT.get hd).desc
  obtain ⟨de, hde, hke⟩ := (hT.get he).desc
  rw [hi'] at hks
  cases ds <;> simp [kindB] at hks
  subst hks
  rename_i e
  rw [hj] at hkd
  cases dd <;> simp [kindB] at hkd
  rw [hq] at hke
  cases de <;> simp [kindB] at hke
  subst hke
  obtain ⟨A, cap, vs, rfl, h1, h2, h3, h4, h5, h6⟩ := slice_cells hT hi hy hsl
  obtain ⟨xs, rfl, rfl⟩ := bytes_ints hT hi h3 hl
  simp only [List.length_map, Nat.mul_one] at h4
  cases A with
  | none =>
    have : xs = [] := by
      cases xs with
      | nil => rfl
      | cons x xs => obtain ⟨ad, ha, _⟩ := h5 0 _ rfl; cases ha
    subst this
    rw [run_convert_bytes_nil c.w s e hds hde n cap d hdd]
    rfl
  | some ad =>
    rcases Nat.eq_zero_or_pos n with h0 | h0
    · subst h0
      have : xs = [] := List.eq_nil_of_length_eq_zero h4
      subst this
      obtain ⟨b, o, sp⟩ := ad
      have := run_convert_bytes_string (P := P) c.w s d e (some ⟨b, o, sp⟩) 0 cap hds hde hdd
      rw [this]
      simp [Conv.bytesToString, loadCells, loadCellsFrom]
      rfl
    · obtain ⟨ad', ha, hsp⟩ := h6 h0
      cases ha
      obtain ⟨b, o, sp⟩ := ad
      simp only at hsp
      subst hsp
      have := run_convert_bytes_arg (P := P) c.w s e hds hde b o n cap xs h4 (fun i hi' => by
        obtain ⟨ad, ha, hc⟩ := h5 i (.int .u8 (xs.getD i 0)) (by simp [List.getElem?_map, List.getElem?_eq_getElem (show i < xs.length by omega), List.getD_eq_getElem?_getD])
        cases ha
        rwa [addo] at hc) d hdd
      rw [this]
      rfl

end
end Go.Abs
