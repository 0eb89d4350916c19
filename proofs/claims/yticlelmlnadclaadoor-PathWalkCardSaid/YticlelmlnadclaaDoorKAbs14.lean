/-
  Regions, code, calls: the evaluator's answer is the model's. The main lemmas; no condition.
-/
import Derived.Test.YticlelmlnadclaaDoorKAbsD2
import Derived.Test.YticlelmlnadclaaDoorKAbs13h
set_option linter.unusedVariables false
set_option linter.unusedSimpArgs false
set_option linter.unusedSectionVars false
set_option linter.unnecessarySimpa false
set_option linter.deprecated false
namespace Go.Abs
open Go

theorem put_reps {c : Cx} {tm : List AV} {a : Act} (hr : Reps c tm a.tmps.toList) (d : Option Tmp) {r : AV} {v : Value} (h : Rep c r v) : Reps c (aput tm d r) (a.put d v).tmps.toList := by
  cases d with
  | none => exact hr
  | some d => simp only [aput, Act.put, Array.toList_setIfInBounds]; exact hr.set d h

theorem put_defers (a : Act) (d : Option Tmp) (v : Value) : (a.put d v).defers = a.defers := by cases d <;> rfl

theorem wanted_sound {c : Cx} {tm : List AV} {a : Act} (hr : Reps c tm a.tmps.toList) {o : Oper} {ops : Array Oper} {b : Bool} (h : awanted o ops tm = some b) : Region.wanted o (yielded ops a.tmps) = b := by
  unfold awanted at h
  unfold Region.wanted
  split at h
  · rename_i hg; rw [hg]; simpa using h
  · rename_i j want hg
    rw [hg]
    dsimp only
    unfold yielded
    cases hd : (ops[j]?).bind (·.dst) with
    | none => simp [hd] at h
    | some d =>
      simp only [hd, Option.bind_some] at h ⊢
      cases ht : tm[d]? with
      | none => simp [ht] at h
      | some v =>
        obtain ⟨u, hu, hru⟩ := hr.get ht
        have hu' : a.tmps[d]? = some u := by simpa using hu
        rw [hu']
        rw [ht] at h
        split at h
        · rename_i bb heq
          cases heq
          cases hru
          simp only [Option.some.injEq] at h
          simp [← h]
        · rename_i vs heq
          cases heq
          cases hru
          simp only [Option.some.injEq] at h
          subst h
          rfl
        · cases h

/-- a frame's values and the context behind some steps -/
def Goes (c : Cx) (a : Act) (tm' : List AV) (st' : Store) (Q : Act → World → Prop) : Prop :=
  ∀ c' a', c'.st = st' → Inv c' → Step c c' → Reps c' tm' a'.tmps.toList → a'.defers = a.defers → Q a' c'.w

section
variable {P : Program} {E : Env} (hT : TbOk P E.tb) {call : Caller} (hcall : CallOk P call) {fid : FuncId}
include hT hcall

theorem astep_soundK {ops : Array Oper} {i : Nat} {o : Oper} (ho : ops[i]? = some o) {tm tm' : List AV} {st' : Store} {c : Cx} {a : Act} {Q : Exit → Act → World → Prop} {K : Act → World → Prop} (hi : Inv c) (hr : Reps c tm a.tmps.toList)
    (h : astep E call fid ops o tm c.st = some (tm', st')) (hn : Goes c a tm' st' K) : wpOp P ops Q i K a c.w := by
  unfold astep at h
  simp only [wpOp, ho]
  split at h
  · rename_i hw
    rw [if_pos (wanted_sound hr hw)]
    cases hop : aop E call fid o tm c.st with
    | none => simp [hop] at h
    | some rs =>
      obtain ⟨r, st2⟩ := rs
      simp only [hop, Option.map_some, Option.some.injEq, Prod.mk.injEq] at h
      obtain ⟨rfl, rfl⟩ := h
      refine .inl (aop_sound hT hcall hi hr hop _ _ fun c' v hst hi' hs hv => ?_)
      exact hn c' _ hst hi' hs (put_reps (hr.step hs hi) _ hv) (put_defers _ _ _)
  · rename_i hw
    simp only [Option.some.injEq, Prod.mk.injEq] at h
    obtain ⟨rfl, rfl⟩ := h
    rw [if_neg (by rw [wanted_sound hr hw]; simp)]
    exact hn c _ rfl hi (Step.refl c) (put_reps hr _ (.tup [] #[] .nil)) (put_defers _ _ _)
  · cases h

theorem astep_sound {ops : Array Oper} {i : Nat} {rest : List Nat} {o : Oper} (ho : ops[i]? = some o) {tm tm' : List AV} {st' : Store} {c : Cx} {a : Act} {Q : Exit → Act → World → Prop} (hi : Inv c) (hr : Reps c tm a.tmps.toList)
    (h : astep E call fid ops o tm c.st = some (tm', st')) (hn : Goes c a tm' st' (wpOps P ops Q rest)) : wpOps P ops Q (i :: rest) a c.w := by
  rw [wpOps_cons]
  exact astep_soundK hT hcall ho hi hr h hn

theorem asteps_sound {ops : Array Oper} {Q : Exit → Act → World → Prop} : ∀ (l : List Nat) {tm tm' : List AV} {st' : Store} {c : Cx} {a : Act}, Inv c → Reps c tm a.tmps.toList →
    asteps E call fid ops (l.filterMap (ops[·]?)) tm c.st = some (tm', st') → Goes c a tm' st' (Q .normal) → wpOps P ops Q l a c.w
  | [], tm, tm', st', c, a, hi, hr, h, hn => by
    simp only [List.filterMap_nil, asteps, Option.some.injEq, Prod.mk.injEq] at h
    obtain ⟨rfl, rfl⟩ := h
    exact hn c a rfl hi (Step.refl c) hr rfl
  | i :: l, tm, tm', st', c, a, hi, hr, h, hn => by
    cases ho : ops[i]? with
    | none =>
      simp only [List.filterMap_cons, ho] at h
      simp only [wpOps, ho]
      exact asteps_sound l hi hr h hn
    | some o =>
      simp only [List.filterMap_cons, ho, asteps] at h
      split at h
      · rename_i tm1 st1 h1
        refine astep_sound hT hcall ho hi hr h1 fun c1 a1 hst1 hi1 hs1 hr1 hd1 => ?_
        rw [← hst1] at h
        refine asteps_sound l hi1 hr1 h fun c2 a2 hst2 hi2 hs2 hr2 hd2 => ?_
        exact hn c2 a2 hst2 hi2 (hs1.trans hs2 hi1.minelt) hr2 (hd2.trans hd1)
      · cases h

omit hT hcall in
theorem filterMap_range (ops : Array Oper) : (List.range ops.size).filterMap (ops[·]?) = ops.toList := by
  have : ∀ (l : List Oper), (List.range l.length).filterMap (l[·]?) = l := by
    intro l
    induction l with
    | nil => rfl
    | cons x l ih =>
      rw [List.length_cons, List.range_succ_eq_map, List.filterMap_cons]
      simp only [List.getElem?_cons_zero, List.filterMap_map]
      congr 1
  have h := this ops.toList
  simpa using h

omit hT hcall in
theorem adrawRun_crun {ops : Array Oper} {cl : Nat → Cls} : ∀ (l : List Nat) {tm : List AV} {st : Store} {cs : List Cls} {r : List AV × Store}, (∀ i ∈ l, i < ops.size) →
    adrawRun E call fid ops (l.filterMap (ops[·]?)) tm st = some (cs, r) → cs.length = l.length ∧ ((∀ k i, l[k]? = some i → cl i = cs.getD k .writes) → crun E call fid ops cl l tm st = some r)
  | [], tm, st, cs, r, _, h => by
    simp only [List.filterMap_nil, adrawRun, Option.some.injEq, Prod.mk.injEq] at h
    obtain ⟨rfl, rfl⟩ := h
    exact ⟨rfl, fun _ => rfl⟩
  | i :: l, tm, st, cs, r, hl, h => by
    have hlt : i < ops.size := hl i (by simp)
    have ho : ops[i]? = some ops[i] := Array.getElem?_eq_getElem hlt
    simp only [List.filterMap_cons, ho, adrawRun] at h
    split at h
    · rename_i tm1 st1 h1
      cases hq : adrawRun E call fid ops (l.filterMap (ops[·]?)) tm1 st1 with
      | none => simp [hq] at h
      | some cr =>
        obtain ⟨cs1, r1⟩ := cr
        simp only [hq, Option.map_some, Option.some.injEq, Prod.mk.injEq] at h
        obtain ⟨rfl, rfl⟩ := h
        obtain ⟨hlen, hrun⟩ := adrawRun_crun (cl := cl) l (fun k hk => hl k (by simp [hk])) hq
        refine ⟨by simp [hlen], fun hcl => ?_⟩
        have h0 := hcl 0 i rfl
        simp only [List.getD_cons_zero] at h0
        simp only [crun, ho, h0, clsAt, if_true, h1]
        exact hrun fun k j hk => by
          have := hcl (k + 1) j (by simpa using hk)
          simpa using this
    · cases h

omit hT hcall in
theorem befores_spec (ops : Array Oper) (j i : Nat) (h : i ∈ (befores ops).getD j []) : ∃ o, ops[j]? = some o ∧ ∃ e ∈ o.after.toList, Region.binds .any e = true ∧ (i = e.on ∨ i ∈ (befores ops).getD e.on []) := by
  have key : ∀ n, n ≤ ops.size → ((List.range n).foldl (fun acc j => acc ++ [((ops[j]?).map fun o => o.after.toList.flatMap fun e => if Region.binds .any e then e.on :: acc.getD e.on [] else []).getD []]) []).length = n ∧
      ∀ j i, i ∈ ((List.range n).foldl (fun acc j => acc ++ [((ops[j]?).map fun o => o.after.toList.flatMap fun e => if Region.binds .any e then e.on :: acc.getD e.on [] else []).getD []]) []).getD j [] →
        ∃ o, ops[j]? = some o ∧ ∃ e ∈ o.after.toList, Region.binds .any e = true ∧ (i = e.on ∨ i ∈ ((List.range n).foldl (fun acc j => acc ++ [((ops[j]?).map fun o => o.after.toList.flatMap fun e => if Region.binds .any e then e.on :: acc.getD e.on [] else []).getD []]) []).getD e.on []) := by
    intro n
    induction n with
    | zero => intro _; exact ⟨rfl, fun j i h => by simp at h⟩
    | succ n ih =>
      intro hn
      obtain ⟨hlen, hall⟩ := ih (by omega)
      rw [List.range_succ, List.foldl_append, List.foldl_cons, List.foldl_nil]
      generalize ((List.range n).foldl (fun acc j => acc ++ [((ops[j]?).map fun o => o.after.toList.flatMap fun e => if Region.binds .any e then e.on :: acc.getD e.on [] else []).getD []]) []) = acc at hlen hall ⊢
      have mono : ∀ {k i : Nat} (x : List Nat), i ∈ acc.getD k [] → i ∈ (acc ++ [x]).getD k [] := by
        intro k i x hh
        by_cases hk : k < acc.length
        · simpa [List.getD_eq_getElem?_getD, List.getElem?_append_left hk] using hh
        · have : acc[k]? = none := List.getElem?_eq_none (by omega)
          simp [List.getD_eq_getElem?_getD, this] at hh
      refine ⟨by simp [hlen], fun j i hh => ?_⟩
      by_cases hj : j < acc.length
      · have : i ∈ acc.getD j [] := by simpa [List.getD_eq_getElem?_getD, List.getElem?_append_left hj] using hh
        obtain ⟨o, ho, e, he, hb, hor⟩ := hall j i this
        exact ⟨o, ho, e, he, hb, hor.imp id (mono _)⟩
      · by_cases hj2 : j = acc.length
        · subst hj2
          rw [List.getD_eq_getElem?_getD, List.getElem?_append_right (Nat.le_refl _)] at hh
          simp only [Nat.sub_self, List.getElem?_cons_zero, Option.getD_some] at hh
          rw [hlen]
          have ho : ops[n]? = some ops[n] := Array.getElem?_eq_getElem (by omega)
          rw [ho] at hh
          simp only [Option.map_some, Option.getD_some, List.mem_flatMap] at hh
          obtain ⟨e, he, hie⟩ := hh
          split at hie
          · rename_i hb
            refine ⟨_, ho, e, he, hb, ?_⟩
            rcases List.mem_cons.1 hie with rfl | hie
            · exact .inl rfl
            · exact .inr (mono _ hie)
          · simp at hie
        · have : (acc ++ [((ops[n]?).map fun o => o.after.toList.flatMap fun e => if Region.binds .any e then e.on :: acc.getD e.on [] else []).getD []])[j]? = none := List.getElem?_eq_none (by simp; omega)
          rw [List.getD_eq_getElem?_getD, this] at hh
          exact absurd hh (by simp)
  exact (key ops.size (Nat.le_refl _)).2 j i h

/-- what is not yet listed -/
def rem (ops : Array Oper) (listed : Array Bool) : List Nat := (List.range ops.size).filter fun i => !listed.getD i true

omit hT hcall in
theorem mem_rem {ops : Array Oper} {listed : Array Bool} {i : Nat} : i ∈ rem ops listed ↔ i < ops.size ∧ listed.getD i true = false := by simp [rem]

omit hT hcall in
theorem rem_sorted (ops : Array Oper) (listed : Array Bool) : (rem ops listed).Pairwise (· < ·) := List.Pairwise.filter _ List.pairwise_lt_range

omit hT hcall in
theorem rem_set {ops : Array Oper} {listed : Array Bool} {i : Nat} (hsz : listed.size = ops.size) : rem ops (listed.setIfInBounds i true) = (rem ops listed).filter (· != i) := by
  simp only [rem, List.filter_filter]
  refine List.filter_congr fun k hk => ?_
  have hk : k < ops.size := List.mem_range.1 hk
  by_cases h : k = i
  · subst h; simp [Array.getD_eq_getD_getElem?, Array.getElem?_setIfInBounds_self_of_lt (show k < listed.size by omega)]
  · have : (k != i) = true := by simp [h]
    rw [this, Array.getD_eq_getD_getElem?, Array.getElem?_setIfInBounds_ne (fun e => h e.symm)]
    simp

omit hT hcall in
theorem mem_ready {ops : Array Oper} {listed : Array Bool} {i : Nat} : i ∈ Region.ready .any ops listed ↔ i ∈ rem ops listed ∧ ∃ o, ops[i]? = some o ∧ ∀ e ∈ o.after.toList, Region.binds .any e = true → listed.getD e.on false = true := by
  unfold Region.ready
  rw [List.mem_filter, mem_rem, List.mem_range]
  constructor
  · rintro ⟨h1, h2⟩
    have ho : ops[i]? = some ops[i] := Array.getElem?_eq_getElem h1
    rw [ho] at h2
    simp only [Bool.and_eq_true, Option.map_some, Option.getD_some, Array.all_eq_true_iff_forall_mem] at h2
    refine ⟨⟨h1, by simpa using h2.1⟩, _, ho, fun e he hb => ?_⟩
    have := h2.2 e (by simpa using he)
    simpa [hb] using this
  · rintro ⟨⟨h1, h2⟩, o, ho, h3⟩
    refine ⟨h1, ?_⟩
    rw [ho]
    simp only [h2, Bool.not_false, Bool.true_and, Option.map_some, Option.getD_some, Array.all_eq_true_iff_forall_mem]
    intro e he
    cases hb : Region.binds .any e with
    | false => rfl
    | true => simpa using h3 e (by simpa using he) hb

theorem any_sound {ops : Array Oper} {cl : Nat → Cls} (hcf : CallFree E call) (hlow : ∀ j o, ops[j]? = some o → ∀ e ∈ o.after.toList, Region.binds .any e = true → e.on < j)
    (hmay : ∀ j i, j < ops.size → i < j → i ∈ (befores ops).getD j [] ∨ may ops cl i j) {Q : Exit → Act → World → Prop} :
    ∀ (fuel : Nat) (listed : Array Bool) {tm tm' : List AV} {st' : Store} {c : Cx} {a : Act}, Inv c → Reps c tm a.tmps.toList → listed.size = ops.size → (rem ops listed).length ≤ fuel →
      (∀ j, j < ops.size → listed.getD j true = true → ∀ i ∈ (befores ops).getD j [], listed.getD i false = true) → crun E call fid ops cl (rem ops listed) tm c.st = some (tm', st') → Goes c a tm' st' (Q .normal) →
      wpAny P .any ops Q fuel listed a c.w := by
  intro fuel
  induction fuel with
  | zero =>
    intro listed tm tm' st' c a hi hr hsz hlen hcl h hn
    have hrem : rem ops listed = [] := List.eq_nil_of_length_eq_zero (by omega)
    rw [hrem] at h
    simp only [crun, Option.some.injEq, Prod.mk.injEq] at h
    obtain ⟨rfl, rfl⟩ := h
    refine ⟨?_, hn c a rfl hi (Step.refl c) hr rfl⟩
    rw [List.eq_nil_iff_forall_not_mem]
    intro i hir
    have := (mem_ready.1 hir).1
    rw [hrem] at this
    cases this
  | succ fuel ih =>
    intro listed tm tm' st' c a hi hr hsz hlen hcl h hn
    constructor
    · intro hnil
      cases hrem : rem ops listed with
      | nil =>
        rw [hrem] at h
        simp only [crun, Option.some.injEq, Prod.mk.injEq] at h
        obtain ⟨rfl, rfl⟩ := h
        exact hn c a rfl hi (Step.refl c) hr rfl
      | cons i l =>
        exfalso
        have hmem : i ∈ rem ops listed := by rw [hrem]; simp
        have hlt := (mem_rem.1 hmem).1
        have ho : ops[i]? = some ops[i] := Array.getElem?_eq_getElem hlt
        have hs := rem_sorted ops listed
        rw [hrem] at hs
        have : i ∈ Region.ready .any ops listed := mem_ready.2 ⟨hmem, _, ho, fun e he hb => by
          have hlow := hlow i _ ho e he hb
          cases hl : listed.getD e.on true with
          | true =>
            rw [Array.getD_eq_getD_getElem?] at hl ⊢
            rw [Array.getElem?_eq_getElem (show e.on < listed.size by omega)] at hl ⊢
            exact hl
          | false =>
            have hm2 : e.on ∈ rem ops listed := mem_rem.2 ⟨by omega, hl⟩
            rw [hrem] at hm2
            rcases List.mem_cons.1 hm2 with h1 | h1
            · omega
            · have := (List.pairwise_cons.1 hs).1 _ h1
              omega⟩
        rw [hnil] at this
        cases this
    · intro j hjr
      obtain ⟨hmem, o, ho, hed⟩ := mem_ready.1 hjr
      obtain ⟨l1, l2, hsp⟩ := List.append_of_mem hmem
      have hs := rem_sorted ops listed
      rw [hsp] at hs h
      obtain ⟨hs1, hs2, hs3⟩ := List.pairwise_append.1 hs
      have hjlt := (mem_rem.1 hmem).1
      have hb := crun_bubble hcf l1 (fun i hil => by
        have hij : i < j := hs3 i hil j (by simp)
        rcases hmay j i hjlt hij with hbf | hm
        · exfalso
          obtain ⟨o2, ho2, e, he, hbi, hor⟩ := befores_spec ops j i hbf
          rw [ho] at ho2
          cases ho2
          have hle := hed e he hbi
          have hne : listed.getD i true = false := (mem_rem.1 (by rw [hsp]; simp [hil] : i ∈ rem ops listed)).2
          have hli : listed.getD i false = true := by
            rcases hor with rfl | hor
            · exact hle
            · have helt := hlow j o ho e he hbi
              refine hcl e.on (by omega) ?_ i hor
              rw [Array.getD_eq_getD_getElem?] at hle ⊢
              rw [Array.getElem?_eq_getElem (show e.on < listed.size by omega)] at hle ⊢
              exact hle
          rw [Array.getD_eq_getD_getElem?] at hne hli
          rw [Array.getElem?_eq_getElem (show i < listed.size by omega)] at hne hli
          simp at hne hli
          rw [hne] at hli
          cases hli
        · exact hm) h
      simp only [crun, ho] at hb
      split at hb
      · split at hb
        · rename_i tm1 st1 h1
          have hrem2 : rem ops (listed.setIfInBounds j true) = l1 ++ l2 := by
            rw [rem_set hsz, hsp, List.filter_append, List.filter_cons]
            simp only [bne_self_eq_false, Bool.false_eq_true, if_false]
            congr 1
            · refine List.filter_eq_self.2 fun k hk => ?_
              have := hs3 k hk j (by simp)
              simp; omega
            · refine List.filter_eq_self.2 fun k hk => ?_
              have := (List.pairwise_cons.1 hs2).1 k hk
              simp; omega
          refine astep_soundK hT hcall ho hi hr h1 fun c1 a1 hst1 hi1 hs1' hr1 hd1 => ?_
          refine ih (listed.setIfInBounds j true) hi1 hr1 (by simpa using hsz) (by rw [hrem2]; rw [hsp] at hlen; simp at hlen ⊢; omega) ?_ (by rw [hrem2, hst1]; exact hb) fun c2 a2 hst2 hi2 hs2' hr2 hd2 => hn c2 a2 hst2 hi2 (hs1'.trans hs2' hi1.minelt) hr2 (hd2.trans hd1)
          intro k hk hkl i hib
          have hup : ∀ n, listed.getD n false = true → (listed.setIfInBounds j true).getD n false = true := by
            intro n hh
            by_cases hnj : n = j
            · subst hnj; simp [Array.getD_eq_getD_getElem?, Array.getElem?_setIfInBounds_self_of_lt (show n < listed.size by omega)]
            · rw [Array.getD_eq_getD_getElem?, Array.getElem?_setIfInBounds_ne (fun e => hnj e.symm), ← Array.getD_eq_getD_getElem?]; exact hh
          by_cases hkj : k = j
          · subst hkj
            obtain ⟨o2, ho2, e, he, hbi, hor⟩ := befores_spec ops k i hib
            rw [ho] at ho2
            cases ho2
            have hle := hed e he hbi
            rcases hor with rfl | hor
            · exact hup _ hle
            · have helt := hlow k o ho e he hbi
              refine hup _ (hcl e.on (by omega) ?_ i hor)
              rw [Array.getD_eq_getD_getElem?] at hle ⊢
              rw [Array.getElem?_eq_getElem (show e.on < listed.size by omega)] at hle ⊢
              exact hle
          · rw [Array.getD_eq_getD_getElem?, Array.getElem?_setIfInBounds_ne (fun e => hkj e.symm), ← Array.getD_eq_getD_getElem?] at hkl
            exact hup _ (hcl k hk hkl i hib)
        · cases hb
      · cases hb

theorem adraw_sound (hcf : CallFree E call) (hmix : P.follows .mixedOrders = true) {ops : Array Oper} {Q : Exit → Act → World → Prop} {tm tm' : List AV} {st' : Store} {c : Cx} {a : Act} (hi : Inv c) (hr : Reps c tm a.tmps.toList) (h : adraw E call fid ops tm c.st = some (tm', st'))
    (hn : Goes c a tm' st' (Q .normal)) (t : Nat) : wpOps P ops Q (Region.schedule (P.follows .mixedOrders) ops t) a c.w := by
  simp only [Region.schedule, hmix, Bool.true_or, if_true]
  unfold adraw at h
  split at h
  · rename_i cl r hrun
    split at h
    · rename_i hok
      simp only [Option.some.injEq] at h
      subst h
      rw [← filterMap_range ops] at hrun
      obtain ⟨hlen, hc⟩ := adrawRun_crun (cl := fun i => cl.getD i .writes) (List.range ops.size) (fun i hi => List.mem_range.1 hi) hrun
      have hcr := hc fun k i hk => by
        have hk' := hk
        rw [List.getElem?_range (by have := (List.getElem?_eq_some_iff.1 hk).1; simpa using this)] at hk'
        simp only [Option.some.injEq] at hk'
        rw [hk']
      unfold adrawOk at hok
      simp only [List.all_eq_true, List.mem_range, Bool.and_eq_true, Bool.or_eq_true] at hok
      have hrem0 : rem ops (Array.replicate ops.size false) = List.range ops.size := by
        unfold rem
        refine List.filter_eq_self.2 fun k hk => ?_
        have hk := List.mem_range.1 hk
        simp [Array.getD_eq_getD_getElem?, hk]
      refine wpAny_sound ops.size t _ a c.w (any_sound hT hcall hcf (cl := fun i => cl.getD i .writes) ?_ ?_ ops.size (Array.replicate ops.size false) hi hr (by simp) (by rw [hrem0]; simp) ?_ (by rw [hrem0]; exact hcr) hn)
      · intro j o ho e he hb
        have hj : j < ops.size := by
          by_cases hj : j < ops.size
          · exact hj
          · rw [Array.getElem?_eq_none (by omega)] at ho; cases ho
        have := (hok j hj).1
        rw [ho] at this
        simp only [Option.map_some, Option.getD_some, Array.all_eq_true_iff_forall_mem] at this
        have := this e (by simpa using he)
        simpa [hb] using this
      · intro j i hj hij
        rcases (hok j hj).2 i hij with hcn | hm
        · exact .inl (by simpa using hcn)
        · refine .inr fun x y hx hy => ?_
          rw [hx, hy] at hm
          exact hm
      · intro j hj hl
        simp [Array.getD_eq_getD_getElem?, hj] at hl
    · cases h
  · cases h

def Conc : AX → Exit
  | .normal => .normal
  | .exit i => .exit i
  | .ret => .ret

/-- what code does -/
def CodeGoes (P : Program) (code : Code) (c : Cx) (a : Act) (ex : AX) (tm' : List AV) (st' : Store) : Prop :=
  ∀ (Q : Exit → Act → World → Prop), Goes c a tm' st' (Q (Conc ex)) → code.wp P Q a c.w

omit hT hcall in
theorem drew_cx {c : Cx} (hi : Inv c) : ∃ c' : Cx, c'.w = { c.w with drawn := c.w.drawn + 1 } ∧ c'.st = c.st ∧ Inv c' ∧ Step c c' := by
  have hg : Grow c { c.w with drawn := c.w.drawn + 1 } (fun _ => False) := ⟨rfl, rfl, rfl, Nat.le_refl _, fun _ _ => rfl, fun _ h => h.elim⟩
  exact ⟨c.grow _ _, rfl, rfl, hg.inv hi, hg.step⟩

/-- a loop from its head on -/
def LoopWp (P : Program) (b : Code) (Q : Exit → Act → World → Prop) (a : Act) (w : World) : Prop :=
  ∀ (fr : Frame) (k : List Item) (cs : List Frame), ∃ e a' w', Q e a' w' ∧ Arrives P (lone (fr.at a (.code b :: .inLoop b :: k)) cs w) fr k cs e a' w'

omit hT hcall in
theorem LoopWp.loop {b : Code} {Q : Exit → Act → World → Prop} {a : Act} {w : World} (h : LoopWp P b Q a w) : (Code.loop b).wp P Q a w := by
  intro fr k cs
  obtain ⟨e, a', w', hq, harr⟩ := h fr k cs
  exact ⟨e, a', w', hq, .of_steps (.one step_loop) harr⟩

omit hT hcall in
theorem LoopWp.unroll {b : Code} {Q : Exit → Act → World → Prop} {a : Act} {w : World} (h : b.wp P (Exit.then (LoopWp P b Q) Q) a w) : LoopWp P b Q a w := by
  intro fr k cs
  obtain ⟨e, a₁, w₁, hq, harr⟩ := h fr (.inLoop b :: k) cs
  cases e with
  | normal =>
    obtain ⟨e₂, a₂, w₂, hq₂, harr₂⟩ := hq fr k cs
    exact ⟨e₂, a₂, w₂, hq₂, .of_steps (Steps.trans harr (.one step_inLoop)) harr₂⟩
  | exit id => exact ⟨_, a₁, w₁, hq, .pass (x := .inLoop b) rfl (fun _ _ => .inl (by simp)) harr⟩
  | goto l => exact ⟨_, a₁, w₁, hq, .pass (x := .inLoop b) rfl (fun _ _ => .inl (by simp)) harr⟩
  | ret => exact ⟨_, a₁, w₁, hq, .pass (x := .inLoop b) rfl (fun _ _ => .inl (by simp)) harr⟩
  | panic ch => exact ⟨_, a₁, w₁, hq, .pass (x := .inLoop b) rfl (fun _ _ => .inl (by simp)) harr⟩
  | outgrown => exact ⟨_, a₁, w₁, hq, .pass (x := .inLoop b) rfl (fun _ _ => .inl (by simp)) harr⟩

omit hT hcall in
theorem kill_reps {c : Cx} {live : List Nat} {n0 : Nat} : ∀ {l : List AV} {vs : List Value} (i : Nat), Reps c l vs → Reps (c.cut n0) (kill live n0 i l) vs
  | _, _, i, .nil => .nil
  | _, _, i, .cons a v as vs ha hl => by
    unfold kill
    refine .cons _ v _ vs ?_ (kill_reps (i + 1) hl)
    split
    · exact ha.cut
    · exact .bad v

theorem iter_sound {live : List Nat} {b : Code} {body : List AV → Store → Out}
    (hb : ∀ {tm st ex tm' st'}, body tm st = some (ex, tm', st') → ∀ (c : Cx) (a : Act), c.st = st → Inv c → Reps c tm a.tmps.toList → CodeGoes P b c a ex tm' st') :
    ∀ (k : Nat) {tm : List AV} {ex : AX} {tm' : List AV} {st' : Store} (c : Cx) (a : Act), Inv c → Reps c tm a.tmps.toList → iter live c.st.length body k tm c.st = some (ex, tm', st') →
      ∀ (Q : Exit → Act → World → Prop), Goes c a tm' st' (Q (Conc ex)) → LoopWp P b Q a c.w
  | 0, tm, ex, tm', st', c, a, hi, hr, h, Q, hn => by simp [iter] at h
  | k + 1, tm, ex, tm', st', c, a, hi, hr, h, Q, hn => by
    simp only [iter] at h
    split at h
    · rename_i tm1 st1 h1
      refine LoopWp.unroll (hb h1 c a rfl hi hr _ fun c1 a1 hst1 hi1 hs1 hr1 hd1 => ?_)
      show LoopWp P b Q a1 c1.w
      have hs2 : Step c (c1.cut c.st.length) := hs1.cut
      have hlen : (c1.cut c.st.length).st.length = c.st.length := by
        have := hs1.len
        simp [Cx.cut, Abs.cut]; omega
      have hst2 : (c1.cut c.st.length).st = Abs.cut c.st.length st1 := by simp [Cx.cut, hst1]
      have := iter_sound hb k (c1.cut c.st.length) a1 hi1.cut (kill_reps 0 hr1) (by rw [hlen, hst2]; exact h) Q fun c3 a3 hst3 hi3 hs3 hr3 hd3 => hn c3 a3 hst3 hi3 (hs2.trans hs3 hi1.cut.minelt) hr3 (hd3.trans hd1)
      exact this
    · rename_i hne
      have hnn : ex ≠ .normal := fun e => by subst e; exact hne _ _ h
      refine LoopWp.unroll (hb h c a rfl hi hr _ fun c1 a1 hst1 hi1 hs1 hr1 hd1 => ?_)
      have := hn c1 a1 hst1 hi1 hs1 hr1 hd1
      cases ex with
      | normal => exact absurd rfl hnn
      | exit i => exact this
      | ret => exact this

variable (hcf : CallFree E call) (hmix : P.follows .mixedOrders = true)
include hcf hmix

theorem aexec_sound {lf : Nat} : ∀ (code : Code) {tm : List AV} {st : Store} {ex : AX} {tm' : List AV} {st' : Store}, aexec E call fid lf code tm st = some (ex, tm', st') →
    ∀ (c : Cx) (a : Act), c.st = st → Inv c → Reps c tm a.tmps.toList → CodeGoes P code c a ex tm' st'
  | .skip, tm, st, ex, tm', st', h, c, a, hst, hi, hr, Q, hn => by
    simp only [aexec, Option.some.injEq, Prod.mk.injEq] at h
    obtain ⟨rfl, rfl, rfl⟩ := h
    exact wp_skip (hn c a hst hi (Step.refl c) hr rfl)
  | .region id ops draw, tm, st, ex, tm', st', h, c, a, hst, hi, hr, Q, hn => by
    subst hst
    simp only [aexec] at h
    obtain ⟨c0, hw0, hst0, hi0, hs0, hr0⟩ := hints_ok (tb := E.tb) (E.preR fid id) hi hr
    rw [← hw0]
    rw [← hst0] at h
    cases draw with
    | false =>
      simp only [Bool.false_eq_true, if_false] at h
      cases hs : asteps E call fid ops ops.toList (hints E.tb (E.preR fid id) (tm, c.st)).1 c0.st with
      | none => simp [hs] at h
      | some r =>
        simp only [hs, Option.map_some, Option.some.injEq, Prod.mk.injEq] at h
        obtain ⟨rfl, rfl⟩ := h
        exact wp_region (asteps_sound hT hcall (List.range ops.size) hi0 hr0 (by rw [filterMap_range]; exact hs) fun c2 a2 hst2 hi2 hs2 hr2 hd2 => hn c2 a2 hst2 hi2 (hs0.trans hs2 hi0.minelt) hr2 hd2)
    | true =>
      simp only [if_true] at h
      cases hs : adraw E call fid ops (hints E.tb (E.preR fid id) (tm, c.st)).1 c0.st with
      | none => simp [hs] at h
      | some r =>
        simp only [hs, Option.map_some, Option.some.injEq, Prod.mk.injEq] at h
        obtain ⟨rfl, rfl⟩ := h
        refine wp_region_draw fun t => ?_
        obtain ⟨c1, hw, hst1, hi1, hs1⟩ := drew_cx hi0
        rw [← hw]
        refine adraw_sound hT hcall hcf hmix hi1 (hr0.step hs1 hi0) (by rw [hst1]; exact hs) (fun c2 a2 hst2 hi2 hs2 hr2 hd2 => hn c2 a2 hst2 hi2 (hs0.trans (hs1.trans hs2 hi1.minelt) hi0.minelt) hr2 hd2) t
  | .seq x y, tm, st, ex, tm', st', h, c, a, hst, hi, hr, Q, hn => by
    simp only [aexec] at h
    split at h
    · rename_i tm1 st1 h1
      refine wp_seq (aexec_sound x h1 c a hst hi hr _ fun c1 a1 hst1 hi1 hs1 hr1 hd1 => ?_)
      exact aexec_sound y h c1 a1 hst1 hi1 hr1 _ fun c2 a2 hst2 hi2 hs2 hr2 hd2 => hn c2 a2 hst2 hi2 (hs1.trans hs2 hi1.minelt) hr2 (hd2.trans hd1)
    · rename_i hne
      have hnn : ex ≠ .normal := fun e => by subst e; exact hne _ _ h
      refine wp_seq (aexec_sound x h c a hst hi hr _ fun c1 a1 hst1 hi1 hs1 hr1 hd1 => ?_)
      have := hn c1 a1 hst1 hi1 hs1 hr1 hd1
      cases ex with
      | normal => exact absurd rfl hnn
      | exit i => exact this
      | ret => exact this
  | .cond cc x y, tm, st, ex, tm', st', h, c, a, hst, hi, hr, Q, hn => by
    simp only [aexec] at h
    have hcv := aeval_rep hr cc
    split at h
    · rename_i q hq
      rw [hq] at hcv
      generalize hce : a.eval cc = cv at hcv
      cases hcv
      cases q with
      | true => exact wp_cond_true hce (aexec_sound x h c a hst hi hr Q hn)
      | false => exact wp_cond_false hce (aexec_sound y (by simpa using h) c a hst hi hr Q hn)
    · cases h
  | .block id b, tm, st, ex, tm', st', h, c, a, hst, hi, hr, Q, hn => by
    simp only [aexec] at h
    split at h
    · rename_i i tm1 st1 h1
      refine wp_block (aexec_sound b h1 c a hst hi hr _ fun c1 a1 hst1 hi1 hs1 hr1 hd1 => ?_)
      simp only [Conc, Exit.inBlock]
      split at h
      · rename_i he
        simp only [Option.some.injEq, Prod.mk.injEq] at h
        obtain ⟨rfl, rfl, rfl⟩ := h
        rw [if_pos he]
        exact hn c1 a1 hst1 hi1 hs1 hr1 hd1
      · rename_i he
        simp only [Option.some.injEq, Prod.mk.injEq] at h
        obtain ⟨rfl, rfl, rfl⟩ := h
        rw [if_neg he]
        exact hn c1 a1 hst1 hi1 hs1 hr1 hd1
    · rename_i hne
      refine wp_block (aexec_sound b h c a hst hi hr _ fun c1 a1 hst1 hi1 hs1 hr1 hd1 => ?_)
      have := hn c1 a1 hst1 hi1 hs1 hr1 hd1
      cases ex with
      | normal => exact this
      | exit i => exact absurd h (hne i _ _)
      | ret => exact this
  | .loop b, tm, st, ex, tm', st', h, c, a, hst, hi, hr, Q, hn => by
    subst hst
    simp only [aexec] at h
    obtain ⟨c0, hw0, hst0, hi0, hs0, hr0⟩ := hints_ok (tb := E.tb) (E.preL fid (firstReg b)) hi hr
    rw [← hw0]
    rw [← hst0] at h
    unfold leave at h
    split at h
    · rename_i ex0 tm0 st0 h0
      simp only [Option.some.injEq, Prod.mk.injEq] at h
      obtain ⟨rfl, rfl, rfl⟩ := h
      have hlen : (c0.cut c0.st.length).st.length = c0.st.length := by simp [Cx.cut, Abs.cut]
      refine LoopWp.loop ?_
      have := iter_sound hT hcall (fun {tm st ex tm' st'} hb c a => aexec_sound b hb c a) lf (c0.cut c0.st.length) a hi0.cut (kill_reps 0 hr0) (by rw [hlen]; exact h0) Q fun c3 a3 hst3 hi3 hs3 hr3 hd3 => by
        have hs4 : Step c0 c3 := (Step.refl c0).cut.trans hs3 hi0.cut.minelt
        exact hn (c3.cut c0.st.length) a3 (by simp [Cx.cut, hst3]) hi3.cut (hs0.trans hs4.cut hi0.minelt) (kill_reps 0 hr3) hd3
      exact this
    · cases h
  | .exit i, tm, st, ex, tm', st', h, c, a, hst, hi, hr, Q, hn => by
    simp only [aexec, Option.some.injEq, Prod.mk.injEq] at h
    obtain ⟨rfl, rfl, rfl⟩ := h
    exact wp_exit (hn c a hst hi (Step.refl c) hr rfl)
  | .ret, tm, st, ex, tm', st', h, c, a, hst, hi, hr, Q, hn => by
    simp only [aexec, Option.some.injEq, Prod.mk.injEq] at h
    obtain ⟨rfl, rfl, rfl⟩ := h
    exact wp_ret (hn c a hst hi (Step.refl c) hr rfl)
  | .rangeFunc .., tm, st, ex, tm', st', h, c, a, hst, hi, hr, Q, hn => by simp [aexec] at h
  | .scope _, tm, st, ex, tm', st', h, c, a, hst, hi, hr, Q, hn => by simp [aexec] at h
  | .label _, tm, st, ex, tm', st', h, c, a, hst, hi, hr, Q, hn => by simp [aexec] at h
  | .goto _, tm, st, ex, tm', st', h, c, a, hst, hi, hr, Q, hn => by simp [aexec] at h
  | .refuse _, tm, st, ex, tm', st', h, c, a, hst, hi, hr, Q, hn => by simp [aexec] at h

omit hcf hmix in
theorem aresults_sound {c : Cx} (hi : Inv c) {tm : List AV} {tmps : Array Value} (hr : Reps c tm tmps.toList) : ∀ {rs : List ResultVar} {vs : List AV}, rs.mapM (aresult E.tb c.st tm) = some vs →
    ∃ us : List Value, (rs.mapM fun | .tmp t => pure (tmps.getD t undef) | .cell a t => do loadVar t (← asAddr (tmps.getD a undef)) : Sem (List Value)).run P c.w = .ok us c.w ∧ Reps c vs us
  | [], vs, h => by simp at h; subst h; exact ⟨[], by simp, .nil⟩
  | x :: rs, vs, h => by
    simp only [List.mapM_cons, Option.bind_eq_bind, Option.pure_def] at h
    cases h1 : aresult E.tb c.st tm x with
    | none => simp [h1] at h
    | some a =>
      cases h2 : rs.mapM (aresult E.tb c.st tm) with
      | none => simp [h1, h2] at h
      | some as =>
        simp [h1, h2] at h
        subst h
        obtain ⟨us, hus, hrs⟩ := aresults_sound hi hr h2
        have hget : ∀ t, Rep c (tm.getD t .bad) (tmps.getD t undef) := fun t => by
          have := aeval_rep (a := { tmps := tmps, defers := [] }) hr (.tmp t)
          simpa [aeval, Act.eval] using this
        cases x with
        | tmp t =>
          simp only [aresult, Option.some.injEq] at h1
          subst h1
          refine ⟨tmps.getD t undef :: us, ?_, .cons _ _ _ _ (hget t) hrs⟩
          simp only [List.mapM_cons, Sem.run_bind, Sem.run_pure, Result.andThen_ok, hus]
        | cell p t =>
          simp only [aresult] at h1
          have hp := hget p
          obtain ⟨u, hu, hru⟩ := run_aload hT hi hp h1
          have hptr : ∃ ad, tmps.getD p undef = .pointer (some ad) := by
            unfold aload at h1
            split at h1
            · rename_i i cs off ht hrow
              obtain ⟨base, vs, hv, _⟩ := row_cells hi hp hrow
              exact ⟨_, hv⟩
            · cases h1
          obtain ⟨ad, had⟩ := hptr
          rw [had] at hu
          refine ⟨u :: us, ?_, .cons _ _ _ _ hru hrs⟩
          simp only [Instr.loadAt, Instr.sureAddr, Sem.run_bind, Sem.run_pure, Result.andThen_ok] at hu
          have hasa : (asAddr (tmps.getD p undef)).run P c.w = .ok ad c.w := by rw [had]; rfl
          simp only [List.mapM_cons, Sem.run_bind, hasa, Result.andThen_ok, hu, hus, Sem.run_pure]

end

structure EnvOk (P : Program) (E : Env) : Prop where
  tb : TbOk P E.tb
  mixed : P.follows .mixedOrders = true
  fn : ∀ f fn, E.fn f = some fn → P.funcs[f]? = some fn ∧ (fn.name == "runtime.NumGoroutine") = false
  ext : ∀ f g args r, E.ext f = some g → g args = some r → ∀ (c : Cx) (vs : Array Value), Inv c → pureL args = true → Reps c args vs.toList →
    (∀ w : World, (callFunc f vs).run P w = .ok (.enter f vs) w) ∧
    Calls P f vs c.w fun e w' => ∃ c' v, e = .returned v ∧ c'.w = w' ∧ c'.st = c.st ∧ Inv c' ∧ Step c c' ∧ Rep c' r v

theorem callFunc_enter {P : Program} {f : FuncId} {fn : Func} {code : Code} (hf : P.funcs[f]? = some fn) (hname : (fn.name == "runtime.NumGoroutine") = false) (hb : fn.body = some code) (args : Array Value) (w : World) :
    (callFunc f args).run P w = .ok (.enter f args) w := by
  have hn : fn.name ≠ "runtime.NumGoroutine" := by simpa using hname
  simp [callFunc, hf, hn, hb]

theorem abody_sound {P : Program} {E : Env} (hE : EnvOk P E) {call : Caller} (hcall : CallOk P call) (hcf : CallFree E call) {lf : Nat} {f : FuncId} {fn : Func} (hfn : E.fn f = some fn) {args : List AV} {st : Store} {r : AV} {st' : Store}
    (h : abody E call lf f fn args st = some (r, st')) (c : Cx) (vs : Array Value) (hi : Inv c) (hst : c.st = st) (hr : Reps c args vs.toList) :
    (∀ w : World, (callFunc f vs).run P w = .ok (.enter f vs) w) ∧ Calls P f vs c.w fun e w' => ∃ c' v, e = .returned v ∧ c'.w = w' ∧ c'.st = st' ∧ Inv c' ∧ Step c c' ∧ Rep c' r v := by
  obtain ⟨hf, hname⟩ := hE.fn f fn hfn
  unfold abody at h
  split at h
  · cases h
  · rename_i code hb
    refine ⟨callFunc_enter hf hname hb vs, ?_⟩
    have hlen := hr.length
    simp only [Array.length_toList] at hlen
    have htm : Reps c (args ++ List.replicate (fn.ntmps - args.length) .bad) (vs ++ Array.replicate (fn.ntmps - vs.size) undef).toList := by
      rw [Array.toList_append, Array.toList_replicate, hlen]
      exact hr.append (Reps.replicate (.bad undef) _)
    have key : ∀ ex, (ex = .normal ∨ ex = .ret) → ∀ tm st2, aexec E call f lf code (args ++ List.replicate (fn.ntmps - args.length) .bad) st = some (ex, tm, st2) → (aresults E.tb st2 tm fn.results.toList).map (·, st2) = some (r, st') →
        Calls P f vs c.w fun e w' => ∃ c' v, e = .returned v ∧ c'.w = w' ∧ c'.st = st' ∧ Inv c' ∧ Step c c' ∧ Rep c' r v := by
      intro ex hex tm st2 hx hres
      obtain ⟨h1, rfl⟩ := map_some_pair hres
      refine calls_of_wp hf hb (aexec_sound hE.tb hcall hcf hE.mixed code hx c { tmps := vs ++ Array.replicate (fn.ntmps - vs.size) undef, defers := [] } hst hi htm _ fun c1 a1 hst1 hi1 hs1 hr1 hd1 => ?_)
      have goal : a1.defers = [] ∧ ∃ v, (results fn a1.tmps).run P c1.w = .ok v c1.w ∧ ∃ c' v', Ending.returned v = .returned v' ∧ c'.w = c1.w ∧ c'.st = st' ∧ Inv c' ∧ Step c c' ∧ Rep c' r v' := by
        refine ⟨hd1, ?_⟩
        unfold aresults at h1
        rw [← hst1] at h1
        cases hm : fn.results.toList.mapM (aresult E.tb c1.st tm) with
        | none => simp [hm] at h1
        | some rs =>
          obtain ⟨us, hus, hru⟩ := aresults_sound hE.tb hcall hi1 hr1 hm
          have hrun : (results fn a1.tmps).run P c1.w = .ok (if h : us.toArray.size = 1 then us.toArray[0] else .tuple us.toArray) c1.w := by
            unfold results
            rw [Sem.run_bind, Array.mapM_eq_mapM_toList, Sem.run_map]
            erw [hus]
            rfl
          refine ⟨_, hrun, c1, _, rfl, rfl, hst1, hi1, hs1, ?_⟩
          rw [hm] at h1
          cases hru with
          | nil => simp only [Option.some.injEq] at h1; subst h1; exact .tup _ _ .nil
          | cons a u as us ha hl =>
            cases hl with
            | nil => simp only [Option.some.injEq] at h1; subst h1; exact ha
            | cons b w bs ws hb2 hl2 =>
              simp only [Option.some.injEq] at h1
              subst h1
              rw [dif_neg (by simp)]
              exact .tup _ _ (.cons _ _ _ _ ha (.cons _ _ _ _ hb2 hl2))
      rcases hex with rfl | rfl
      · exact goal
      · exact goal
    split at h
    · rename_i tm st2 hx
      exact key .normal (.inl rfl) tm st2 hx h
    · rename_i tm st2 hx
      exact key .ret (.inr rfl) tm st2 hx h
    · cases h

theorem acall_sound {P : Program} {E : Env} (hE : EnvOk P E) : ∀ k, CallOk P (acall E k)
  | 0 => fun f args st r st' h => by simp [acall] at h
  | k + 1 => fun f args st r st' h c vs hi hst hr => by
    have ih := acall_sound hE k
    simp only [acall] at h
    split at h
    · rename_i g hg
      split at h
      · rename_i hp
        split at h
        · rename_i r2 hr2
          split at h
          · simp only [Option.some.injEq, Prod.mk.injEq] at h
            obtain ⟨rfl, rfl⟩ := h
            rw [← hst]
            exact hE.ext f g (scrubL 0 args) r2 hg hr2 c vs hi (scrubL_pure' 0 args hp) hr.scrub
          · cases h
        · cases h
      · cases h
    · split at h
      · cases h
      · rename_i fn hfn
        split at h
        · exact abody_sound hE ih (acall_free E k) hfn h c vs hi hst hr
        · split at h
          · rename_i hp
            split at h
            · rename_i r2 st2 hb
              split at h
              · rename_i hpr
                simp only [Option.some.injEq, Prod.mk.injEq] at h
                obtain ⟨rfl, rfl⟩ := h
                -- alone, in the empty store
                let c0 : Cx := { w := c.w, fz := c.fz, st := [], io := c.io }
                have hm0 : ∀ k, ¬ c0.mine k := fun k ⟨id, hl, _⟩ => by simp [c0, Cx.live, Cx.ver] at hl
                have hi0 : Inv c0 := ⟨hi.fzlt, fun id o ho => by simp [c0] at ho, fun k hk => (hm0 k hk).elim, fun i j k h1 => by simp [c0, Cx.live, Cx.ver] at h1, fun k hk => (hm0 k hk).elim, hi.gl⟩
                have hf0 : Fr c c0 := ⟨fun _ h => h, fun _ _ => rfl⟩
                obtain ⟨he, hc⟩ := abody_sound hE ih (acall_free E k) hfn hb c0 vs hi0 rfl (hr.fr hf0 hp).scrub
                refine ⟨he, hc.mono fun e w' hh => ?_⟩
                obtain ⟨c1, v, rfl, rfl, hst1, hi1, hs1, hr1⟩ := hh
                have hr2 := hr1.frz (n0 := 0) hi1 frzFuel
                rw [hst1] at hr2
                let c2 : Cx := { w := c1.w, fz := (c1.cut 0).fz, st := c.st, io := c.io }
                have hcut : Step c0 (c1.cut 0) := hs1.cut (c0 := c0)
                have hs2 : Step c c2 :=
                  { os := hcut.os, tape := hcut.tape, output := hcut.output, size := hcut.size, heap := fun k hk _ => hcut.heap k hk (hm0 k), fz := hcut.fz,
                    fznew := fun k hk h => (hcut.fznew k hk h).elim .inl (fun h => (hm0 k h).elim), len := Nat.le_refl _, ver := fun id _ v hv => ⟨v, hv, Nat.le_refl _, fun _ => rfl⟩,
                    arr := fun id _ e k v n cs hc _ => ⟨_, _, _, hc⟩, mine := fun k hk => .inl hk }
                have hi2 : Inv c2 :=
                  { fzlt := hi1.cut.fzlt,
                    good := fun id o ho => by
                      cases hv : o.ver? with
                      | none => exact dead_good hv
                      | some v => exact Good.keep hs2 hi (hi.good id o ho) rfl fun g hb => hcut.heap g (hi.minelt g ⟨id, by
                          have : c.st[id]? = some o := ho
                          simp [Cx.live, Cx.ver, this, hv], hb⟩) (hm0 g)
                    apart := fun k hk hf => by
                      have hk' : c.mine k := hk
                      exact (hcut.fznew k (hi.minelt k hk') hf).elim (hi.apart k hk') (fun h => hm0 k h),
                    sep := hi.sep, minelt := fun k hk => Nat.lt_of_lt_of_le (hi.minelt k hk) hcut.size, gl := gl_step hs2 hi }
                refine ⟨c2, v, rfl, rfl, hst, hi2, hs2, Rep.fr (c := c1.cut 0) (c' := c2) ⟨fun _ h => h, fun _ _ => rfl⟩ hr2 hpr⟩
              · cases h
            · cases h
          · split at h
            · rename_i r2 st2 hb
              simp only [Option.some.injEq, Prod.mk.injEq] at h
              obtain ⟨rfl, rfl⟩ := h
              subst hst
              obtain ⟨he, hc⟩ := abody_sound hE ih (acall_free E k) hfn hb c vs hi rfl hr.scrub
              refine ⟨he, hc.mono fun e w' hh => ?_⟩
              obtain ⟨c1, v, rfl, rfl, hst1, hi1, hs1, hr1⟩ := hh
              have hr2 := hr1.frz (n0 := c.st.length) hi1 frzFuel
              rw [hst1] at hr2
              exact ⟨c1.cut c.st.length, v, rfl, rfl, by simp [Cx.cut, hst1], hi1.cut, hs1.cut, hr2⟩
            · cases h

end Go.Abs
