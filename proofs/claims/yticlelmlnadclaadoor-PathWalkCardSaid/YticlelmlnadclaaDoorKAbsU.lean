/-
  Small rules that the printed proofs use. Lemmas alone; no condition.
-/
import Derived.Test.YticlelmlnadclaaDoorKAbsT
set_option linter.unusedVariables false
set_option linter.unusedSimpArgs false
set_option linter.unusedSectionVars false
set_option linter.unnecessarySimpa false
set_option linter.deprecated false
namespace Go.Abs
open Go

theorem bool_cases (b : Bool) : b = true ∨ b = false := by cases b <;> simp
theorem ne_true {b : Bool} (h : b = false) : ¬ b = true := by simp [h]

section
variable {E : Env} {f : FuncId} {ops : Array Oper} {Q : Option (List AV × Store) → Prop} {i : Nat} {tm : List AV} {st : Store} {cs : List Cls}

theorem JS_val (F : Store → Option AV) {v : AV} (h : aopN E f ops i tm st = (F st).map fun r => (r, st)) (h1 : F st = some v) (h2 : JS E f ops Q (i + 1) (aput tm (dstN ops i) v) st) : JS E f ops Q i tm st :=
  JS_fact h (pair_some st h1) h2
theorem JS_upd (F : Store → ARes) {v : AV} {st' : Store} (h : aopN E f ops i tm st = F st) (h1 : F st = some (v, st')) (h2 : JS E f ops Q (i + 1) (aput tm (dstN ops i) v) st') : JS E f ops Q i tm st :=
  JS_fact h h1 h2
theorem JS_set (F : Store → Option Store) {st' : Store} (h : aopN E f ops i tm st = (F st).map fun r => (AV.bad, r)) (h1 : F st = some st') (h2 : JS E f ops Q (i + 1) (aput tm (dstN ops i) .bad) st') : JS E f ops Q i tm st :=
  JS_fact h (bad_some h1) h2
theorem JS_cast {tm' : List AV} {st' : Store} (h1 : tm = tm') (h2 : st = st') (h : JS E f ops Q i tm' st') : JS E f ops Q i tm st := by subst h1 h2; exact h
theorem JD_cast {tm' : List AV} {st' : Store} (h1 : tm = tm') (h2 : st = st') (h : JD E f ops Q i cs tm' st') : JD E f ops Q i cs tm st := by subst h1 h2; exact h

theorem JD_val (F : Store → Option AV) {v : AV} {c : Cls} (h : aopN E f ops i tm st = (F st).map fun r => (r, st)) (h1 : F st = some v) (hc : clsN E f ops i tm = c) (h2 : JD E f ops Q (i + 1) (cs ++ [c]) (aput tm (dstN ops i) v) st) : JD E f ops Q i cs tm st :=
  JD_fact h (pair_some st h1) hc h2
theorem JD_upd (F : Store → ARes) {v : AV} {st' : Store} {c : Cls} (h : aopN E f ops i tm st = F st) (h1 : F st = some (v, st')) (hc : clsN E f ops i tm = c) (h2 : JD E f ops Q (i + 1) (cs ++ [c]) (aput tm (dstN ops i) v) st') : JD E f ops Q i cs tm st :=
  JD_fact h h1 hc h2
theorem JD_set (F : Store → Option Store) {st' : Store} {c : Cls} (h : aopN E f ops i tm st = (F st).map fun r => (AV.bad, r)) (h1 : F st = some st') (hc : clsN E f ops i tm = c) (h2 : JD E f ops Q (i + 1) (cs ++ [c]) (aput tm (dstN ops i) .bad) st') : JD E f ops Q i cs tm st :=
  JD_fact h (bad_some h1) hc h2
/-- the state, written out -/
theorem JD_seg (cs' : List Cls) (tm' : List AV) (st' : Store) (h0 : cs = cs') (h1 : tm = tm') (h2 : st = st') (h : JD E f ops Q i cs' tm' st') : JD E f ops Q i cs tm st := by subst h0 h1 h2; exact h
end

theorem cls_if {p : Bool} (h : p = true) : (if p = true then Cls.free else Cls.writes) = .free := if_pos h

/-! ## lists, element by element -/
def mask (live : List Nat) : Nat → List AV → List AV
  | _, [] => []
  | i, v :: l => (if live.contains i then v else .bad) :: mask live (i + 1) l

theorem kill_mask (live : List Nat) (n0 : Nat) : ∀ (l : List AV) (i : Nat), kill live n0 i l = (mask live i l).map (·.scrub n0)
  | [], _ => rfl
  | v :: l, i => by
    simp only [kill, mask, List.map_cons, kill_mask live n0 l]
    split <;> rfl

/-- a run of values that are not known -/
def bz : Nat → List AV → List AV
  | 0, l => l
  | n + 1, l => .bad :: bz n l

theorem kill_go {live : List Nat} {n0 : Nat} {tm mid T : List AV} (h1 : mask live 0 tm = mid) (h2 : mid.map (·.scrub n0) = T) : kill live n0 0 tm = T := by
  rw [kill_mask, h1, h2]

theorem cut_go {n0 : Nat} {st mid T : Store} (h1 : st.take n0 = mid) (h2 : mid.map (·.scrub n0) = T) : cut n0 st = T := by
  unfold cut
  rw [h1, h2]

section
variable {n0 k : Nat} {st : Store} {a b : AV} {l l' : List AV} {o o' : AObj} {s s' : Store}
theorem mN : ([] : List AV).map (·.scrub n0) = [] := rfl
theorem mC (h1 : a.scrub n0 = b) (h2 : l.map (·.scrub n0) = l') : (a :: l).map (·.scrub n0) = b :: l' := by rw [List.map_cons, h1, h2]
theorem mB (h2 : l.map (·.scrub n0) = l') : (AV.bad :: l).map (·.scrub n0) = .bad :: l' := by rw [List.map_cons, h2]; rfl
theorem mZ (n : Nat) (h2 : l.map (·.scrub n0) = l') : (bz n l).map (·.scrub n0) = bz n l' := by
  induction n with
  | zero => exact h2
  | succ n ih => exact mB ih
theorem oN : ([] : Store).map (·.scrub n0) = [] := rfl
theorem oC (h1 : o.scrub n0 = o') (h2 : s.map (·.scrub n0) = s') : (o :: s).map (·.scrub n0) = o' :: s' := by rw [List.map_cons, h1, h2]
theorem oB {t : TypeId} (h : scrubL n0 l = l') : (AObj.box t l).scrub n0 = .box t l' := by rw [AObj.scrub, h]
theorem lN : scrubL n0 [] = [] := rfl
theorem lC (h1 : a.scrub n0 = b) (h2 : scrubL n0 l = l') : scrubL n0 (a :: l) = b :: l' := by rw [scrubL, h1, h2]
theorem sAgg (h : scrubL n0 l = l') : (AV.agg l).scrub n0 = .agg l' := by rw [AV.scrub, h]
theorem sTup (h : scrubL n0 l = l') : (AV.tup l).scrub n0 = .tup l' := by rw [AV.scrub, h]
theorem sFn {g : FuncId} (h : scrubL n0 l = l') : (AV.fn g l).scrub n0 = .fn g l' := by rw [AV.scrub, h]
theorem fN : ([] : List AV).map (frz n0 st k) = [] := rfl
theorem fC (h1 : frz n0 st k a = b) (h2 : l.map (frz n0 st k) = l') : (a :: l).map (frz n0 st k) = b :: l' := by rw [List.map_cons, h1, h2]
theorem fTup (h : l.map (frz n0 st (k + 1)) = l') : frz n0 st (k + 2) (.tup l) = .tup l' := by rw [frz_tup, h]
theorem fAgg (h : l.map (frz n0 st (k + 1)) = l') : frz n0 st (k + 2) (.agg l) = .agg l' := by rw [frz_agg, h]
theorem pN : pureL [] = true := rfl
theorem pC (h1 : a.pure = true) (h2 : pureL l = true) : pureL (a :: l) = true := by rw [pureL, h1, h2]; rfl
theorem nP1 (h : a.pure = false) : pureL (a :: l) = false := by rw [pureL, h]; rfl
theorem nP2 (h : pureL l = false) : pureL (a :: l) = false := by rw [pureL, h]; simp
theorem pAgg (h : pureL l = true) : (AV.agg l).pure = true := h
theorem pTup (h : pureL l = true) : (AV.tup l).pure = true := h
theorem pFn {g : FuncId} (h : pureL l = true) : (AV.fn g l).pure = true := h
end

theorem has_go {n n0 : Nat} {as as1 as' : List AV} (h1 : scrubL n0 as = as1) (h2 : as1 ++ List.replicate (n - as1.length) .bad = as') : scrubL n0 as ++ List.replicate (n - (scrubL n0 as).length) .bad = as' := by rw [h1, h2]

mutual
theorem scrub_twice (n0 m : Nat) : ∀ a : AV, a.pure = true → (a.scrub n0).scrub m = a.scrub n0
  | .sc v, _ => by
    simp only [AV.scrub]
    unfold nilz
    split
    · rfl
    · rename_i hn
      simp only [AV.scrub]
      unfold nilz
      split
      · exact absurd rfl hn
      · rfl
  | .bad, _ => rfl
  | .lst n cs, h => by simp only [AV.pure] at h; simp [AV.scrub, scrubL_twice n0 m cs h]
  | .agg cs, h => by simp only [AV.pure] at h; simp [AV.scrub, scrubL_twice n0 m cs h]
  | .tup cs, h => by simp only [AV.pure] at h; simp [AV.scrub, scrubL_twice n0 m cs h]
  | .fn f cs, h => by simp only [AV.pure] at h; simp [AV.scrub, scrubL_twice n0 m cs h]
  | .ref .., h => by simp [AV.pure] at h
  | .own .., h => by simp [AV.pure] at h
  | .mref .., h => by simp [AV.pure] at h
  | .fp cs off, h => by simp only [AV.pure] at h; simp [AV.scrub, scrubL_twice n0 m cs h]
theorem scrubL_twice (n0 m : Nat) : ∀ l : List AV, pureL l = true → scrubL m (scrubL n0 l) = scrubL n0 l
  | [], _ => rfl
  | a :: l, h => by
    simp only [pureL, Bool.and_eq_true] at h
    simp [scrubL, scrub_twice n0 m a h.1, scrubL_twice n0 m l h.2]
end

/-- nil slices that are handed in are told as empty ones -/
theorem fcall_nil {E : Env} {g : FuncId} {args args' : List AV} {st : Store} {x : ARes} (h : scrubL 0 args = args') (hp : pureL args = true) (hk : E.keep g = false) (hx : fcall E g args' st = x) : fcall E g args st = x := by
  rw [← hx, ← h]
  have hp' := scrubL_pure' 0 args hp
  cases hg : E.ext g with
  | none =>
    cases hf : E.fn g with
    | none =>
      have key : ∀ as, fcall E g as st = none := fun as => by
        have : ∀ r, ¬ fcall E g as st = some r := fun r hr => by
          obtain ⟨n, hn⟩ := fcall_some.1 hr
          cases n with
          | zero => simp [acall] at hn
          | succ n => simp [acall, hg, hf] at hn
        cases h : fcall E g as st with
        | none => rfl
        | some r => exact absurd h (this r)
      rw [key, key]
    | some fn =>
      rw [fcall_eq hg hf, fcall_eq hg hf, hk, hp, hp', scrubL_twice 0 0 args hp]
      simp only [Bool.false_eq_true, if_false, if_true]
  | some q =>
    apply Option.ext
    intro r
    rw [fcall_some, fcall_some]
    constructor
    · rintro ⟨n, hn⟩
      cases n with
      | zero => simp [acall] at hn
      | succ n => exact ⟨n + 1, by simpa [acall, hg, hp, hp', scrubL_twice 0 0 args hp] using hn⟩
    · rintro ⟨n, hn⟩
      cases n with
      | zero => simp [acall] at hn
      | succ n => exact ⟨n + 1, by simpa [acall, hg, hp, hp', scrubL_twice 0 0 args hp] using hn⟩

open Classical in
/-- what a function with a limit on its depth comes to -/
noncomputable def limF {α : Type} (s : Nat → Option α) : Option α := if h : ∃ r n, ∀ k, n ≤ k → s k = some r then some (Classical.choose h) else none

theorem limF_some {α : Type} {s : Nat → Option α} {r : α} (h : limF s = some r) : ∃ k, s k = some r := by
  unfold limF at h
  split at h
  · rename_i hh
    obtain ⟨n, hn⟩ := Classical.choose_spec hh
    simp only [Option.some.injEq] at h
    exact ⟨n, by rw [← h]; exact hn n (Nat.le_refl _)⟩
  · cases h

theorem limF_eq {α : Type} {s : Nat → Option α} {r : α} (n : Nat) (h : ∀ k, n ≤ k → s k = some r) : limF s = some r := by
  have hh : ∃ r n, ∀ k, n ≤ k → s k = some r := ⟨r, n, h⟩
  unfold limF
  rw [dif_pos hh]
  obtain ⟨m, hm⟩ := Classical.choose_spec hh
  have h1 := hm (max m n) (Nat.le_max_left _ _)
  have h2 := h (max m n) (Nat.le_max_right _ _)
  rw [h1] at h2
  exact h2

theorem ext_call {E : Env} {g : FuncId} {F : List AV → Option AV} {args args' : List AV} {r : AV} {st : Store} (hg : E.ext g = some F) (hp : pureL args = true) (hs : scrubL 0 args = args') (hr : F args' = some r) (hpr : r.pure = true) : fcall E g args st = some (r, st) :=
  fcall_ext hg hp (by rw [hs]; exact hr) hpr

/-! ## more operations -/

/-- a byte's text -/
def text (l : List Int) : Str := l.map fun n => UInt8.ofNat n.toNat
def bytes? (s : Str) : Option (List Int) := if s.length ≤ 140737488355328 then some (s.map fun b => (b.toNat : Int)) else none
/-- a new list of so many -/
def mk? {α : Type} (bytes : Nat) (z : α) (n : Int) : Option (List α) := if 0 ≤ n ∧ n ≤ 140737488355328 ∧ n.toNat * bytes ≤ 140737488355328 then some (List.replicate n.toNat z) else none
def bitw (k : IntKind) {n : Nat} (b : BitVec n) : Int := k.wrap b.toNat

def atext (tb : Tb) (st : Store) (s d : TypeId) (x : AV) : Option AV :=
  match tb s, tb d with
  | some i, some j => match i.kind, j.kind with
    | .slice e, .str => match tb e with
      | some q => match q.kind with
        | .int .u8 => match sliceOf 1 st x with
          | some (_, cs) => (bytesOfCells cs).map fun l => .sc (.string ⟨l.toArray⟩)
          | none => none
        | _ => none
      | none => none
    | _, _ => none
  | _, _ => none

def amake (tb : Tb) (st : Store) (t : TypeId) (l c : AV) : ARes :=
  match tb t, l, c with
  | some i, .sc (.int _ n), .sc (.int _ m) => match i.kind with
    | .slice e => match tb e with
      | some q =>
        if 0 ≤ n ∧ n = m ∧ n ≤ 140737488355328 ∧ n.toNat * q.bytes ≤ maxBytes ∧ q.size ≠ 0 then
          some (.own st.length 0 0 n.toNat, st ++ [.arr e q.size 0 n.toNat (List.replicate n.toNat q.zero).flatten])
        else none
      | none => none
    | _ => none
  | _, _, _ => none

theorem bytes_flat : ∀ l : List Int, bytesOfCells (l.flatMap (tI .u8).cells) = some (text l)
  | [] => rfl
  | x :: l => by
    show (bytesOfCells (l.flatMap (tI .u8).cells)).map _ = _
    rw [bytes_flat l]
    rfl

section
variable {tb : Tb} {st : Store} {s d e : TypeId} {i j q : TInfo} {id ver : Nat} {l : List Int}

theorem text_of {x : AV} (hs : tb s = some i) (hi : i.kind = .slice e) (hd : tb d = some j) (hj : j.kind = .str) (he : tb e = some q) (hq : q.kind = .int .u8) {n : Nat} (hx : sliceOf 1 st x = some (n, l.flatMap (tI .u8).cells)) : atext tb st s d x = some (strV (text l)) := by
  unfold atext
  simp only [hs, hd, hi, hj, he, hq, hx, bytes_flat]
  rfl

theorem sl_text (hs : tb s = some i) (hi : i.kind = .slice e) (hd : tb d = some j) (hj : j.kind = .str) (he : tb e = some q) (hq : q.kind = .int .u8) : atext tb st s d ((tI .u8).sl l) = some (strV (text l)) :=
  text_of hs hi hd hj he hq (sl_slice (tI .u8) l)
theorem own_text (hs : tb s = some i) (hi : i.kind = .slice e) (hd : tb d = some j) (hj : j.kind = .str) (he : tb e = some q) (hq : q.kind = .int .u8) (h : st[id]? = some ((tI .u8).arr e ver l)) : atext tb st s d ((tI .u8).own id ver l) = some (strV (text l)) :=
  text_of hs hi hd hj he hq (own_slice (tI .u8) h)
theorem nil_text (hs : tb s = some i) (hi : i.kind = .slice e) (hd : tb d = some j) (hj : j.kind = .str) (he : tb e = some q) (hq : q.kind = .int .u8) : atext tb st s d (.sc (.slice none 0 0)) = some (strV (text [])) :=
  text_of (l := []) hs hi hd hj he hq (n := 0) rfl

theorem to_bytes {x : Str} {r : List Int} (hs : tb s = some i) (hi : i.kind = .str) (hd : tb d = some j) (hj : j.kind = .slice e) (he : tb e = some q) (hq : q.kind = .int .u8) (hr : bytes? x = some r) : aconvert tb s d (strV x) = some ((tI .u8).sl r) := by
  unfold bytes? at hr
  split at hr
  · rename_i hl
    simp only [Option.some.injEq] at hr
    subst hr
    unfold aconvert strV
    simp only [hs, hd, hi, hj, he, hq]
    have h2 : (⟨⟨x⟩⟩ : ByteArray).size ≤ maxBytes := hl
    rw [if_pos h2]
    congr 1
    unfold Ty.sl
    rw [List.length_map, List.flatMap_map]
    show AV.lst x.length (x.map _) = _
    congr 1
    clear h2 hl
    induction x with
    | nil => rfl
    | cons b x ih => rw [List.map_cons, List.flatMap_cons, ih]; rfl
  · cases hr

variable {α : Type} (T : Ty α) {t u e' : TypeId} {iu : TInfo} {r y la : List α} {bytes : Nat} {x : AV} {ts : List TypeId} {xs : List AV}

theorem app_of {o : ARes} {sv : AV} (ht : tb t = some i) (hk : i.kind = .slice e) (hu : tb u = some iu) (hku : iu.kind = .slice e') (he : tb e = some q) (hs : q.size = T.size) (hx : sliceOf T.size st x = some (y.length, y.flatMap T.cells))
    (h : aappend tb st e sv (y.length, y.flatMap T.cells) = o) : abuiltin tb st .append (t :: u :: ts) (sv :: x :: xs) = o := by
  unfold abuiltin
  simp only [ht, hu, hk, hku, he, hs, hx]
  exact h

theorem app_own (ht : tb t = some i) (hk : i.kind = .slice e) (hu : tb u = some iu) (hku : iu.kind = .slice e') (he : tb e = some q) (hs : q.size = T.size) (hb : q.bytes = bytes) (hz : T.size ≠ 0) (hz2 : bytes ≠ 0) (h : st[id]? = some (T.arr e ver la))
    (hx : sliceOf T.size st x = some (y.length, y.flatMap T.cells)) (hr : app? bytes la y = some r) : abuiltin tb st .append (t :: u :: ts) (T.own id ver la :: x :: xs) = some (T.own id (ver + 1) r, st.set id (T.arr e (ver + 1) r)) :=
  app_of T ht hk hu hku he hs hx (own_app T he hs hb hz hz2 h hr)

theorem app_nil (ht : tb t = some i) (hk : i.kind = .slice e) (hu : tb u = some iu) (hku : iu.kind = .slice e') (he : tb e = some q) (hs : q.size = T.size) (hb : q.bytes = bytes) (hz : T.size ≠ 0) (hz2 : bytes ≠ 0) (hy : (decide (y.length = 0)) = false)
    (hx : sliceOf T.size st x = some (y.length, y.flatMap T.cells)) (hr : app? bytes [] y = some r) : abuiltin tb st .append (t :: u :: ts) (.sc (.slice none 0 0) :: x :: xs) = some (T.own st.length 0 r, st ++ [T.arr e 0 r]) :=
  app_of T ht hk hu hku he hs hx (nil_app T he hs hb hz hz2 hy hr)

theorem nil_slice {k : Nat} : sliceOf k st (.sc (.slice none 0 0)) = some (([] : List α).length, ([] : List α).flatMap T.cells) := rfl

theorem make_own {z : α} {n : Int} {kd kd' : IntKind} {l : List α} (ht : tb t = some i) (hk : i.kind = .slice e) (he : tb e = some q) (hs : q.size = T.size) (hb : q.bytes = bytes) (hz : T.size ≠ 0) (hc : q.zero = T.cells z) (hr : mk? bytes z n = some l) :
    amake tb st t (.sc (.int kd n)) (.sc (.int kd' n)) = some (T.own st.length 0 l, st ++ [T.arr e 0 l]) := by
  unfold mk? at hr
  split at hr
  · rename_i hh
    simp only [Option.some.injEq] at hr
    subst hr
    unfold amake
    simp only [ht, hk, he, hb]
    rw [if_pos ⟨hh.1, trivial, hh.2.1, hh.2.2, by rw [hs]; exact hz⟩, hs, hc]
    unfold Ty.own Ty.arr
    simp [List.flatMap_replicate]
  · cases hr

theorem own_set {id ver : Nat} {l : List α} (i : Nat) (y : α) : T.own id ver l = T.own id ver (l.set i y) := by
  unfold Ty.own
  rw [List.length_set]

theorem frz_own_old {n0 k : Nat} {id ver : Nat} {l : List α} (h : (decide (id < n0)) = true) : frz n0 st (k + 1) (T.own id ver l) = T.own id ver l := by
  unfold Ty.own frz
  simp only [AV.pure, Bool.false_eq_true, if_false]
  rw [if_pos (by simpa using h)]

end

end Go.Abs
