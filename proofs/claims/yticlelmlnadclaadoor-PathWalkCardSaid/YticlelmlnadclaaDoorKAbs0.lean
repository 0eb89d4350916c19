/-
  The abstract evaluator: values without memory (slices as lists), a small store of boxes and owned arrays, and a run of the model's Code over them. Definitions alone; no condition.
-/
import Derived.Calls
import Derived.Maps.AppendAt
import Derived.Test.YticlelmlnadclaaDoorKAbsG
set_option linter.unusedVariables false
set_option linter.unusedSimpArgs false
set_option linter.unusedSectionVars false
set_option linter.unnecessarySimpa false
set_option linter.deprecated false
namespace Go.Abs

inductive AV where
  | sc (v : Value)
  | bad
  | lst (n : Nat) (cs : List AV)
  | agg (cs : List AV)
  | tup (vs : List AV)
  | fn (f : FuncId) (caps : List AV)
  | ref (id ver off : Nat)
  | own (id ver off len : Nat)
  | mref (id : Nat)
  | fp (cs : List AV) (off : Nat)
  deriving Inhabited

inductive AObj where
  | box (t : TypeId) (cs : List AV)
  | arr (e : TypeId) (k ver n : Nat) (cs : List AV)
  | mp (es : List (Value × AV))
  | dead
  deriving Inhabited

abbrev Store := List AObj

def AObj.ver? : AObj → Option Nat
  | .box _ _ => some 0
  | .arr _ _ v _ _ => some v
  | .mp _ => some 0
  | .dead => none

/-- values without any address: equal in every world -/
def plainV : Value → Bool
  | .bool _ | .int _ _ | .string _ | .nilIface | .nilFunc => true
  | .pointer none | .slice none 0 0 | .map none => true
  | .iface _ (.int _ _) => true
  | _ => false

mutual
def AV.pure : AV → Bool
  | .sc _ | .bad => true
  | .lst _ cs => pureL cs
  | .agg cs => pureL cs
  | .tup vs => pureL vs
  | .fn _ caps => pureL caps
  | .ref .. | .own .. | .mref _ => false
  | .fp cs _ => pureL cs
def pureL : List AV → Bool
  | [] => true
  | a :: l => a.pure && pureL l
end

/-- a nil slice is told as an empty one -/
def nilz (v : Value) : AV :=
  match v with
  | .slice none 0 0 => .lst 0 []
  | v => .sc v

/-- the same of one cell -/
def nil1 : AV → AV
  | .sc v => nilz v
  | v => v

mutual
/-- what points to objects from n0 on is forgotten; nil slices are told as empty ones -/
def AV.scrub (n0 : Nat) : AV → AV
  | .sc v => nilz v
  | .bad => .bad
  | .lst n cs => .lst n (scrubL n0 cs)
  | .agg cs => .agg (scrubL n0 cs)
  | .tup vs => .tup (scrubL n0 vs)
  | .fn f caps => .fn f (scrubL n0 caps)
  | .ref id ver off => if id < n0 then .ref id ver off else .bad
  | .own id ver off len => if id < n0 then .own id ver off len else .bad
  | .mref id => if id < n0 then .mref id else .bad
  | .fp cs off => .fp (scrubL n0 cs) off
def scrubL (n0 : Nat) : List AV → List AV
  | [] => []
  | a :: l => a.scrub n0 :: scrubL n0 l
end

def AObj.scrub (n0 : Nat) : AObj → AObj
  | .box t cs => .box t (scrubL n0 cs)
  | .arr e k v n cs => .arr e k v n (scrubL n0 cs)
  | .mp es => .mp (es.map fun x => (x.1, x.2.scrub n0))
  | .dead => .dead

def cut (n0 : Nat) (st : Store) : Store := (st.take n0).map (·.scrub n0)

/-- a value whose own arrays from n0 on are told as lists -/
def frz (n0 : Nat) (st : Store) : Nat → AV → AV
  | 0, _ => .bad
  | k + 1, v =>
    if v.pure then v.scrub n0 else
    match v with
    | .lst n cs => .lst n (cs.map (frz n0 st k))
    | .agg cs => .agg (cs.map (frz n0 st k))
    | .tup vs => .tup (vs.map (frz n0 st k))
    | .own id ver off len =>
      if id < n0 then v else
      match st[id]? with
      | some (.arr _ sz ver' n cs) => if ver = ver' ∧ off + len ≤ n then .lst len (((cs.drop (off * sz)).take (len * sz)).map (frz n0 st k)) else .bad
      | _ => .bad
    | .ref id _ _ => if id < n0 then v else .bad
    | .mref id => if id < n0 then v else .bad
    | _ => .bad

def AV.cells : AV → List AV
  | .agg cs => cs
  | v => [v]

/-- can it lie in one cell, and is it known? -/
def AV.one : AV → Bool
  | .bad | .agg _ | .tup _ => false
  | _ => true

structure FI where
  off : Nat
  size : Nat
  agg : Bool
  type : TypeId
  blank : Bool

inductive TK where
  | int (k : IntKind) | bool | str | slice (e : TypeId) | struct (fs : List FI) | array (n : Nat) (e : TypeId) | map (k v : TypeId) | ptr (e : TypeId) | func | other

structure TInfo where
  size : Nat
  bytes : Nat
  kind : TK
  zero : List AV
  safe : Bool

def TK.agg : TK → Bool
  | .struct _ | .array _ _ => true
  | _ => false

abbrev Tb := TypeId → Option TInfo

/-- hints at the head of a region or a loop: a nil slice is owned from there on, in a variable or in a cell of a box; an own slice is frozen -/
inductive Hint where
  | ownT (t : Tmp) (e : TypeId)
  | ownC (t : Tmp) (off : Nat) (e : TypeId)
  | frzT (t : Tmp)

structure Env where
  tb : Tb
  fn : FuncId → Option Func
  ext : FuncId → Option (List AV → Option AV)
  keep : FuncId → Bool
  live : FuncId → Nat → List Nat
  liveX : FuncId → Nat → List Nat
  ownNil : FuncId → Nat → Bool
  ownLit : FuncId → Nat → Bool
  preR : FuncId → Nat → List Hint
  preL : FuncId → Nat → List Hint

def aeval (tm : List AV) : Operand → AV
  | .tmp t => tm.getD t .bad
  | .const v => if plainV v then .sc v else .bad
  | .global _ => .bad
  | .func f => .fn f []

def ofCells (agg : Bool) (cs : List AV) (off size : Nat) : Option AV :=
  if agg then (if off + size ≤ cs.length then some (.agg ((cs.drop off).take size)) else none)
  else cs[off]?

/-- a slice's length and its cells -/
def sliceOf (k : Nat) (st : Store) : AV → Option (Nat × List AV)
  | .lst n cs => if n * k = cs.length then some (n, cs) else none
  | .sc (.slice none 0 0) => some (0, [])
  | .own id ver off len =>
    match st[id]? with
    | some (.arr _ k' ver' n cs) => if ver = ver' ∧ k' = k ∧ off + len ≤ n then some (len, (cs.drop (off * k)).take (len * k)) else none
    | _ => none
  | _ => none

def setCells (cs : List AV) (off : Nat) : List AV → List AV
  | [] => cs
  | v :: l => setCells (cs.set off v) (off + 1) l

def lenOf (st : Store) : AV → Option Nat
  | .sc (.string s) => some s.size
  | .sc (.slice none 0 0) => some 0
  | .sc (.map none) => some 0
  | .lst n _ => some n
  | .own id ver off len =>
    match st[id]? with
    | some (.arr _ _ ver' n _) => if ver = ver' ∧ off + len ≤ n then some len else none
    | _ => none
  | .mref id =>
    match st[id]? with
    | some (.mp es) => some es.length
    | _ => none
  | _ => none

def maxBytes : Nat := 140737488355328

def intB (op : BinOp) (k : IntKind) (a b : Int) : Option Value :=
  match op with
  | .add => some (.int k (k.wrap (a + b)))
  | .sub => some (.int k (k.wrap (a - b)))
  | .mul => some (.int k (k.wrap (a * b)))
  | .quo => if b = 0 then none else some (.int k (k.wrap (a.tdiv b)))
  | .rem => if b = 0 then none else some (.int k (a.tmod b))
  | .and => some (.int k (k.wrap (BitVec.ofInt k.bits a &&& BitVec.ofInt k.bits b).toNat))
  | .or => some (.int k (k.wrap (BitVec.ofInt k.bits a ||| BitVec.ofInt k.bits b).toNat))
  | .xor => some (.int k (k.wrap (BitVec.ofInt k.bits a ^^^ BitVec.ofInt k.bits b).toNat))
  | .andNot => some (.int k (k.wrap (BitVec.ofInt k.bits a &&& ~~~ BitVec.ofInt k.bits b).toNat))
  | .eql => some (.bool (a == b))
  | .neq => some (.bool (a != b))
  | .lss => some (.bool (a < b))
  | .leq => some (.bool (a ≤ b))
  | .gtr => some (.bool (a > b))
  | .geq => some (.bool (a ≥ b))
  | _ => none

def strB (op : BinOp) (x y : ByteArray) : Option Value :=
  match op with
  | .add => if x.size + y.size ≤ 9223372036854775807 then some (.string (x ++ y)) else none
  | .eql => some (.bool (x.toList == y.toList))
  | .neq => some (.bool !(x.toList == y.toList))
  | .lss => some (.bool (Op.bytesLess x.toList y.toList))
  | .leq => some (.bool (Op.bytesLess x.toList y.toList || x.toList == y.toList))
  | .gtr => some (.bool !(Op.bytesLess x.toList y.toList || x.toList == y.toList))
  | .geq => some (.bool !(Op.bytesLess x.toList y.toList))
  | _ => none

/-- '==' on values of a type without addresses -/
def eqv (tb : Tb) : Nat → TypeId → AV → AV → Option Bool
  | 0, _, _, _ => none
  | d + 1, t, x, y =>
    match tb t with
    | none => none
    | some i =>
      match i.kind, x, y with
      | .bool, .sc (.bool a), .sc (.bool b) => some (a == b)
      | .int _, .sc (.int k a), .sc (.int k' b) => if k = k' then some (a == b) else none
      | .str, .sc (.string a), .sc (.string b) => some (a == b)
      | .struct fs, .agg xs, .agg ys => if i.safe then eqFs fs xs ys (eqv tb d) else none
      | _, _, _ => none
where
  eqFs (fs : List FI) (xs ys : List AV) (f : TypeId → AV → AV → Option Bool) : Option Bool :=
    match fs with
    | [] => some true
    | g :: r =>
      if g.blank then eqFs r xs ys f else
      match ofCells g.agg xs g.off g.size, ofCells g.agg ys g.off g.size with
      | some a, some b =>
        match f g.type a b with
        | some true => eqFs r xs ys f
        | o => o
      | _, _ => none
/-- the cells behind a pointer, and where it points among them -/
def row (st : Store) : AV → Option (List AV × Nat)
  | .ref id ver off =>
    match st[id]? with
    | some (.box _ cs) => if ver = 0 then some (cs, off) else none
    | some (.arr _ _ ver' _ cs) => if ver = ver' then some (cs, off) else none
    | _ => none
  | .fp cs off => some (cs, off)
  | _ => none

def TK.isPtr : TK → Bool
  | .ptr _ => true
  | _ => false

def abin (tb : Tb) (st : Store) (op : BinOp) (t : TypeId) (x y : AV) : Option AV :=
  match x, y with
  | .sc (.int k a), .sc (.int k' b) =>
    match op with
    | .shl => if b < 0 then none else some (.sc (.int k (k.wrap (a * 2 ^ (min b.toNat k.bits)))))
    | .shr => if b < 0 then none else some (.sc (.int k (a.fdiv (2 ^ (min b.toNat k.bits)))))
    | _ => if k = k' then (intB op k a b).map .sc else none
  | .sc (.string a), .sc (.string b) => (strB op a b).map .sc
  | .sc (.bool a), .sc (.bool b) =>
    match op with
    | .eql => if (tb t).any (fun i => i.kind matches .bool) then some (.sc (.bool (a == b))) else none
    | .neq => if (tb t).any (fun i => i.kind matches .bool) then some (.sc (.bool !(a == b))) else none
    | _ => none
  | .agg xs, .agg ys =>
    match op with
    | .eql => if (tb t).any (·.safe) then (eqv tb 10000 t (.agg xs) (.agg ys)).map fun b => .sc (.bool b) else none
    | .neq => if (tb t).any (·.safe) then (eqv tb 10000 t (.agg xs) (.agg ys)).map fun b => .sc (.bool !b) else none
    | _ => none
  | .ref id ver off, .sc (.pointer none) =>
    if (row st (.ref id ver off)).isSome && (tb t).any (·.kind.isPtr) then
      match op with
      | .eql => some (.sc (.bool false))
      | .neq => some (.sc (.bool true))
      | _ => none
    else none
  | .sc (.pointer none), .sc (.pointer none) =>
    if (tb t).any (·.kind.isPtr) then
      match op with
      | .eql => some (.sc (.bool true))
      | .neq => some (.sc (.bool false))
      | _ => none
    else none
  | _, _ => none

def aconvert (tb : Tb) (src dst : TypeId) (x : AV) : Option AV :=
  match tb src, tb dst with
  | some i, some j =>
    match i.kind, j.kind, x with
    | .int _, .int k, .sc (.int _ n) => some (.sc (.int k (k.wrap n)))
    | .str, .str, .sc (.string s) => some (.sc (.string s))
    | .str, .slice e, .sc (.string s) =>
      match tb e with
      | some q => match q.kind with
        | .int .u8 => if s.size ≤ maxBytes then some (.lst s.size (s.data.toList.map fun b => .sc (.int .u8 b.toNat))) else none
        | _ => none
      | none => none
    | _, _, _ => none
  | _, _ => none

def bytesOfCells : List AV → Option (List UInt8)
  | [] => some []
  | .sc (.int .u8 n) :: l => (bytesOfCells l).map ((UInt8.ofNat n.toNat) :: ·)
  | _ :: _ => none

def fillA (place : Nat → Option (Nat × Nat)) (cells : List AV) : List (Nat × AV) → Option (List AV)
  | [] => some cells
  | (i, v) :: rest =>
    match place i with
    | none => none
    | some (off, size) =>
      if v.cells.length ≠ size ∨ off + size > cells.length ∨ v.cells.all AV.one = false then none
      else fillA place (setCells cells off v.cells) rest

/-- what an operation comes to: its value and the store -/
abbrev ARes := Option (AV × Store)
abbrev Caller := FuncId → List AV → Store → ARes

def aappend (tb : Tb) (st : Store) (e : TypeId) (s : AV) (news : Nat × List AV) : ARes :=
  match tb e with
  | none => none
  | some i =>
    let (m, ys) := news
    if ys.length ≠ m * i.size ∨ ys.all AV.one = false ∨ i.size = 0 ∨ i.bytes = 0 then none else
    match s with
    | .sc (.slice none 0 0) =>
      if m = 0 then some (s, st)
      else if m * i.bytes ≤ maxBytes then some (.own st.length 0 0 m, st ++ [.arr e i.size 0 m ys]) else none
    | .own id ver off len =>
      match st[id]? with
      | some (.arr e' k ver' n cs) =>
        if ver = ver' ∧ off = 0 ∧ len ≤ n ∧ e' = e ∧ k = i.size ∧ (len + m) * i.bytes ≤ maxBytes then
          some (.own id (ver + 1) 0 (len + m), st.set id (.arr e k (ver + 1) (len + m) (cs.take (len * k) ++ ys)))
        else none
      | _ => none
    | _ => none

/-- cells written behind a pointer -/
def astore (st : Store) (p : AV) (vs : List AV) : Option Store :=
  if vs.all AV.one = false then none else
  match p with
  | .ref id ver off =>
    match st[id]? with
    | some (.box t cs) => if ver = 0 ∧ off + vs.length ≤ cs.length then some (st.set id (.box t (setCells cs off vs))) else none
    | some (.arr e k ver' n cs) => if ver = ver' ∧ off + vs.length ≤ cs.length then some (st.set id (.arr e k ver' n (setCells cs off vs))) else none
    | _ => none
  | _ => none

def fits : TK → AV → Bool
  | .str, .sc (.string _) => true
  | .slice _, .sc (.slice none 0 0) => true
  | .slice _, .lst _ _ => true
  | .slice _, .own .. => true
  | .map _ _, .sc (.map none) => true
  | .map _ _, .mref _ => true
  | _, _ => false

def abuiltin (tb : Tb) (st : Store) (b : Builtin) (ts : List TypeId) (xs : List AV) : ARes :=
  match b, ts, xs with
  | .len, t :: _, x :: _ =>
    match tb t with
    | some i =>
      match i.kind with
      | .array n _ => some (.sc (.int .i64 n), st)
      | k => if fits k x then (lenOf st x).map fun n => (.sc (.int .i64 n), st) else none
    | none => none
  | .append, t :: u :: _, s :: x :: _ =>
    match tb t, tb u with
    | some i, some j =>
      match i.kind, j.kind, x with
      | .slice e, .slice _, x =>
        match tb e with
        | some q => match sliceOf q.size st x with
          | some news => aappend tb st e s news
          | none => none
        | none => none
      | _, _, _ => none
    | _, _ => none
  | .max, _, [.sc (.int k a), .sc (.int _ c)] => some (.sc (.int k (if c > a then c else a)), st)
  | .min, _, [.sc (.int k a), .sc (.int _ c)] => some (.sc (.int k (if c < a then c else a)), st)
  | _, _, _ => none

def intOf : AV → Option Int
  | .sc (.int _ n) => some n
  | _ => none

def natOf (m : Nat) : AV → Option Nat
  | .sc (.int _ n) => if 0 ≤ n ∧ n ≤ m then some n.toNat else none
  | _ => none

/-- the bounds of a slice expression: low, high -/
def bounds (len : Nat) (lo hi : Option AV) : Option (Nat × Nat) :=
  match (match hi with | some v => natOf len v | none => some len) with
  | none => none
  | some h =>
    match (match lo with | some v => natOf h v | none => some 0) with
    | none => none
    | some l => some (l, h)

def aslice (tb : Tb) (st : Store) (t : TypeId) (x : AV) (lo hi : Option AV) : Option AV :=
  match tb t with
  | none => none
  | some i =>
    match i.kind, x with
    | .str, .sc (.string s) => (bounds s.size lo hi).map fun (l, h) => .sc (.string (s.extract l h))
    | .slice e, x =>
      match tb e with
      | none => none
      | some q =>
        match x with
        | .own id ver off len =>
          match sliceOf q.size st x with
          | some _ => (bounds len lo hi).map fun (l, h) => .own id ver (off + l) (h - l)
          | none => none
        | _ =>
          match sliceOf q.size st x with
          | some (n, cs) => (bounds n lo hi).map fun (l, h) => .lst (h - l) ((cs.drop (l * q.size)).take ((h - l) * q.size))
          | none => none
    | _, _ => none

def aindexAddr (tb : Tb) (st : Store) (t : TypeId) (x ix : AV) : Option AV :=
  match tb t, ix with
  | some i, .sc (.int _ n) =>
    if n < 0 then none else
    match i.kind, x with
    | .slice e, .own id ver off len =>
      match tb e with
      | some q => match sliceOf q.size st x with
        | some _ => if n < len then some (.ref id ver ((off + n.toNat) * q.size)) else none
        | none => none
      | none => none
    | .slice e, .lst m cs =>
      match tb e with
      | some q => if m * q.size = cs.length ∧ n < m then some (.fp cs (n.toNat * q.size)) else none
      | none => none
    | .array m e, x =>
      match tb e, row st x with
      | some q, some _ =>
        if n < m then
          match x with
          | .ref id ver off => some (.ref id ver (off + n.toNat * q.size))
          | .fp cs off => some (.fp cs (off + n.toNat * q.size))
          | _ => none
        else none
      | _, _ => none
    | _, _ => none
  | _, _ => none

def aindex (tb : Tb) (t : TypeId) (x ix : AV) : Option AV :=
  match tb t, ix with
  | some i, .sc (.int _ n) =>
    if n < 0 then none else
    match i.kind, x with
    | .str, .sc (.string s) => (s[n.toNat]?).map fun b => .sc (.int .u8 b.toNat)
    | .array m e, .agg cs => if n < m then (match tb e with | some q => ofCells q.kind.agg cs (n.toNat * q.size) q.size | none => none) else none
    | _, _ => none
  | _, _ => none

def afieldAddr (tb : Tb) (st : Store) (t : TypeId) (x : AV) (f : Nat) : Option AV :=
  match tb t with
  | some i =>
    match i.kind with
    | .struct fs =>
      match fs[f]?, row st x with
      | some g, some _ =>
        if g.size = 0 then none else
        match x with
        | .ref id ver off => some (.ref id ver (off + g.off))
        | .fp cs off => some (.fp cs (off + g.off))
        | _ => none
      | _, _ => none
    | _ => none
  | none => none

def afield (tb : Tb) (t : TypeId) (x : AV) (f : Nat) : Option AV :=
  match tb t, x with
  | some i, .agg cs =>
    match i.kind with
    | .struct fs => (fs[f]?).bind fun g => ofCells g.agg cs g.off g.size
    | _ => none
  | _, _ => none

def aload (tb : Tb) (st : Store) (t : TypeId) (p : AV) : Option AV :=
  match tb t, row st p with
  | some i, some (cs, off) => ofCells i.kind.agg cs off i.size
  | _, _ => none

def sameKey : Value → Value → Option Bool
  | .int k a, .int k' b => if k = k' then some (a == b) else none
  | .string a, .string b => some (a == b)
  | _, _ => none

def mfind (k : Value) : List (Value × AV) → Nat → Option (Option (Nat × AV))
  | [], _ => some none
  | e :: es, i =>
    match sameKey k e.1 with
    | some true => some (some (i, e.2))
    | some false => mfind k es (i + 1)
    | none => none

def keyKind : TK → Value → Bool
  | .int k, .int k' _ => k == k'
  | .str, .string _ => true
  | _, _ => false

def ofParts (_tb : Tb) (cs : List AV) (i : TInfo) : Option AV := ofCells i.kind.agg cs 0 i.size

def alookup (tb : Tb) (st : Store) (t : TypeId) (m k : AV) (commaOk : Bool) : Option AV :=
  match tb t with
  | some i =>
    match i.kind, k with
    | .map kt vt, .sc kv =>
      match tb kt, tb vt with
      | some ki, some vi =>
        if keyKind ki.kind kv = false then none else
        match (match m with
          | .mref id => match st[id]? with | some (.mp es) => some es | _ => none
          | .sc (.map none) => some []
          | _ => none) with
        | none => none
        | some es =>
          match mfind kv es 0 with
          | some (some (_, v)) => some (if commaOk then .tup [v, .sc (.bool true)] else v)
          | some none => (ofCells vi.kind.agg vi.zero 0 vi.size).map fun z => if commaOk then .tup [z, .sc (.bool false)] else z
          | none => none
      | _, _ => none
    | _, _ => none
  | none => none

def amapUpdate (tb : Tb) (st : Store) (t : TypeId) (m k v : AV) : Option Store :=
  match tb t with
  | some i =>
    match i.kind, m, k with
    | .map kt _, .mref id, .sc kv =>
      match tb kt, st[id]? with
      | some ki, some (.mp es) =>
        if keyKind ki.kind kv = false then none else
        match mfind kv es 0 with
        | some (some (j, _)) => some (st.set id (.mp (es.set j (kv, v))))
        | some none => some (st.set id (.mp (es ++ [(kv, v)])))
        | none => none
      | _, _ => none
    | _, _, _ => none
  | none => none

/-- one operation; 'call': how a function is called -/
def aop (E : Env) (call : Caller) (fid : FuncId) (o : Oper) (tm : List AV) (st : Store) : ARes :=
  let ev := aeval tm
  let v (x : Option AV) : ARes := x.map (·, st)
  match o.op with
  | .move x => some (ev x, st)
  | .assign x =>
    match ev x, o.dst with
    | .sc (.slice none 0 0), some d =>
      if E.ownNil fid d then
        match E.tb o.type with
        | some i => match i.kind with
          | .slice e => match E.tb e with
            | some q => if q.size = 0 then none else some (.own st.length 0 0 0, st ++ [.arr e q.size 0 0 []])
            | none => none
          | _ => some (ev x, st)
        | none => none
      else some (ev x, st)
    | y, _ => some (y, st)
  | .pick c a b => match ev c with
    | .sc (.bool q) => some (if q then ev a else ev b, st)
    | _ => none
  | .alloc t => match E.tb t with
    | some i => some (.ref st.length 0 0, st ++ [.box t i.zero])
    | none => none
  | .box t x => match ev x with
    | y => if y.cells.all AV.one then some (.ref st.length 0 0, st ++ [.box t y.cells]) else none
  | .build t parts => match E.tb t with
    | some i => match i.kind with
      | .struct fs => v ((fillA (fun j => (fs[j]?).map fun g => (g.off, g.size)) i.zero (parts.toList.map fun p => (p.1, ev p.2))).map .agg)
      | .array _ e => match E.tb e with
        | some q => v ((fillA (fun j => some (j * q.size, q.size)) i.zero (parts.toList.map fun p => (p.1, ev p.2))).map .agg)
        | none => none
      | _ => none
    | none => none
  | .buildSlice t len parts => match E.tb t with
    | some i => match i.kind with
      | .slice e => match E.tb e with
        | some q =>
          if len * q.size ≤ 16777216 ∧ q.size ≠ 0 then
            match fillA (fun j => some (j * q.size, q.size)) (List.replicate len q.zero).flatten (parts.toList.map fun p => (p.1, ev p.2)) with
            | some cs =>
              if o.dst.any (E.ownLit fid) then some (.own st.length 0 0 len, st ++ [.arr e q.size 0 len (cs.map nil1)])
              else some (.lst len (cs.map nil1), st)
            | none => none
          else none
        | none => none
      | _ => none
    | none => none
  | .load t a => v (aload E.tb st t (ev a))
  | .store t a x => match E.tb t with
    | some i => if (ev x).cells.length = i.size then (astore st (ev a) (ev x).cells).map (.bad, ·) else none
    | none => none
  | .nilCheck x => match ev x with
    | .ref id ver off => if ((row st (.ref id ver off)).isSome) then some (.ref id ver off, st) else none
    | .fp cs off => some (.fp cs off, st)
    | .fn f caps => some (.fn f caps, st)
    | _ => none
  | .binOp op t x y _ => v (abin E.tb st op t (ev x) (ev y))
  | .unOp op _ x => match op, ev x with
    | .not, .sc (.bool b) => some (.sc (.bool !b), st)
    | .neg, .sc (.int k n) => some (.sc (.int k (k.wrap (0 - n))), st)
    | _, _ => none
  | .convert s d x =>
    match ev x with
    | .sc y => v (aconvert E.tb s d (.sc y))
    | y => match E.tb s, E.tb d with
      | some i, some j => match i.kind, j.kind with
        | .slice e, .str => match E.tb e with
          | some q => match q.kind with
            | .int .u8 => match sliceOf 1 st y with
              | some (_, cs) => v ((bytesOfCells cs).map fun l => .sc (.string ⟨l.toArray⟩))
              | none => none
            | _ => none
          | none => none
        | _, _ => none
      | _, _ => none
  | .makeFunc (.func f) first caps => if first.isEmpty then some (.fn f (caps.toList.map ev), st) else none
  | .makeMap _ none => some (.mref st.length, st ++ [.mp []])
  | .makeSlice t l c => match E.tb t, ev l, ev c with
    | some i, .sc (.int _ n), .sc (.int _ m) => match i.kind with
      | .slice e => match E.tb e with
        | some q =>
          if 0 ≤ n ∧ n = m ∧ n ≤ 140737488355328 ∧ n.toNat * q.bytes ≤ maxBytes ∧ q.size ≠ 0 then
            some (.own st.length 0 0 n.toNat, st ++ [.arr e q.size 0 n.toNat (List.replicate n.toNat q.zero).flatten])
          else none
        | none => none
      | _ => none
    | _, _, _ => none
  | .slice t x lo hi none => v (aslice E.tb st t (ev x) (lo.map ev) (hi.map ev))
  | .fieldAddr t x f => v (afieldAddr E.tb st t (ev x) f)
  | .field t x f => v (afield E.tb t (ev x) f)
  | .indexAddr t x i => v (aindexAddr E.tb st t (ev x) (ev i))
  | .index t x i => v (aindex E.tb t (ev x) (ev i))
  | .lookup t x i ok => v (alookup E.tb st t (ev x) (ev i) ok)
  | .mapUpdate t m k x | .insert t m k x => (amapUpdate E.tb st t (ev m) (ev k) (ev x)).map (.bad, ·)
  | .extract t i => match ev t with
    | .tup vs => v (vs[i]?)
    | _ => none
  | .call c => match c.callee with
    | .value f => match ev f with
      | .fn g caps => call g (c.args.toList.map ev ++ caps) st
      | _ => none
    | .builtin b => abuiltin E.tb st b c.argTypes.toList (c.args.toList.map ev)
    | _ => none
  | _ => none

def aput (tm : List AV) (d : Option Tmp) (v : AV) : List AV :=
  match d with
  | some d => tm.set d v
  | none => tm

/-- is it to be done? none: it can't be told -/
def awanted (o : Oper) (ops : Array Oper) (tm : List AV) : Option Bool :=
  match o.guard with
  | none => some true
  | some (j, want) =>
    match ((ops[j]?).bind (·.dst)).bind (tm[·]?) with
    | some (.sc (.bool b)) => some (b == want)
    | some (.tup _) => some false
    | _ => none

def astep (E : Env) (call : Caller) (fid : FuncId) (ops : Array Oper) (o : Oper) (tm : List AV) (st : Store) : Option (List AV × Store) :=
  match awanted o ops tm with
  | some true => (aop E call fid o tm st).map fun r => (aput tm o.dst r.1, r.2)
  | some false => some (aput tm o.dst (.tup []), st)
  | none => none

def asteps (E : Env) (call : Caller) (fid : FuncId) (ops : Array Oper) : List Oper → List AV → Store → Option (List AV × Store)
  | [], tm, st => some (tm, st)
  | o :: rest, tm, st =>
    match astep E call fid ops o tm st with
    | some (tm', st') => asteps E call fid ops rest tm' st'
    | none => none

/-- in a region that draws its order: what an operation does to the store -/
inductive Cls where
  | free | reads | allocs | writes
  deriving DecidableEq

def cls (E : Env) (fid : FuncId) (o : Oper) (tm : List AV) : Cls :=
  match o.op with
  | .move _ | .pick .. | .unOp .. | .makeFunc .. | .extract .. | .field .. | .index .. | .build .. => .free
  | .assign _ => if o.dst.any (E.ownNil fid) then .writes else .free
  | .buildSlice .. => if o.dst.any (E.ownLit fid) then .allocs else .free
  | .convert .. | .load .. | .lookup .. | .nilCheck _ | .fieldAddr .. | .indexAddr .. | .slice .. | .binOp .. => .reads
  | .alloc _ | .box .. => .allocs
  | .call c =>
    match c.callee with
    | .value f =>
      match aeval tm f with
      | .fn g caps => if (!E.keep g || (E.ext g).isSome) && pureL (c.args.toList.map (aeval tm) ++ caps) then .free else .writes
      | _ => .writes
    | .builtin .len | .builtin .max | .builtin .min => .reads
    | _ => .writes
  | _ => .writes

def Cls.meet : Cls → Cls → Bool
  | .free, _ | _, .free => true
  | .reads, .reads | .reads, .allocs => true
  | _, _ => false

/-- does x come before y, whatever the order: y's edges, closed -/
def befores (ops : Array Oper) : List (List Nat) :=
  (List.range ops.size).foldl (fun acc j => acc ++ [((ops[j]?).map fun o => o.after.toList.flatMap fun e => if Region.binds .any e then e.on :: acc.getD e.on [] else []).getD []]) []

def tmpsOf (o : Oper) : List Tmp := o.op.operands.toList.filterMap fun | .tmp t => some t | _ => none

def looksAt (ops : Array Oper) (o : Oper) : List Tmp :=
  tmpsOf o ++ (match o.guard with | some (j, _) => (((ops[j]?).bind (·.dst)).toList) | none => [])

def apart (ops : Array Oper) (x y : Oper) : Bool :=
  (match x.dst with | some d => !(looksAt ops y).contains d && y.dst != some d | none => true) &&
  (match y.dst with | some d => !(looksAt ops x).contains d | none => true)

/-- the run in the text's order, with each operation's class -/
def adrawRun (E : Env) (call : Caller) (fid : FuncId) (ops : Array Oper) : List Oper → List AV → Store → Option (List Cls × List AV × Store)
  | [], tm, st => some ([], tm, st)
  | o :: rest, tm, st =>
    match astep E call fid ops o tm st with
    | some (tm', st') =>
      (adrawRun E call fid ops rest tm' st').map fun r => ((if awanted o ops tm = some true then cls E fid o tm else .free) :: r.1, r.2)
    | none => none

/-- every two operations whose order is open can change places -/
def adrawOk (ops : Array Oper) (cl : List Cls) : Bool :=
  let b := befores ops
  (List.range ops.size).all fun j =>
    ((ops[j]?).map fun o => o.after.all fun e => !Region.binds .any e || e.on < j).getD false &&
    (List.range j).all fun i =>
      (b.getD j []).contains i || ((cl.getD i .writes).meet (cl.getD j .writes) && (match ops[i]?, ops[j]? with | some x, some y => apart ops x y | _, _ => false))

def adraw (E : Env) (call : Caller) (fid : FuncId) (ops : Array Oper) (tm : List AV) (st : Store) : Option (List AV × Store) :=
  match adrawRun E call fid ops ops.toList tm st with
  | some (cl, r) => if adrawOk ops cl then some r else none
  | none => none

inductive AX where
  | normal | exit (id : Nat) | ret
  deriving DecidableEq, Inhabited

abbrev Out := Option (AX × List AV × Store)

/-- at a loop's head: what is not live is forgotten, and what was made since is cut off -/
def kill (live : List Nat) (n0 : Nat) : Nat → List AV → List AV
  | _, [] => []
  | i, v :: l => (if live.contains i then v.scrub n0 else .bad) :: kill live n0 (i + 1) l

def firstReg : Code → Nat
  | .region id _ _ => id
  | .seq a _ => firstReg a
  | .block _ b => firstReg b
  | .loop b => firstReg b
  | _ => 0

def iter (live : List Nat) (n0 : Nat) (body : List AV → Store → Out) : Nat → List AV → Store → Out
  | 0, _, _ => none
  | k + 1, tm, st =>
    match body tm st with
    | some (.normal, tm', st') => iter live n0 body k (kill live n0 0 tm') (cut n0 st')
    | r => r

def hint1 (tb : Tb) (h : Hint) (x : List AV × Store) : List AV × Store :=
  match h with
  | .ownT t e =>
    match tb e, x.1[t]? with
    | some q, some (.sc (.slice none 0 0)) => if q.size = 0 then x else (x.1.set t (.own x.2.length 0 0 0), x.2 ++ [.arr e q.size 0 0 []])
    | _, _ => x
  | .ownC t off e =>
    match tb e, x.1[t]? with
    | some q, some (.ref id 0 0) =>
      match x.2[id]? with
      | some (.box ty cs) =>
        match cs[off]? with
        | some (.sc (.slice none 0 0)) => if q.size = 0 then x else (x.1, (x.2.set id (.box ty (cs.set off (.own x.2.length 0 0 0)))) ++ [.arr e q.size 0 0 []])
        | _ => x
      | _ => x
    | _, _ => x
  | .frzT t =>
    match x.1[t]? with
    | some (.own id ver off len) =>
      match x.2[id]? with
      | some (.arr _ k ver' n cs) =>
        if ver = ver' ∧ off + len ≤ n ∧ pureL ((cs.drop (off * k)).take (len * k)) = true then (x.1.set t (.lst len (scrubL 0 ((cs.drop (off * k)).take (len * k)))), x.2.set id .dead) else x
      | _ => x
    | _ => x

def hints (tb : Tb) : List Hint → List AV × Store → List AV × Store
  | [], x => x
  | h :: l, x => hints tb l (hint1 tb h x)

/-- behind a loop too -/
def leave (live : List Nat) (n0 : Nat) : Out → Out
  | some (ex, tm, st) => some (ex, kill live n0 0 tm, cut n0 st)
  | none => none

def aexec (E : Env) (call : Caller) (fid : FuncId) (lf : Nat) : Code → List AV → Store → Out
  | .skip, tm, st => some (.normal, tm, st)
  | .region id ops draw, tm, st =>
    (if draw then adraw E call fid ops (hints E.tb (E.preR fid id) (tm, st)).1 (hints E.tb (E.preR fid id) (tm, st)).2
      else asteps E call fid ops ops.toList (hints E.tb (E.preR fid id) (tm, st)).1 (hints E.tb (E.preR fid id) (tm, st)).2).map fun r => (.normal, r)
  | .seq a b, tm, st =>
    match aexec E call fid lf a tm st with
    | some (.normal, tm', st') => aexec E call fid lf b tm' st'
    | r => r
  | .cond c a b, tm, st =>
    match aeval tm c with
    | .sc (.bool q) => if q then aexec E call fid lf a tm st else aexec E call fid lf b tm st
    | _ => none
  | .block id b, tm, st =>
    match aexec E call fid lf b tm st with
    | some (.exit i, tm', st') => if i = id then some (.normal, tm', st') else some (.exit i, tm', st')
    | r => r
  | .loop b, tm, st =>
    leave (E.liveX fid (firstReg b)) (hints E.tb (E.preL fid (firstReg b)) (tm, st)).2.length (iter (E.live fid (firstReg b)) (hints E.tb (E.preL fid (firstReg b)) (tm, st)).2.length (aexec E call fid lf b) lf
      (kill (E.live fid (firstReg b)) (hints E.tb (E.preL fid (firstReg b)) (tm, st)).2.length 0 (hints E.tb (E.preL fid (firstReg b)) (tm, st)).1) (cut (hints E.tb (E.preL fid (firstReg b)) (tm, st)).2.length (hints E.tb (E.preL fid (firstReg b)) (tm, st)).2))
  | .exit i, tm, st => some (.exit i, tm, st)
  | .ret, tm, st => some (.ret, tm, st)
  | _, _, _ => none

def aresult (tb : Tb) (st : Store) (tm : List AV) : ResultVar → Option AV
  | .tmp t => some (tm.getD t .bad)
  | .cell a t => aload tb st t (tm.getD a .bad)

def aresults (tb : Tb) (st : Store) (tm : List AV) (rs : List ResultVar) : Option AV :=
  match rs.mapM (aresult tb st tm) with
  | some [v] => some v
  | some vs => some (.tup vs)
  | none => none

/-- a function's body on the store -/
def abody (E : Env) (call : Caller) (lf : Nat) (f : FuncId) (fn : Func) (args : List AV) (st : Store) : ARes :=
  match fn.body with
  | none => none
  | some c =>
    match aexec E call f lf c (args ++ List.replicate (fn.ntmps - args.length) .bad) st with
    | some (.normal, tm, st') | some (.ret, tm, st') => (aresults E.tb st' tm fn.results.toList).map (·, st')
    | _ => none

def frzFuel : Nat := 64

def acall (E : Env) : Nat → Caller
  | 0, _, _, _ => none
  | k + 1, f, args, st =>
    match E.ext f with
    | some g => if pureL args then (match g (scrubL 0 args) with | some r => if r.pure then some (r, st) else none | none => none) else none
    | none =>
      match E.fn f with
      | none => none
      | some fn =>
        if E.keep f then abody E (acall E k) k f fn args st
        else if pureL args then
          match abody E (acall E k) k f fn (scrubL 0 args) [] with
          | some (r, st') => if (frz 0 st' frzFuel r).pure then some (frz 0 st' frzFuel r, st) else none
          | none => none
        else
          match abody E (acall E k) k f fn (scrubL st.length args) st with
          | some (r, st') => some (frz st.length st' frzFuel r, cut st.length st')
          | none => none

end Go.Abs
