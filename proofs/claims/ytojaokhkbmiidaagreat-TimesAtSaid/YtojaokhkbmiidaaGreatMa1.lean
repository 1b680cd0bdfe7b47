/- The evaluator: abstract values, abstract memory, and what a function of the model's language comes to on them. Definitions alone; nothing of any program. -/
import Derived.Orders
import Derived.Below
import Derived.Laws.Sem
import Derived.Laws.Cells
import Derived.Laws.Append
import Derived.Laws.CopyRow
import Derived.Laws.StructEq
import Derived.Laws.World
import Derived.Laws.Tables
import Derived.Laws.Rows
import Derived.LoopN
import Derived.Tactics
namespace Go.Proofs.YtojaokhkbmiidaaGreat.Ev
open Go

/-- May a list be appended to: not known; its capacity is its length; it holds a token in a version. -/
inductive Grow where
  | no
  | full
  | here
  | tok (id ver : Nat)
  deriving DecidableEq

/-- Abstract values: trees. A slice is the list of its elements' rows of cells. -/
inductive AV where
  | junk
  | v (x : Value)
  | agg (cs : List AV)
  | tup (cs : List AV)
  | lst (g : Grow) (sz : Nat) (rows : List (List AV))
  | ptr (r off : Nat)
  | eptr (cs : List AV)
  | vs (r off sz n c : Nat)
  | fn (f : Fn) (first caps : List AV)

instance : Inhabited AV := ⟨.junk⟩

/-- Abstract memory: the variables' cells (a hole: not there yet), the tokens' versions. -/
structure Mem where
  vars : List (Option (List AV))
  toks : List Nat

def Mem.var (m : Mem) (r : Nat) : Option (List AV) := (m.vars[r]?).join

/-! ### types -/
def tSize (P : Program) (t : TypeId) : Option Nat := (P.info? t).map (·.size)
def tBytes (P : Program) (t : TypeId) : Option Nat := (P.info? t).map (·.bytes)
def tAgg (P : Program) (t : TypeId) : Option Bool :=
  match P.underlying t with
  | some (.struct _) => some true
  | some (.array _ _) => some true
  | some _ => some false
  | none => none
def tElem (P : Program) (t : TypeId) : Option TypeId :=
  match P.underlying t with
  | some (.slice e) => some e
  | _ => none
def tArr (P : Program) (t : TypeId) : Option (Nat × TypeId) :=
  match P.underlying t with
  | some (.array n e) => some (n, e)
  | _ => none
def tField (P : Program) (t : TypeId) (i : Nat) : Option (Nat × TypeId) :=
  match P.underlying t with
  | some (.struct fs) => (fs[i]?).map fun f => (f.offset, f.type)
  | _ => none
def tInt (P : Program) (t : TypeId) : Option IntKind :=
  match P.underlying t with
  | some (.int k) => some k
  | _ => none
def tStr (P : Program) (t : TypeId) : Bool :=
  match P.underlying t with
  | some .string => true
  | _ => false
def tBool (P : Program) (t : TypeId) : Bool :=
  match P.underlying t with
  | some .bool => true
  | _ => false
/-- The types of a type's cells. -/
def cellTys (P : Program) : Nat → TypeId → Option (List TypeId)
  | 0, _ => none
  | d + 1, t =>
    match P.underlying t with
    | some (.struct fs) => (fs.toList.mapM fun f => cellTys P d f.type).map List.flatten
    | some (.array n e) => (cellTys P d e).map fun l => (List.replicate n l).flatten
    | some _ => some [t]
    | none => none

/-! ### constants -/
def constCell (P : Program) (t : TypeId) (x : Value) : AV :=
  match x with
  | .slice none 0 0 =>
    match tElem P t with
    | some e => .lst .full ((tSize P e).getD 0) []
    | none => .v x
  | x => .v x
def constCells (P : Program) (t : TypeId) (vs : List Value) : List AV :=
  match cellTys P 16 t with
  | some ts => if ts.length = vs.length then List.zipWith (constCell P) ts vs else vs.map .v
  | none => vs.map .v
def constAV (P : Program) (t : TypeId) (x : Value) : AV :=
  match x with
  | .agg cs => .agg (constCells P t cs.toList)
  | x => constCell P t x
def zeroCells (P : Program) (t : TypeId) : Option (List AV) :=
  match P.info? t with
  | some i => i.zero.map fun z => constCells P t z.cells.toList
  | none => none

/-! ### environments -/
abbrev Env := List (Nat × AV)
def get : Env → Nat → AV
  | [], _ => .junk
  | (k, a) :: r, t => if k = t then a else get r t
def putAV (nt : Nat) (dst : Option Tmp) (a : AV) (e : Env) : Option Env :=
  match dst with
  | none => some e
  | some d => if d < nt then some ((d, a) :: e) else none
def restr (l : Option (List Nat)) (e : Env) : Env :=
  match l with
  | none => e
  | some l => l.map fun s => (s, get e s)
def opd (P : Program) (e : Env) (t : TypeId) : Operand → AV
  | .tmp s => get e s
  | .const x => constAV P t x
  | .func f => .fn (.func f) [] []
  | .global _ => .junk

/-! ### cells -/
def one : Value → Bool
  | .agg _ => false
  | .tuple _ => false
  | _ => true
def okCell : AV → Bool
  | .v x => one x
  | .lst _ _ _ => true
  | .ptr _ _ => true
  | .fn _ _ _ => true
  | .vs _ _ _ _ _ => true
  | _ => false
def flat : AV → List AV
  | .agg cs => cs
  | a => [a]
def cellsOf (a : AV) : Option (List AV) := if (flat a).all okCell then some (flat a) else none
def rowCell : AV → Option AV
  | .v x => if one x then some (.v x) else none
  | .lst _ sz rows => some (.lst .no sz rows)
  | _ => none
/-- What may stand in a list's row. -/
def isRow : AV → Bool
  | .v _ => true
  | .lst .no _ _ => true
  | _ => false
def rowOf (a : AV) : Option (List AV) := (flat a).mapM rowCell
/-- A cell may be kept in variable r: what it leads to is not younger. -/
def refLe (r : Nat) : AV → Bool
  | .ptr q _ => q ≤ r
  | .vs q _ _ _ _ => q ≤ r
  | .fn _ first caps => first.all okArg && caps.all okArg
  | _ => true
where okArg : AV → Bool
  | .ptr q _ => q ≤ r
  | .v _ => true
  | .lst _ _ _ => true
  | _ => false
def asList (k : Nat) : AV → Option (Grow × List (List AV))
  | .lst g sz rows => if sz = k then some (g, rows) else none
  | .v (.slice none 0 0) => some (.full, [])
  | _ => none
/-- What a callee is told: nobody grows what came in. -/
def argCell : AV → AV
  | .lst _ sz rows => .lst .no sz rows
  | a => a
def argAV : AV → AV
  | .agg cs => .agg (cs.map argCell)
  | a => argCell a

/-! ### memory -/
def newVar (m : Mem) (p : Nat) (cs : List AV) : Option Mem :=
  if cs.all (refLe p) then
    if p = m.vars.length then some { m with vars := m.vars ++ [some cs] }
    else match m.vars[p]? with
      | some none => some { m with vars := m.vars.set p (some cs) }
      | _ => none
  else none
def splice (old : List AV) (off : Nat) (cs : List AV) : List AV := old.take off ++ cs ++ old.drop (off + cs.length)
/-- The cells from a pointer on. -/
def ptrCells (m : Mem) (p : AV) : Option (List AV) :=
  match p with
  | .ptr r off => (m.var r).map fun l => l.drop off
  | .eptr cs => some cs
  | _ => none
def evLoad (P : Program) (m : Mem) (t : TypeId) (p : AV) : Option AV :=
  match ptrCells m p, tAgg P t, tSize P t with
  | some cs, some true, some k => if k ≤ cs.length then some (.agg (cs.take k)) else none
  | some cs, some false, some _ => cs.head?
  | _, _, _ => none
def evStore (P : Program) (m : Mem) (t : TypeId) (p x : AV) : Option Mem :=
  match p, cellsOf x, tSize P t with
  | .ptr r off, some cs, some k =>
    match m.var r with
    | some old => if cs.length = k ∧ off + k ≤ old.length ∧ cs.all (refLe r) = true then some { m with vars := m.vars.set r (some (splice old off cs)) } else none
    | none => none
  | _, _, _ => none
def evFieldAddr (P : Program) (t : TypeId) (x : AV) (i : Nat) : Option AV :=
  match tField P t i with
  | some (off, ft) =>
    match tSize P ft with
    | some (k + 1) =>
      match x with
      | .ptr r o => if off = 0 then some (.ptr r o) else some (.ptr r (o + off))
      | .eptr cs => if off + (k + 1) ≤ cs.length then some (.eptr (cs.drop off)) else none
      | _ => none
    | _ => none
  | none => none
def evPart (P : Program) (t : TypeId) (cs : List AV) (off : Nat) : Option AV :=
  match tAgg P t, tSize P t with
  | some true, some k => if off + k ≤ cs.length then some (.agg ((cs.drop off).take k)) else none
  | some false, some _ => cs[off]?
  | _, _ => none
def evField (P : Program) (t : TypeId) (x : AV) (i : Nat) : Option AV :=
  match tField P t i, x with
  | some (off, ft), .agg cs => evPart P ft cs off
  | _, _ => none
def evBuildFill (place : Nat → Option (Nat × Nat)) (cells : List AV) : List (Nat × AV) → Option (List AV)
  | [] => some cells
  | (i, x) :: rest =>
    match place i, cellsOf x with
    | some (off, k), some cs => if cs.length = k ∧ off + k ≤ cells.length then evBuildFill place (splice cells off cs) rest else none
    | _, _ => none
def fieldTy (P : Program) (t : TypeId) (i : Nat) : TypeId :=
  match P.underlying t with
  | some (.struct fs) => ((fs[i]?).map (·.type)).getD 0
  | some (.array _ e) => e
  | some (.slice e) => e
  | _ => 0
def evBuild (P : Program) (t : TypeId) (parts : List (Nat × AV)) : Option AV :=
  match P.underlying t, zeroCells P t with
  | some (.struct fs), some z =>
    if fs.toList.all (fun f => (tSize P f.type).isSome) then
      (evBuildFill (fun i => (fs[i]?).bind fun f => (tSize P f.type).map fun k => (f.offset, k)) z parts).map .agg
    else none
  | some (.array _ e), some z =>
    match tSize P e with
    | some k => (evBuildFill (fun i => some (i * k, k)) z parts).map .agg
    | none => none
  | _, _ => none
/-- The rows of a literal: each of them is given, in order. -/
def evRows (k : Nat) : Nat → List (Nat × AV) → Option (List (List AV))
  | _, [] => some []
  | j, (i, x) :: rest =>
    match rowOf x with
    | some row => if i = j ∧ row.length = k then (evRows k (j + 1) rest).map (row :: ·) else none
    | none => none
def evBuildSlice (P : Program) (t : TypeId) (len : Nat) (parts : List (Nat × AV)) : Option AV :=
  match tElem P t with
  | some e =>
    match tSize P e, zeroCells P e with
    | some k, some z =>
      match evRows k 0 parts with
      | some rows => if rows.length = len ∧ len * k ≤ 16777216 ∧ z.length = k then some (.lst .full k rows) else none
      | none => none
    | _, _ => none
  | none => none
def evIndexAddr (P : Program) (t : TypeId) (x i : AV) : Option AV :=
  match i with
  | .v (.int _ i) =>
    match tArr P t with
    | some (n, e) =>
      match x, tSize P e with
      | .ptr r off, some k => if 0 ≤ i ∧ i < n then (if i.toNat * k = 0 then some (.ptr r off) else some (.ptr r (off + i.toNat * k))) else none
      | _, _ => none
    | none =>
      match tElem P t with
      | some e =>
        match tSize P e, x with
        | some k, .lst _ sz rows =>
          if sz = k ∧ 0 ≤ i ∧ i < rows.length then (rows[i.toNat]?).map .eptr else none
        | some k, .vs r off sz n _ =>
          if sz = k ∧ 0 ≤ i ∧ i < n then some (.ptr r (off + i.toNat * k)) else none
        | _, _ => none
      | none => none
  | _ => none
def evIndex (P : Program) (t : TypeId) (x i : AV) : Option AV :=
  match i with
  | .v (.int _ i) =>
    match x with
    | .v (.string s) => if tStr P t = true ∧ 0 ≤ i ∧ i < s.size then some (.v (.int .u8 (s.get! i.toNat).toNat)) else none
    | .agg cs =>
      match tArr P t with
      | some (n, e) =>
        match tSize P e with
        | some k => if 0 ≤ i ∧ i < n then evPart P e cs (i.toNat * k) else none
        | none => none
      | none => none
    | _ => none
  | _ => none
/-- A bound of a cut. -/
def evBound (x : Option AV) (d : Nat) : Option Nat :=
  match x with
  | none => some d
  | some (.v (.int _ i)) => if 0 ≤ i then some i.toNat else none
  | _ => none
def evSlice (P : Program) (m : Mem) (t : TypeId) (x : AV) (lo hi mx : Option AV) : Option AV :=
  match x with
  | .v (.string s) =>
    match evBound lo 0, evBound hi s.size, mx with
    | some l, some h, none => if tStr P t = true ∧ l ≤ h ∧ h ≤ s.size then some (.v (.string (s.extract l h))) else none
    | _, _, _ => none
  | .lst _ sz rows =>
    match tElem P t with
    | some e =>
      match tSize P e, evBound lo 0, evBound hi rows.length, mx with
      | some k, some l, some h, none => if sz = k ∧ l ≤ h ∧ h ≤ rows.length then some (.lst .no sz ((rows.take h).drop l)) else none
      | _, _, _, _ => none
    | none => none
  | .ptr r off =>
    match tArr P t, mx with
    | some (n, e), none =>
      match tSize P e, evBound lo 0, evBound hi n, m.var r with
      | some k, some l, some h, some cs =>
        if l = 0 ∧ h ≤ n ∧ off + n * k ≤ cs.length then some (.vs r off k h n)
        else if l < n ∧ l ≤ h ∧ h ≤ n ∧ off + n * k ≤ cs.length then some (.vs r (off + l * k) k (h - l) (n - l)) else none
      | _, _, _, _ => none
    | _, _ => none
  | _ => none
def evMakeSlice (P : Program) (t : TypeId) (n c : AV) : Option (List AV × Nat × Nat) :=
  match tElem P t, n, c with
  | some e, .v (.int _ n), .v (.int _ c) =>
    match tSize P e, tBytes P e, zeroCells P e with
    | some 1, some b, some [z] => if okCell z = true ∧ n = c ∧ 0 ≤ n ∧ n * b ≤ 140737488355328 ∧ n ≤ 9223372036854775807 then some (List.replicate n.toNat z, 1, n.toNat) else none
    | _, _, _ => none
  | _, _, _ => none

/-! ### arithmetic -/
def evInt (op : BinOp) (k : IntKind) (a : Int) (k' : IntKind) (b : Int) : Option AV :=
  match op with
  | .shl => if b < 0 then none else some (.v (.int k (k.wrap (a * 2 ^ min b.toNat k.bits))))
  | .shr => if b < 0 then none else some (.v (.int k (a.fdiv (2 ^ min b.toNat k.bits))))
  | .add => if k = k' then some (.v (.int k (k.wrap (a + b)))) else none
  | .sub => if k = k' then some (.v (.int k (k.wrap (a - b)))) else none
  | .mul => if k = k' then some (.v (.int k (k.wrap (a * b)))) else none
  | .quo => if k = k' ∧ b ≠ 0 then some (.v (.int k (k.wrap (a.tdiv b)))) else none
  | .rem => if k = k' ∧ b ≠ 0 then some (.v (.int k (a.tmod b))) else none
  | .and => if k = k' then some (.v (.int k (k.wrap (BitVec.ofInt k.bits a &&& BitVec.ofInt k.bits b).toNat))) else none
  | .or => if k = k' then some (.v (.int k (k.wrap (BitVec.ofInt k.bits a ||| BitVec.ofInt k.bits b).toNat))) else none
  | .xor => if k = k' then some (.v (.int k (k.wrap (BitVec.ofInt k.bits a ^^^ BitVec.ofInt k.bits b).toNat))) else none
  | .andNot => if k = k' then some (.v (.int k (k.wrap (BitVec.ofInt k.bits a &&& ~~~(BitVec.ofInt k.bits b)).toNat))) else none
  | .eql => if k = k' then some (.v (.bool (a == b))) else none
  | .neq => if k = k' then some (.v (.bool (a != b))) else none
  | .lss => if k = k' then some (.v (.bool (decide (a < b)))) else none
  | .leq => if k = k' then some (.v (.bool (decide (a ≤ b)))) else none
  | .gtr => if k = k' then some (.v (.bool (decide (a > b)))) else none
  | .geq => if k = k' then some (.v (.bool (decide (a ≥ b)))) else none
def evStr (op : BinOp) (a b : ByteArray) : Option AV :=
  match op with
  | .add => if a.size + b.size ≤ 9223372036854775807 then some (.v (.string (a ++ b))) else none
  | .eql => some (.v (.bool (a == b)))
  | .neq => some (.v (.bool (a != b)))
  | _ => none
/-- Are two values of a type of numbers, bools and texts the same? Part by part. -/
def eqFieldsAV (P : Program) (eq : TypeId → AV → AV → Option Bool) (xs ys : List AV) : List Field → Option Bool
  | [] => some true
  | f :: r =>
    if f.name = "_" then none else
    match evPart P f.type xs f.offset, evPart P f.type ys f.offset with
    | some a, some b =>
      match eq f.type a b, eqFieldsAV P eq xs ys r with
      | some p, some q => some (p && q)
      | _, _ => none
    | _, _ => none
def eqElemsAV (P : Program) (eq : TypeId → AV → AV → Option Bool) (e : TypeId) (k : Nat) (xs ys : List AV) : List Nat → Option Bool
  | [] => some true
  | i :: r =>
    match evPart P e xs (i * k), evPart P e ys (i * k) with
    | some a, some b =>
      match eq e a b, eqElemsAV P eq e k xs ys r with
      | some p, some q => some (p && q)
      | _, _ => none
    | _, _ => none
def eqTy (P : Program) : Nat → TypeId → AV → AV → Option Bool
  | 0, _, _, _ => none
  | d + 1, t, x, y =>
    match P.underlying t, x, y with
    | some .bool, .v (.bool a), .v (.bool b) => some (a == b)
    | some (.int _), .v (.int k a), .v (.int k' b) => if k = k' then some (a == b) else none
    | some .string, .v (.string a), .v (.string b) => some (a == b)
    | some (.struct fs), .agg xs, .agg ys => if P.stoodInHeld t = true then none else eqFieldsAV P (eqTy P d) xs ys fs.toList
    | some (.array n e), .agg xs, .agg ys => (tSize P e).bind fun k => eqElemsAV P (eqTy P d) e k xs ys (List.range n)
    | _, _, _ => none
/-- A type in which there is no interface. -/
def noIface (P : Program) : Nat → TypeId → Bool
  | 0, _ => false
  | d + 1, t =>
    match P.underlying t with
    | some (.interface _) => false
    | some (.struct fs) => fs.toList.all fun f => noIface P d f.type
    | some (.array _ e) => noIface P d e
    | some _ => true
    | none => true
def evBin (P : Program) (op : BinOp) (t : TypeId) (x y : AV) : Option AV :=
  match x, y with
  | .v (.int k a), .v (.int k' b) => evInt op k a k' b
  | .v (.string a), .v (.string b) => evStr op a b
  | .v (.bool a), .v (.bool b) =>
    if tBool P t then
      match op with
      | .eql => some (.v (.bool (a == b)))
      | .neq => some (.v (.bool (a != b)))
      | _ => none
    else none
  | .agg xs, .agg ys =>
    if noIface P 8 t then
      match op with
      | .eql => (eqTy P 8 t (.agg xs) (.agg ys)).map fun b => .v (.bool b)
      | .neq => (eqTy P 8 t (.agg xs) (.agg ys)).map fun b => .v (.bool (!b))
      | _ => none
    else none
  | _, _ => none
/-- Is a slice nil? -/
def isNil : AV → Option Bool
  | .v (.slice none 0 0) => some true
  | .lst .here _ _ => some false
  | .lst _ _ (_ :: _) => some false
  | _ => none
/-- A slice held against nil. -/
def nilCmp (P : Program) (op : BinOp) (t : TypeId) (a : AV) (y : Operand) : Option Bool :=
  match y with
  | .const (.slice none 0 0) =>
    match tElem P t, op with
    | some _, .eql => isNil a
    | some _, .neq => (isNil a).map (!·)
    | _, _ => none
  | _ => none
def evBinN (P : Program) (op : BinOp) (t : TypeId) (a : AV) (y : Operand) (b : AV) : Option AV :=
  match nilCmp P op t a y with
  | some r => some (.v (.bool r))
  | none => evBin P op t a b
def evUn (op : UnOp) (x : AV) : Option AV :=
  match op, x with
  | .neg, .v (.int k n) => some (.v (.int k (k.wrap (0 - n))))
  | .xor, .v (.int k n) => some (.v (.int k (k.wrap (BitVec.ofInt k.bits (if k.signed then -1 else k.max) ^^^ BitVec.ofInt k.bits n).toNat)))
  | .not, .v (.bool b) => some (.v (.bool (!b)))
  | _, _ => none
/-- The text of a row of bytes. -/
def bytesOfCells : List AV → Option (List UInt8)
  | [] => some []
  | .v (.int .u8 n) :: rest => (bytesOfCells rest).map fun l => UInt8.ofNat n.toNat :: l
  | _ => none
def evConvert (P : Program) (m : Mem) (src dst : TypeId) (x : AV) : Option AV :=
  match x with
  | .v (.int _ n) => match P.underlying src, tInt P dst with
    | some _, some k => some (.v (.int k (k.wrap n)))
    | _, _ => none
  | .v (.string s) => match P.underlying src with
    | some _ => if tStr P dst then some (.v (.string s)) else none
    | none => none
  | .vs r off 1 n _ =>
    match tElem P src, m.var r with
    | some e, some cs => if tStr P dst = true ∧ tInt P e = some .u8 ∧ off + n ≤ cs.length then (bytesOfCells ((cs.drop off).take n)).map fun l => .v (.string ⟨l.toArray⟩) else none
    | _, _ => none
  | _ => none

/-! ### builtins -/
def mx (a b : Int) : Int := if b > a then b else a
def mn (a b : Int) : Int := if b < a then b else a
def evFoldI (f : Int → Int → Int) (k : IntKind) : Int → List AV → Option AV
  | x, [] => some (.v (.int k x))
  | x, .v (.int k' y) :: rest => if k = k' then evFoldI f k (f x y) rest else none
  | _, _ => none
def evMinMax (f : Int → Int → Int) : List AV → Option AV
  | .v (.int k x) :: rest => evFoldI f k x rest
  | _ => none
def evLen (P : Program) (t : TypeId) (x : AV) : Option AV :=
  match x with
  | .v (.string s) => if tStr P t then some (.v (.int .i64 s.size)) else none
  | .lst _ _ rows => (tElem P t).map fun _ => .v (.int .i64 rows.length)
  | .v (.slice none 0 0) => (tElem P t).map fun _ => .v (.int .i64 0)
  | .vs _ _ _ n _ => (tElem P t).map fun _ => .v (.int .i64 n)
  | _ => (tArr P t).map fun (n, _) => .v (.int .i64 n)
/-- A bound of what may be appended: far from any limit. -/
def lim : Nat := 4294967296
def evAppend (P : Program) (t t2 : TypeId) (m : Mem) (x y : AV) : Option (AV × Mem) :=
  match tElem P t with
  | some e =>
    match tSize P e, tBytes P e, zeroCells P e with
    | some k, some b, some z =>
      match asList k x, asList k y with
      | some (g, xs), some (_, ys) =>
        if xs.length + ys.length ≤ lim ∧ b ≤ 4096 ∧ z.length = k ∧ 0 < k ∧ z.all okCell = true ∧ tElem P t2 = some e then
          match g with
          | .no => none
          | .here => none
          | .full => some (.lst (.tok m.toks.length 0) k (xs ++ ys), { m with toks := m.toks ++ [0] })
          | .tok id ver => if m.toks[id]? = some ver then some (.lst (.tok id (ver + 1)) k (xs ++ ys), { m with toks := m.toks.set id (ver + 1) }) else none
        else none
      | _, _ => none
    | _, _, _ => none
  | none => none
def evBuiltin (P : Program) (m : Mem) (b : Builtin) (ts : List TypeId) (xs : List AV) : Option (AV × Mem) :=
  match b, ts, xs with
  | .len, [t], [x] => (evLen P t x).map (·, m)
  | .max, _, xs => (evMinMax mx xs).map (·, m)
  | .min, _, xs => (evMinMax mn xs).map (·, m)
  | .append, [t, t2], [x, y] => evAppend P t t2 m x y
  | _, _, _ => none
end Go.Proofs.YtojaokhkbmiidaaGreat.Ev

namespace Go.Proofs.YtojaokhkbmiidaaGreat.Ev
open Go
noncomputable section

/-- What calls come to. -/
abbrev CallF := FuncId → List AV → Mem → Option (AV × Mem)

def evCall (call : CallF) (f : AV) (xs : List AV) (m : Mem) : Option (AV × Mem) :=
  match f with
  | .fn (.func g) first caps => call g ((first ++ xs ++ caps).map argAV) m
  | _ => none
def evOp (P : Program) (call : CallF) (e : Env) (m : Mem) (o : Oper) : Option (AV × Mem) :=
  let O (t : TypeId) (x : Operand) : AV := opd P e t x
  match o.op with
  | .move x => some (O o.type x, m)
  | .assign x => some (O o.type x, m)
  | .pick c a b =>
    match O o.type c with
    | .v (.bool t) => some (if t then O o.type a else O o.type b, m)
    | _ => none
  | .alloc t =>
    match zeroCells P t with
    | some z => if z.all okCell = true then (newVar m m.vars.length z).map fun m' => (.ptr m.vars.length 0, m') else none
    | none => none
  | .box t x =>
    match cellsOf (O t x) with
    | some cs => (newVar m m.vars.length cs).map fun m' => (.ptr m.vars.length 0, m')
    | none => none
  | .build t ps => (evBuild P t (ps.toList.map fun (i, x) => (i, O (fieldTy P t i) x))).map (·, m)
  | .buildSlice t n ps => (evBuildSlice P t n (ps.toList.map fun (i, x) => (i, O (fieldTy P t i) x))).map (·, m)
  | .load t a => (evLoad P m t (O t a)).map (·, m)
  | .store t a x => (evStore P m t (O t a) (O t x)).map (.v (.tuple #[]), ·)
  | .nilCheck x =>
    match O o.type x with
    | .ptr r off => some (.ptr r off, m)
    | .eptr cs => some (.eptr cs, m)
    | .fn (.func f) first caps => some (.fn (.func f) first caps, m)
    | _ => none
  | .binOp op t x y _ => (evBinN P op t (O t x) y (O t y)).map (·, m)
  | .unOp op t x => (evUn op (O t x)).map (·, m)
  | .convert src dst x => (evConvert P m src dst (O src x)).map (·, m)
  | .makeFunc f first caps => some (.fn f (first.toList.map (O o.type)) (caps.toList.map (O o.type)), m)
  | .makeSlice t n c =>
    match evMakeSlice P t (O o.type n) (O o.type c) with
    | some (cs, sz, n) => (newVar m m.vars.length cs).map fun m' => (.vs m.vars.length 0 sz n n, m')
    | none => none
  | .slice t x lo hi mx => (evSlice P m t (O t x) (lo.map (O o.type)) (hi.map (O o.type)) (mx.map (O o.type))).map (·, m)
  | .fieldAddr t x i => (evFieldAddr P t (O t x) i).map (·, m)
  | .field t x i => (evField P t (O t x) i).map (·, m)
  | .indexAddr t x i => (evIndexAddr P t (O t x) (O o.type i)).map (·, m)
  | .index t x i => (evIndex P t (O t x) (O o.type i)).map (·, m)
  | .extract x i =>
    match O o.type x with
    | .tup cs => (cs[i]?).map (·, m)
    | _ => none
  | .call c =>
    let xs := List.zipWith O c.argTypes.toList c.args.toList
    if c.argTypes.size = c.args.size then
      match c.callee with
      | .builtin b => evBuiltin P m b c.argTypes.toList xs
      | .value f => evCall call (O o.type f) xs m
      | .invoke _ _ => none
    else none
  | _ => none

/-- Is an operation carried out? -/
def wantedAV (ops : Array Oper) (e : Env) (o : Oper) : Option Bool :=
  match o.guard with
  | none => some true
  | some (j, want) =>
    match (ops[j]?).bind (·.dst) with
    | none => some false
    | some d =>
      match get e d with
      | .v (.bool b) => some (b == want)
      | .v (.tuple _) => some false
      | _ => none
/-- How an operation touches memory: not at all; reads; a call; changes. -/
inductive Cls where
  | n | rd | ca | wr
  deriving DecidableEq
def clsOf (P : Program) (o : Oper) : Cls :=
  match o.op with
  | .load _ _ => .rd
  | .convert _ _ _ => .rd
  | .slice t _ _ _ _ => if (tArr P t).isSome then .rd else .n
  | .buildSlice _ _ _ => .n
  | .alloc _ => .wr
  | .box _ _ => .wr
  | .makeSlice _ _ _ => .wr
  | .store _ _ _ => .wr
  | .call c =>
    match c.callee with
    | .builtin .append => .wr
    | .builtin _ => .n
    | _ => .ca
  | _ => .n
/-- Calls must leave the memory as it is, where 'pu' holds. -/
def keeps (P : Program) (pu : Bool) (o : Oper) (m : Mem) (x : Option (AV × Mem)) : Option (AV × Mem) :=
  open Classical in
  match x with
  | some (a, m') => if (pu && clsOf P o == .ca) = true → m' = m then some (a, m') else none
  | none => none
def evOps (P : Program) (call : CallF) (nt : Nat) (ops : Array Oper) (pu : Bool) : List Oper → Env → Mem → Option (Env × Mem)
  | [], e, m => some (e, m)
  | o :: rest, e, m =>
    match wantedAV ops e o with
    | none => none
    | some true =>
      match keeps P pu o m (evOp P call e m o) with
      | some (a, m') =>
        match putAV nt o.dst a e with
        | some e' => evOps P call nt ops pu rest e' m'
        | none => none
      | none => none
    | some false =>
      match putAV nt o.dst (.v (.tuple #[])) e with
      | some e' => evOps P call nt ops pu rest e' m
      | none => none

/-! ### regions that draw their order -/
/-- Of each operation, as a row of bits, which ones come ahead of it in every order. -/
def maskOf (o : Oper) (acc : List Nat) : Nat :=
  o.after.toList.foldl (fun s e => if Region.binds .any e = true then s ||| (2 ^ e.on ||| acc.getD e.on 0) else s) 0
def masks : List Oper → List Nat → List Nat
  | [], acc => acc
  | o :: r, acc => masks r (acc ++ [maskOf o acc])
/-- May two operations that do not wait for each other come in either order? -/
def looseOk (P : Program) (ops : Array Oper) (i j : Oper) : Bool :=
  i.apart ops j && match clsOf P i, clsOf P j with
    | .n, _ => true
    | _, .n => true
    | .rd, .rd => true
    | .rd, .ca => true
    | .ca, .rd => true
    | .ca, .ca => true
    | _, _ => false
/-- Is there a call that may change places with a read, or with a call? -/
def anyLoose (P : Program) (l : List Oper) : Bool :=
  let ms := masks l []
  (List.range l.length).any fun j => (List.range j).any fun i =>
    !(ms.getD j 0).testBit i && clsOf P (l.getD i default) != .n && clsOf P (l.getD j default) != .n && (clsOf P (l.getD i default) == .ca || clsOf P (l.getD j default) == .ca)
def drawnOk (P : Program) (l : List Oper) : Bool :=
  let ms := masks l []
  (List.range l.length).all fun j =>
    ((l.getD j default).after.all fun e => !Region.binds .any e || decide (e.on < j)) &&
    (List.range j).all fun i =>
      ((l.getD i default).dst.isNone || (l.getD i default).dst != (l.getD j default).dst) &&
      ((ms.getD j 0).testBit i || looseOk P l.toArray (l.getD i default) (l.getD j default))
def evDrawn (P : Program) (call : CallF) (nt : Nat) (ops : List Oper) (e : Env) (m : Mem) : Option (Env × Mem) :=
  if drawnOk P ops = true then evOps P call nt ops.toArray (anyLoose P ops) ops e m else none

/-! ### code -/
inductive Ex where
  | normal
  | exit (id : Nat)
  | ret
abbrev Res := Option (Ex × Env × Mem)
def loopN (body : Env → Mem → Res) : Nat → Env → Mem → Res
  | 0, _, _ => none
  | n + 1, e, m =>
    match body e m with
    | some (.normal, e', m') => loopN body n e' m'
    | x => x
def code (P : Program) (call : CallF) (nt : Nat) (kp : Nat → Option (List Nat)) (n : Nat) : Code → Env → Mem → Res
  | .skip, e, m => some (.normal, e, m)
  | .region id ops draw, e, m =>
    match (if draw then evDrawn P call nt ops.toList e m else evOps P call nt ops false ops.toList e m) with
    | some (e', m') => some (.normal, restr (kp id) e', m')
    | none => none
  | .seq a b, e, m =>
    match code P call nt kp n a e m with
    | some (.normal, e', m') => code P call nt kp n b e' m'
    | x => x
  | .cond c a b, e, m =>
    match opd P e 0 c with
    | .v (.bool t) => if t then code P call nt kp n a e m else code P call nt kp n b e m
    | _ => none
  | .block id b, e, m =>
    match code P call nt kp n b e m with
    | some (.exit q, e', m') => if q = id then some (.normal, e', m') else some (.exit q, e', m')
    | x => x
  | .loop b, e, m => loopN (code P call nt kp n b) n e m
  | .exit id, e, m => some (.exit id, e, m)
  | .ret, e, m => some (.ret, e, m)
  | _, _, _ => none

/-! ### functions -/
def entry (args : List AV) : Env := (List.range args.length).zip args
/-- What leads into the callee's own memory isn't handed back. -/
def chunk1 (cs : List AV) : List (List AV) := cs.map fun c => [c]
/-- A result's cell: its growth is lost. -/
def resCell (n0 : Nat) : AV → Option AV
  | .v x => some (.v x)
  | .lst _ sz rows => some (.lst .no sz rows)
  | .ptr r off => if r < n0 then some (.ptr r off) else none
  | _ => none
def resAV (n0 : Nat) (m : Mem) : AV → Option AV
  | .agg cs => (cs.mapM (resCell n0)).map .agg
  | .vs r off sz n c =>
    if r < n0 then none else
    match m.var r with
    | some cs => if sz = 1 ∧ off = 0 ∧ n = cs.length ∧ c = n then ((cs.mapM rowCell).map fun cs => .lst .no 1 (chunk1 cs)) else none
    | none => none
  | a => resCell n0 a
def evResult (P : Program) (e : Env) (m : Mem) : ResultVar → Option AV
  | .tmp t => some (get e t)
  | .cell a t => evLoad P m t (get e a)
/-- The memory behind a call: the callee's own variables have gone. -/
def finMem (m0 m : Mem) : Mem :=
  open Classical in
  if m.vars.take m0.vars.length = m0.vars then { vars := m0.vars, toks := m.toks.take m0.toks.length }
  else { vars := m.vars.take m0.vars.length, toks := m.toks }
/-- A list whose growth is handed on (where 'gr' holds): it holds a token anew. -/
def growRes (gr : Bool) (m0 m : Mem) (a : AV) : Option (AV × Mem) :=
  match gr, a with
  | true, .lst .full sz rows => some (.lst (.tok (finMem m0 m).toks.length 0) sz rows, { finMem m0 m with toks := (finMem m0 m).toks ++ [0] })
  | true, .lst (.tok id ver) sz rows =>
    if m.toks[id]? = some ver ∧ m0.toks.length ≤ id then some (.lst (.tok (finMem m0 m).toks.length 0) sz rows, { finMem m0 m with toks := (finMem m0 m).toks.set id (ver + 1) ++ [0] }) else none
  | true, _ => none
  | false, a => (resAV m0.vars.length m a).map (·, finMem m0 m)
def evRet (P : Program) (gr : Bool) (fn : Func) (m0 : Mem) (e : Env) (m : Mem) : Option (AV × Mem) :=
  match fn.results.toList with
  | [r] => (evResult P e m r).bind (growRes gr m0 m)
  | rs => ((rs.mapM (evResult P e m)).bind fun vs => vs.mapM (resAV m0.vars.length m)).map fun vs => (.tup vs, finMem m0 m)

/-- What is told of functions from outside: which slots are kept behind a region; whose result may grow; what some functions come to. -/
structure Ctx where
  kp : FuncId → Nat → Option (List Nat)
  gr : FuncId → Bool
  ext : FuncId → Option (List AV → Mem → Option (AV × Mem))
def evBody (P : Program) (C : Ctx) (call : CallF) (n : Nat) (f : FuncId) (fn : Func) (c : Code) (args : List AV) (m : Mem) : Option (AV × Mem) :=
  if args.length ≤ fn.ntmps ∧ (fn.name == "runtime.NumGoroutine") = false then
    match code P call fn.ntmps (C.kp f) n c (entry args) m with
    | some (.normal, e, m') => evRet P (C.gr f) fn m e m'
    | some (.ret, e, m') => evRet P (C.gr f) fn m e m'
    | _ => none
  else none
def run (P : Program) (C : Ctx) : Nat → CallF
  | 0, _, _, _ => none
  | n + 1, f, args, m =>
    match C.ext f with
    | some g => g args m
    | none =>
      match P.funcs[f]? with
      | some fn =>
        match fn.body with
        | some c => evBody P C (run P C n) n f fn c args m
        | none => none
      | none => none
end
end Go.Proofs.YtojaokhkbmiidaaGreat.Ev

namespace Go.Proofs.YtojaokhkbmiidaaGreat.Ev
open Go

/-- Where things lie: a variable's block; which cells nobody writes any more; a token's free cells. -/
structure Phi where
  vb : Nat → Nat
  im : Nat → Nat → Prop
  tk : Nat → Nat × Nat × Nat

def growOk (φ : Phi) (m : Mem) (g : Grow) (a : Option Addr) (n c sz : Nat) : Prop :=
  match g with
  | .no => True
  | .full => n = c
  | .here => a ≠ none
  | .tok id ver => ∃ v, m.toks[id]? = some v ∧ ver ≤ v ∧ (v = ver → match a with
    | none => n = c
    | some ad => φ.tk id = (ad.block, ad.off + n * sz, ad.off + c * sz))

inductive Rep (φ : Phi) (m : Mem) (w : World) : AV → Value → Prop
  | junk (x : Value) : Rep φ m w .junk x
  | v (x : Value) : Rep φ m w (.v x) x
  | agg (cs : List AV) (arr : Array Value) (hn : arr.size = cs.length) (h : ∀ (i : Nat) a u, cs[i]? = some a → arr[i]? = some u → Rep φ m w a u) : Rep φ m w (.agg cs) (.agg arr)
  | tup (cs : List AV) (arr : Array Value) (hn : arr.size = cs.length) (h : ∀ (i : Nat) a u, cs[i]? = some a → arr[i]? = some u → Rep φ m w a u) : Rep φ m w (.tup cs) (.tuple arr)
  | lst (g : Grow) (sz : Nat) (rows : List (List AV)) (a : Option Addr) (c : Nat) (val : Nat → Nat → Value) (hc : rows.length ≤ c)
      (hr : ∀ (i : Nat) row, rows[i]? = some row → row.length = sz ∧ row.all isRow = true) (ha : a = none → c = 0) (hs : ∀ ad, a = some ad → 0 < c → ad.spot = none)
      (hcell : ∀ ad (i : Nat) row (j : Nat) x, a = some ad → rows[i]? = some row → row[j]? = some x →
        φ.im ad.block (ad.off + i * sz + j) ∧ w.cell? ⟨ad.block, ad.off + i * sz + j, none⟩ = some (val i j) ∧ one (val i j) = true)
      (hrep : ∀ (i : Nat) row (j : Nat) x, rows[i]? = some row → row[j]? = some x → Rep φ m w x (val i j))
      (hg : growOk φ m g a rows.length c sz) : Rep φ m w (.lst g sz rows) (.slice a rows.length c)
  | ptr (r off : Nat) (cs : List AV) (h : m.var r = some cs) : Rep φ m w (.ptr r off) (.pointer (some ⟨φ.vb r, off, none⟩))
  | eptr (cs : List AV) (ad : Addr) (val : Nat → Value) (hs : ad.spot = none)
      (hcell : ∀ (j : Nat) x, cs[j]? = some x → φ.im ad.block (ad.off + j) ∧ w.cell? ⟨ad.block, ad.off + j, none⟩ = some (val j))
      (hrep : ∀ (j : Nat) x, cs[j]? = some x → Rep φ m w x (val j)) : Rep φ m w (.eptr cs) (.pointer (some ad))
  | vs (r off sz n c : Nat) (cs : List AV) (h : m.var r = some cs) (hb : off + c * sz ≤ cs.length) (hn : n ≤ c) : Rep φ m w (.vs r off sz n c) (.slice (some ⟨φ.vb r, off, none⟩) n c)
  | fn (f : Fn) (first caps : List AV) (fv cv : Array Value) (h1 : fv.size = first.length) (h2 : cv.size = caps.length)
      (r1 : ∀ (i : Nat) a u, first[i]? = some a → fv[i]? = some u → Rep φ m w a u) (r2 : ∀ (i : Nat) a u, caps[i]? = some a → cv[i]? = some u → Rep φ m w a u) : Rep φ m w (.fn f first caps) (.func f fv cv)

/-- Values one by one. -/
def Reps (φ : Phi) (m : Mem) (w : World) (cs : List AV) (arr : Array Value) : Prop :=
  arr.size = cs.length ∧ ∀ (i : Nat) a u, cs[i]? = some a → arr[i]? = some u → Rep φ m w a u
def EnvRep (φ : Phi) (m : Mem) (w : World) (e : Env) (tmps : Array Value) : Prop := ∀ t, Rep φ m w (get e t) (tmps.getD t undef)

/-- What the abstract memory owns: its variables' blocks, and the blocks that may still grow in place. -/
def Own (φ : Phi) (m : Mem) (b : Nat) : Prop :=
  (∃ r cs, m.var r = some cs ∧ φ.vb r = b) ∨ (∃ id s e, id < m.toks.length ∧ φ.tk id = (b, s, e) ∧ s < e)

structure RM (φ : Phi) (m : Mem) (w : World) : Prop where
  var : ∀ r cs, m.var r = some cs → ∃ arr T, w.heap[φ.vb r]? = some (.cells arr T (0, 0)) ∧ Reps φ m w cs arr ∧ cs.all okCell = true ∧ cs.all (refLe r) = true
  inj : ∀ r r' cs cs', m.var r = some cs → m.var r' = some cs' → φ.vb r = φ.vb r' → r = r'
  vim : ∀ r cs o, m.var r = some cs → ¬ φ.im (φ.vb r) o
  tok : ∀ id b s e, id < m.toks.length → φ.tk id = (b, s, e) → s < e →
    ∃ arr T, w.heap[b]? = some (.cells arr T (0, 0)) ∧ e ≤ arr.size ∧ (∀ o, s ≤ o → o < e → ¬ φ.im b o) ∧ (∀ r cs, m.var r = some cs → φ.vb r ≠ b) ∧ (∀ (o : Nat) u, arr[o]? = some u → one u = true)
  tinj : ∀ id id' b s e s' e', id < m.toks.length → id' < m.toks.length → φ.tk id = (b, s, e) → φ.tk id' = (b, s', e') → s < e → s' < e' → id = id'
  imlt : ∀ b o, φ.im b o → b < w.heap.size

structure Ext (φ : Phi) (m : Mem) (w : World) (φ' : Phi) (m' : Mem) (w' : World) : Prop where
  os : w'.os = w.os
  tape : w'.tape = w.tape
  output : w'.output = w.output
  size : w.heap.size ≤ w'.heap.size
  im : ∀ b o, φ.im b o → φ'.im b o ∧ w'.cell? ⟨b, o, none⟩ = w.cell? ⟨b, o, none⟩
  vb : ∀ r cs, m.var r = some cs → φ'.vb r = φ.vb r ∧ ∃ cs', m'.var r = some cs' ∧ cs'.length = cs.length
  tk : ∀ id v, m.toks[id]? = some v → ∃ v', m'.toks[id]? = some v' ∧ v ≤ v' ∧ (v' = v → φ'.tk id = φ.tk id)
  blk : ∀ b, b < w.heap.size → ¬ Own φ m b → w'.heap[b]? = w.heap[b]?
  own : ∀ b, Own φ' m' b → Own φ m b ∨ w.heap.size ≤ b

theorem Ext.refl (φ : Phi) (m : Mem) (w : World) : Ext φ m w φ m w :=
  ⟨rfl, rfl, rfl, Nat.le_refl _, fun _ _ h => ⟨h, rfl⟩, fun _ cs h => ⟨rfl, cs, h, rfl⟩, fun _ v h => ⟨v, h, Nat.le_refl _, fun _ => rfl⟩, fun _ _ _ => rfl, fun _ h => .inl h⟩

theorem Ext.trans {φ m w φ₁ m₁ w₁ φ₂ m₂ w₂} (h : Ext φ m w φ₁ m₁ w₁) (k : Ext φ₁ m₁ w₁ φ₂ m₂ w₂) : Ext φ m w φ₂ m₂ w₂ where
  os := k.os.trans h.os
  tape := k.tape.trans h.tape
  output := k.output.trans h.output
  size := Nat.le_trans h.size k.size
  im b o hi := ⟨(k.im b o (h.im b o hi).1).1, (k.im b o (h.im b o hi).1).2.trans (h.im b o hi).2⟩
  vb r cs hv := by
    obtain ⟨e1, cs1, hv1, l1⟩ := h.vb r cs hv
    obtain ⟨e2, cs2, hv2, l2⟩ := k.vb r cs1 hv1
    exact ⟨e2.trans e1, cs2, hv2, l2.trans l1⟩
  tk id v hv := by
    obtain ⟨v1, hv1, le1, e1⟩ := h.tk id v hv
    obtain ⟨v2, hv2, le2, e2⟩ := k.tk id v1 hv1
    refine ⟨v2, hv2, Nat.le_trans le1 le2, fun he => ?_⟩
    have : v1 = v := by omega
    subst this
    exact (e2 he).trans (e1 rfl)
  blk b hb ho := by
    rw [k.blk b (Nat.lt_of_lt_of_le hb h.size) (fun h1 => ?_), h.blk b hb ho]
    rcases h.own b h1 with h2 | h2
    · exact ho h2
    · omega
  own b hb := by
    rcases k.own b hb with h1 | h1
    · exact h.own b h1
    · exact .inr (Nat.le_trans h.size h1)

theorem growOk.mono {φ m w φ' m' w' g a n c sz} (h : growOk φ m g a n c sz) (hx : Ext φ m w φ' m' w') : growOk φ' m' g a n c sz := by
  cases g with
  | no => exact trivial
  | full => exact h
  | here => exact h
  | tok id ver =>
    obtain ⟨v, hv, hle, hr⟩ := h
    obtain ⟨v', hv', hle', he⟩ := hx.tk id v hv
    refine ⟨v', hv', Nat.le_trans hle hle', fun e => ?_⟩
    have e1 : v' = v := by omega
    have := hr (by omega)
    rw [he e1]
    exact this

theorem Rep.mono {φ m w φ' m' w' a x} (h : Rep φ m w a x) (hx : Ext φ m w φ' m' w') : Rep φ' m' w' a x := by
  induction h with
  | junk x => exact .junk x
  | v x => exact .v x
  | agg cs arr hn _ ih => exact .agg cs arr hn ih
  | tup cs arr hn _ ih => exact .tup cs arr hn ih
  | lst g sz rows a c val hc hr ha hs hcell _ hg ih =>
    refine .lst g sz rows a c val hc hr ha hs (fun ad i row j x e1 e2 e3 => ?_) ih (hg.mono hx)
    obtain ⟨h1, h2, h5⟩ := hcell ad i row j x e1 e2 e3
    obtain ⟨h3, h4⟩ := hx.im _ _ h1
    exact ⟨h3, h4.trans h2, h5⟩
  | ptr r off cs h =>
    obtain ⟨e, cs', h', _⟩ := hx.vb r cs h
    rw [← e]
    exact .ptr r off cs' h'
  | eptr cs ad val hs hcell _ ih =>
    refine .eptr cs ad val hs (fun j x e => ?_) ih
    obtain ⟨h1, h2⟩ := hcell j x e
    obtain ⟨h3, h4⟩ := hx.im _ _ h1
    exact ⟨h3, h4.trans h2⟩
  | vs r off sz n c cs h hb hn =>
    obtain ⟨e, cs', h', hl⟩ := hx.vb r cs h
    rw [← e]
    exact .vs r off sz n c cs' h' (by omega) hn
  | fn f first caps fv cv h1 h2 _ _ ih1 ih2 => exact .fn f first caps fv cv h1 h2 ih1 ih2

theorem Reps.mono {φ m w φ' m' w' cs arr} (h : Reps φ m w cs arr) (hx : Ext φ m w φ' m' w') : Reps φ' m' w' cs arr := ⟨h.1, fun i a u h1 h2 => (h.2 i a u h1 h2).mono hx⟩
theorem EnvRep.mono {φ m w φ' m' w' e tmps} (h : EnvRep φ m w e tmps) (hx : Ext φ m w φ' m' w') : EnvRep φ' m' w' e tmps := fun t => (h t).mono hx

theorem Reps.nil (φ : Phi) (m : Mem) (w : World) : Reps φ m w [] #[] := ⟨rfl, fun i a u h => by simp at h⟩

/-! ### an environment's slots -/
theorem EnvRep.put {φ m w e} {tmps : Array Value} (h : EnvRep φ m w e tmps) {nt : Nat} {dst : Option Tmp} {a : AV} {x : Value} {e' : Env} (hp : putAV nt dst a e = some e')
    (hn : nt ≤ tmps.size) (hr : Rep φ m w a x) (ds : List Deferred) : EnvRep φ m w e' ((⟨tmps, ds⟩ : Act).put dst x).tmps := by
  cases dst with
  | none =>
    simp only [putAV, Option.some.injEq] at hp
    subst hp
    exact h
  | some d =>
    simp only [putAV] at hp
    split at hp
    · rename_i hd
      simp only [Option.some.injEq] at hp
      subst hp
      intro t
      simp only [get, Act.put]
      by_cases he : d = t
      · subst he
        rw [if_pos rfl]
        have : (tmps.setIfInBounds d x).getD d undef = x := by simp [Array.getD, Nat.lt_of_lt_of_le hd hn]
        rw [this]
        exact hr
      · rw [if_neg he]
        have : (tmps.setIfInBounds d x).getD t undef = tmps.getD t undef := by
          simp only [Array.getD_eq_getD_getElem?, Array.getElem?_setIfInBounds_ne he]
        rw [this]
        exact h t
    · exact absurd hp (by simp)
theorem put_size (a : Act) (dst : Option Tmp) (x : Value) : (a.put dst x).tmps.size = a.tmps.size := by
  cases dst <;> simp [Act.put]
theorem get_restr {l : List Nat} {e : Env} (t : Nat) : get (l.map fun s => (s, get e s)) t = if t ∈ l then get e t else .junk := by
  induction l with
  | nil => simp [get]
  | cons s l ih =>
    simp only [List.map_cons, get, ih, List.mem_cons]
    by_cases he : s = t
    · subst he; simp
    · simp [he, Ne.symm he]
theorem EnvRep.restr {φ m w e tmps} (h : EnvRep φ m w e tmps) (l : Option (List Nat)) : EnvRep φ m w (restr l e) tmps := by
  cases l with
  | none => exact h
  | some l =>
    intro t
    simp only [Ev.restr, get_restr]
    split
    · exact h t
    · exact .junk _
end Go.Proofs.YtojaokhkbmiidaaGreat.Ev

namespace Go.Proofs.YtojaokhkbmiidaaGreat.Ev
open Go
set_option linter.unusedVariables false
set_option linter.unusedSimpArgs false
section
variable {P : Program} {φ : Phi} {m : Mem} {w : World}

theorem run_sizeOf' {t : TypeId} {k : Nat} (h : tSize P t = some k) (w : World) : (sizeOf t).run P w = .ok k w := by
  unfold tSize at h
  cases hi : P.info? t with
  | none => simp [hi] at h
  | some i => simp [hi] at h; simp [sizeOf, typeInfo, hi, h]
theorem run_underlying' {t : TypeId} {d : TypeDesc} (h : P.underlying t = some d) (w : World) : (underlying t).run P w = .ok d w := by
  simp [underlying, h]
theorem run_isAgg' {t : TypeId} {b : Bool} (h : tAgg P t = some b) (w : World) : (isAgg t).run P w = .ok b w := by
  unfold tAgg at h
  cases hu : P.underlying t with
  | none => simp [hu] at h
  | some d =>
    simp only [isAgg, Sem.run_bind, run_underlying' hu, Result.andThen_ok]
    cases d <;> simp [hu] at h <;> subst h <;> rfl
theorem elem_under {t e : TypeId} (h : tElem P t = some e) : P.underlying t = some (.slice e) := by
  unfold tElem at h
  split at h
  · rename_i e' hu; simp only [Option.some.injEq] at h; subst h; exact hu
  · cases h
theorem arr_under {t : TypeId} {n : Nat} {e : TypeId} (h : tArr P t = some (n, e)) : P.underlying t = some (.array n e) := by
  unfold tArr at h
  split at h
  · rename_i n' e' hu; simp only [Option.some.injEq, Prod.mk.injEq] at h; obtain ⟨rfl, rfl⟩ := h; exact hu
  · cases h
theorem str_under {t : TypeId} (h : tStr P t = true) : P.underlying t = some .string := by
  unfold tStr at h
  split at h
  · assumption
  · cases h
theorem bool_under {t : TypeId} (h : tBool P t = true) : P.underlying t = some .bool := by
  unfold tBool at h
  split at h
  · assumption
  · cases h
theorem int_under {t : TypeId} {k : IntKind} (h : tInt P t = some k) : P.underlying t = some (.int k) := by
  unfold tInt at h
  split at h
  · rename_i k' hu; simp only [Option.some.injEq] at h; subst h; exact hu
  · cases h

/-! ### operands -/
theorem rep_constCell (t : TypeId) (x : Value) : Rep φ m w (constCell P t x) x := by
  unfold constCell
  split
  · split
    · exact .lst .full _ [] none 0 (fun _ _ => undef) (Nat.le_refl _) (fun i row h => by simp at h) (fun _ => rfl) (fun ad h _ => by cases h) (fun ad i row j x h => by cases h) (fun i row j x h => by simp at h) rfl
    · exact .v _
  · exact .v _
theorem reps_constCells (t : TypeId) (vs : List Value) : (constCells P t vs).length = vs.length ∧ ∀ (i : Nat) a u, (constCells P t vs)[i]? = some a → vs[i]? = some u → Rep φ m w a u := by
  have plain : (vs.map AV.v).length = vs.length ∧ ∀ (i : Nat) a u, (vs.map AV.v)[i]? = some a → vs[i]? = some u → Rep φ m w a u := by
    refine ⟨by simp, fun i a u h1 h2 => ?_⟩
    simp [h2] at h1
    subst h1
    exact .v _
  unfold constCells
  split
  · split
    · rename_i ts _ hl
      refine ⟨by simp [hl], fun i a u h1 h2 => ?_⟩
      rw [List.getElem?_zipWith] at h1
      split at h1
      · rename_i t' u' e1 e2
        rw [h2] at e2
        simp only [Option.some.injEq] at h1 e2
        subst e2; subst h1
        exact rep_constCell _ _
      · cases h1
    · exact plain
  · exact plain
theorem rep_constAV (t : TypeId) (x : Value) : Rep φ m w (constAV P t x) x := by
  unfold constAV
  split
  · rename_i cs
    obtain ⟨h1, h2⟩ := reps_constCells (P := P) (φ := φ) (m := m) (w := w) t cs.toList
    exact .agg _ _ (by simp [h1]) (fun i a u e1 e2 => h2 i a u e1 (by simpa using e2))
  · exact rep_constCell _ _
theorem rep_opd {e : Env} {a : Act} (h : EnvRep φ m w e a.tmps) (t : TypeId) (x : Operand) : Rep φ m w (opd P e t x) (a.eval x) := by
  cases x with
  | tmp s => exact h s
  | const v => exact rep_constAV t v
  | func f => exact .fn _ _ _ _ _ rfl rfl (fun i a u h => by simp at h) (fun i a u h => by simp at h)
  | global g => exact .junk _
theorem rep_zero {t : TypeId} {z : List AV} (h : zeroCells P t = some z) : ∃ v, (zeroValue t).run P w = .ok v w ∧ Reps φ m w z v.cells := by
  unfold zeroCells at h
  cases hi : P.info? t with
  | none => simp [hi] at h
  | some i =>
    simp only [hi] at h
    cases hz : i.zero with
    | none => simp [hz] at h
    | some v =>
      simp only [hz, Option.map_some, Option.some.injEq] at h
      subst h
      refine ⟨v, by simp [zeroValue, typeInfo, hi, hz], ?_⟩
      obtain ⟨h1, h2⟩ := reps_constCells (P := P) (φ := φ) (m := m) (w := w) t v.cells.toList
      exact ⟨by simp [h1], fun i a u e1 e2 => h2 i a u e1 (by simpa using e2)⟩

/-! ### loads -/
/-- These cells lie from an address on. -/
def CellsAt (φ : Phi) (m : Mem) (w : World) (cs : List AV) (ad : Addr) : Prop :=
  ad.spot = none ∧ ∃ val : Nat → Value, ∀ (j : Nat) x, cs[j]? = some x → w.cell? ⟨ad.block, ad.off + j, none⟩ = some (val j) ∧ Rep φ m w x (val j)
theorem cellsAt_ptr (hR : RM φ m w) {r : Nat} {cs : List AV} (h : m.var r = some cs) (off : Nat) : CellsAt φ m w (cs.drop off) ⟨φ.vb r, off, none⟩ := by
  obtain ⟨arr, T, hb, ⟨hn, hr⟩, _⟩ := hR.var r cs h
  refine ⟨rfl, fun j => arr.getD (off + j) undef, fun j x hx => ?_⟩
  rw [List.getElem?_drop] at hx
  have hlt : off + j < arr.size := by rw [hn]; exact (List.getElem?_eq_some_iff.1 hx).1
  have e : arr[off + j]? = some (arr.getD (off + j) undef) := by simp [Array.getD, hlt]
  exact ⟨by simp only [World.cell?, hb]; exact e, hr _ _ _ hx e⟩
theorem cellsAt_of {p : AV} {pv : Value} (hR : RM φ m w) (h : Rep φ m w p pv) {cs : List AV}
    (hp : ptrCells m p = some cs) :
    ∃ ad, pv = .pointer (some ad) ∧ CellsAt φ m w cs ad := by
  unfold ptrCells at hp
  cases h with
  | ptr r off cs' h =>
    simp only [h, Option.map_some, Option.some.injEq] at hp
    subst hp
    exact ⟨_, rfl, cellsAt_ptr hR h off⟩
  | eptr cs' ad val hs hcell hrep =>
    simp only [Option.some.injEq] at hp
    subst hp
    exact ⟨ad, rfl, hs, val, fun j x hx => ⟨(hcell j x hx).2, hrep j x hx⟩⟩
  | _ => simp at hp
theorem addr_add {ad : Addr} (h : ad.spot = none) (n : Nat) : ad.add n = ⟨ad.block, ad.off + n, none⟩ := by
  unfold Addr.add
  split
  · rename_i h0; subst h0; cases ad; simp_all
  · rfl
theorem load_cells {cs : List AV} {ad : Addr} (h : CellsAt φ m w cs ad) {k : Nat} (hk : k ≤ cs.length) :
    ∃ arr, (loadCells ad k).run P w = .ok arr w ∧ Reps φ m w (cs.take k) arr := by
  obtain ⟨hs, val, hv⟩ := h
  refine ⟨((List.range k).map val).toArray, ?_, ?_⟩
  · exact run_loadCells (P := P) w ad k val (fun j hj => by
      rw [addr_add hs]
      exact (hv j (cs[j]'(by omega)) (by simp [List.getElem?_eq_getElem (show j < cs.length by omega)])).1)
  · refine ⟨by simp; omega, fun i a u h1 h2 => ?_⟩
    rw [List.getElem?_take] at h1
    split at h1
    · rename_i hi
      simp [hi] at h2
      subst h2
      exact (hv i a h1).2
    · cases h1
theorem load_sound (hR : RM φ m w) {t : TypeId} {p a : AV} {pv : Value} (hp : Rep φ m w p pv) (h : evLoad P m t p = some a) :
    ∃ x, (Instr.loadAt t pv).run P w = .ok x w ∧ Rep φ m w a x := by
  unfold evLoad at h
  split at h
  · rename_i cs k hcs hagg hsz
    obtain ⟨ad, rfl, hc⟩ := cellsAt_of hR hp hcs
    split at h
    · rename_i hk
      simp only [Option.some.injEq] at h
      subst h
      obtain ⟨arr, hrun, hreps⟩ := load_cells (P := P) hc hk
      exact ⟨.agg arr, by simp [Instr.loadAt, Instr.sureAddr, loadVar, run_isAgg' hagg, run_sizeOf' hsz, hrun], .agg _ _ hreps.1 hreps.2⟩
    · cases h
  · rename_i cs k hcs hagg hsz
    obtain ⟨ad, rfl, hc⟩ := cellsAt_of hR hp hcs
    obtain ⟨hs, val, hv⟩ := hc
    have h0 : cs[0]? = some a := by rw [← List.head?_eq_getElem?]; exact h
    obtain ⟨h1, h2⟩ := hv 0 a h0
    have e : ad = ⟨ad.block, ad.off + 0, none⟩ := by cases ad; simp_all
    rw [← e] at h1
    exact ⟨val 0, by simp [Instr.loadAt, Instr.sureAddr, loadVar, run_isAgg' hagg, h1], h2⟩
  · cases h

/-! ### parts -/
theorem part_sound {t : TypeId} {cs : List AV} {arr : Array Value} (hr : Reps φ m w cs arr) {off : Nat} {a : AV} (h : evPart P t cs off = some a) :
    ∃ x, (part t arr off).run P w = .ok x w ∧ Rep φ m w a x := by
  unfold evPart at h
  split at h
  · rename_i k hagg hsz
    split at h
    · rename_i hk
      simp only [Option.some.injEq] at h
      subst h
      refine ⟨_, by simp [part, run_isAgg' hagg, run_sizeOf' hsz]; rfl, .agg _ _ (by have := hr.1; simp; omega) (fun i a u h1 h2 => ?_)⟩
      rw [List.getElem?_take] at h1
      split at h1
      · rw [List.getElem?_drop] at h1
        rw [Array.getElem?_extract] at h2
        split at h2
        · exact hr.2 _ _ _ h1 h2
        · cases h2
      · cases h1
    · cases h
  · rename_i k hagg hsz
    have hlt : off < arr.size := by rw [hr.1]; exact (List.getElem?_eq_some_iff.1 h).1
    have e : arr[off]? = some arr[off] := by simp [hlt]
    exact ⟨arr[off], by simp [part, run_isAgg' hagg, e], hr.2 _ _ _ h e⟩
  · cases h
theorem field_sound {t : TypeId} {x a : AV} {xv : Value} {i : Nat} (hx : Rep φ m w x xv) (h : evField P t x i = some a) :
    ∃ y, (Instr.field t xv i).run P w = .ok y w ∧ Rep φ m w a y := by
  unfold evField at h
  split at h
  · rename_i off ft cs hf
    cases hx with
    | agg _ arr hn hr =>
      unfold tField at hf
      cases hu : P.underlying t with
      | none => simp [hu] at hf
      | some d =>
        cases d <;> simp [hu] at hf
        rename_i fs
        obtain ⟨f, hf, rfl, rfl⟩ := hf
        obtain ⟨y, hy, hr⟩ := part_sound (P := P) ⟨hn, hr⟩ h
        exact ⟨y, by simp [Instr.field, run_underlying' hu, hf, asAgg, hy], hr⟩
  · cases h
theorem fieldAddr_sound {t : TypeId} {x a : AV} {xv : Value} {i : Nat} (hx : Rep φ m w x xv) (h : evFieldAddr P t x i = some a) :
    ∃ y, (Instr.fieldAt t xv i).run P w = .ok y w ∧ Rep φ m w a y := by
  unfold evFieldAddr at h
  split at h
  · rename_i off ft hf
    split at h
    · rename_i k hsz
      unfold tField at hf
      cases hu : P.underlying t with
      | none => simp [hu] at hf
      | some d =>
        cases d <;> simp [hu] at hf
        rename_i fs
        obtain ⟨f, hf, rfl, rfl⟩ := hf
        have hplace : ∀ ad : Addr, (fieldPlace ad f).run P w = .ok (ad.add f.offset) w := fun ad => by simp [fieldPlace, run_sizeOf' hsz]
        cases hx with
        | ptr r o cs hv =>
          simp only at h
          have key : ∀ b : AV, b = (if f.offset = 0 then AV.ptr r o else .ptr r (o + f.offset)) → Rep φ m w b (.pointer (some ((⟨φ.vb r, o, none⟩ : Addr).add f.offset))) := by
            intro b hb
            rw [addr_add rfl]
            split at hb
            · rename_i h0; subst hb; rw [h0]; exact .ptr r o cs hv
            · subst hb; exact .ptr r _ cs hv
          refine ⟨_, by simp [Instr.fieldAt, run_underlying' hu, hf, Instr.sureAddr, hplace]; rfl, ?_⟩
          refine key a ?_
          split at h <;> simp_all
        | eptr cs ad val hs hcell hrep =>
          simp only at h
          split at h
          · simp only [Option.some.injEq] at h
            subst h
            refine ⟨_, by simp [Instr.fieldAt, run_underlying' hu, hf, Instr.sureAddr, hplace]; rfl, ?_⟩
            rw [addr_add hs]
            refine .eptr _ _ (fun j => val (f.offset + j)) rfl (fun j x hx => ?_) (fun j x hx => ?_)
            · rw [List.getElem?_drop] at hx
              have := hcell _ _ hx
              simpa [Nat.add_assoc] using this
            · rw [List.getElem?_drop] at hx
              exact hrep _ _ hx
          · cases h
        | _ => simp at h
    · cases h
  · cases h
theorem index_sound {t : TypeId} {x i a : AV} {xv iv : Value} (hx : Rep φ m w x xv) (hi : Rep φ m w i iv) (h : evIndex P t x i = some a) :
    ∃ y, (Instr.index t xv iv).run P w = .ok y w ∧ Rep φ m w a y := by
  unfold evIndex at h
  split at h
  · rename_i k n
    cases hi
    split at h
    · rename_i s
      cases hx
      split at h
      · rename_i hc
        obtain ⟨hs, h0, h1⟩ := hc
        simp only [Option.some.injEq] at h
        subst h
        have hlt : n.toNat < s.size := by omega
        refine ⟨.int .u8 (s.get! n.toNat).toNat, ?_, .v _⟩
        have e : s[n.toNat]? = some (s.get! n.toNat) := by
          rw [getElem?_pos s n.toNat hlt]
          congr 1
          simp only [ByteArray.get!, getElem!_def]
          have : s.data[n.toNat]? = some s[n.toNat] := by simp [ByteArray.getElem_eq_getElem_data, hlt]
          rw [this]
        simp [Instr.index, asIntOf, run_underlying' (str_under hs), h0, e]
      · cases h
    · rename_i cs
      cases hx with
      | agg _ arr hn hr =>
        split at h
        · rename_i len e ha
          split at h
          · rename_i sz hsz
            split at h
            · rename_i hc
              obtain ⟨y, hy, hr⟩ := part_sound (P := P) ⟨hn, hr⟩ h
              exact ⟨y, by simp [Instr.index, asIntOf, run_underlying' (arr_under ha), hc, run_sizeOf' hsz, hy], hr⟩
            · cases h
          · cases h
        · cases h
    · cases h
  · cases h
theorem indexAddr_sound {t : TypeId} {x i a : AV} {xv iv : Value} (hx : Rep φ m w x xv) (hi : Rep φ m w i iv) (h : evIndexAddr P t x i = some a) :
    ∃ y, (Instr.indexAt t xv iv).run P w = .ok y w ∧ Rep φ m w a y := by
  unfold evIndexAddr at h
  split at h
  · rename_i k n
    cases hi
    split at h
    · rename_i len e ha
      split at h
      · rename_i r off sz hsz
        split at h
        · rename_i hc
          cases hx with
          | ptr _ _ cs hv =>
            refine ⟨_, by simp [Instr.indexAt, asIntOf, run_underlying' (arr_under ha), Instr.sureAddr, hc, run_sizeOf' hsz]; rfl, ?_⟩
            rw [addr_add rfl]
            split at h
            · rename_i h0; simp only [Option.some.injEq] at h; subst h; rw [h0]; exact .ptr r off cs hv
            · simp only [Option.some.injEq] at h; subst h; exact .ptr r _ cs hv
        · cases h
      · cases h
    · rename_i hna
      split at h
      · rename_i e he
        split at h
        · rename_i sz g rows hsz
          split at h
          · rename_i hc
            obtain ⟨rfl, h0, h1⟩ := hc
            cases hx with
            | lst _ _ _ ad c val hlen hr han hs hcell hrep hg =>
              have hlt : n.toNat < rows.length := by omega
              rw [List.getElem?_eq_getElem hlt] at h
              simp only [Option.map_some, Option.some.injEq] at h
              subst h
              cases ad with
              | none => have := han rfl; omega
              | some ad =>
                refine ⟨_, by simp [Instr.indexAt, asIntOf, run_underlying' (elem_under he), h0, h1, run_sizeOf' hsz]; rfl, ?_⟩
                rw [addr_add (hs ad rfl (by omega))]
                refine .eptr _ _ (val n.toNat) rfl (fun j x hx => ?_) (fun j x hx => hrep n.toNat _ j x (List.getElem?_eq_getElem hlt) hx)
                have := hcell ad n.toNat _ j x rfl (List.getElem?_eq_getElem hlt) hx
                exact ⟨this.1, this.2.1⟩
          · cases h
        · rename_i sz r off n' c' hsz
          split at h
          · rename_i hc
            obtain ⟨rfl, h0, h1⟩ := hc
            cases hx with
            | vs _ _ _ _ _ cs hv hb hn =>
              simp only [Option.some.injEq] at h
              subst h
              refine ⟨_, by simp [Instr.indexAt, asIntOf, run_underlying' (elem_under he), h0, h1, run_sizeOf' hsz]; rfl, ?_⟩
              rw [addr_add rfl]
              exact .ptr _ _ cs hv
          · cases h
        · cases h
      · cases h
  · cases h
end
end Go.Proofs.YtojaokhkbmiidaaGreat.Ev

namespace Go.Proofs.YtojaokhkbmiidaaGreat.Ev
open Go
set_option linter.unusedVariables false
set_option linter.unusedSimpArgs false
section
variable {P : Program} {φ : Phi} {m : Mem} {w : World}

/-! ### cuts -/
def OptRep (φ : Phi) (m : Mem) (w : World) (x : Option AV) (v : Option Value) : Prop :=
  (x = none ∧ v = none) ∨ ∃ a u, x = some a ∧ v = some u ∧ Rep φ m w a u
theorem bound_run {x : Option AV} {xv : Option Value} (hx : OptRep φ m w x xv) {d l : Nat} (h : evBound x d = some l) :
    (x = none ∧ xv = none ∧ l = d) ∨ ∃ k i, xv = some (.int k i) ∧ 0 ≤ i ∧ l = i.toNat := by
  rcases hx with ⟨rfl, rfl⟩ | ⟨a, u, rfl, rfl, hr⟩
  · simp only [evBound, Option.some.injEq] at h
    exact .inl ⟨rfl, rfl, h.symm⟩
  · unfold evBound at h
    split at h
    · rename_i e; cases e
    · rename_i k i e
      simp only [Option.some.injEq] at e
      subst e
      cases hr
      split at h
      · rename_i h0
        simp only [Option.some.injEq] at h
        exact .inr ⟨_, _, rfl, h0, h.symm⟩
      · cases h
    · cases h

theorem bounds_run {lo hi : Option AV} {lov hiv : Option Value} (hlo : OptRep φ m w lo lov) (hhi : OptRep φ m w hi hiv) {len cap l h : Nat} {b : Bool}
    (el : evBound lo 0 = some l) (eh : evBound hi len = some h) (h1 : l ≤ h) (h2 : h ≤ cap) (h3 : hi = none → len ≤ cap) :
    (Instr.sliceBounds b len cap lov hiv none).run P w = .ok (l, h, cap) w := by
  rcases bound_run hlo el with ⟨rfl, rfl, rfl⟩ | ⟨k, i, rfl, i0, rfl⟩ <;> rcases bound_run hhi eh with ⟨rfl, rfl, rfl⟩ | ⟨k', i', rfl, i0', rfl⟩
  · simp [Instr.sliceBounds]
  · have : i' ≤ (cap : Int) := by omega
    simp [Instr.sliceBounds, Instr.sliceBound, asIntOf, i0', this]
  · have : i ≤ (h : Int) := by omega
    simp [Instr.sliceBounds, Instr.sliceBound, asIntOf, i0, this]
  · have : i' ≤ (cap : Int) := by omega
    have : i ≤ i' := by omega
    have e : max i' 0 = i' := by omega
    simp [Instr.sliceBounds, Instr.sliceBound, asIntOf, i0, i0', this, ‹i' ≤ (cap : Int)›, e]
theorem slice_sound (hR : RM φ m w) {t : TypeId} {x a : AV} {xv : Value} {lo hi mx : Option AV} {lov hiv mxv : Option Value} (hx : Rep φ m w x xv)
    (hlo : OptRep φ m w lo lov) (hhi : OptRep φ m w hi hiv) (hmx : OptRep φ m w mx mxv) (h : evSlice P m t x lo hi mx = some a) :
    ∃ y, (Instr.sliceAt t xv lov hiv mxv).run P w = .ok y w ∧ Rep φ m w a y := by
  have hmn : mx = none → mxv = none := fun e => by
    rcases hmx with ⟨_, e2⟩ | ⟨a, u, e1, _, _⟩
    · exact e2
    · rw [e] at e1; cases e1
  unfold evSlice at h
  split at h
  · rename_i s
    cases hx
    split at h
    · rename_i l hh el eh
      obtain rfl := hmn rfl
      split at h
      · rename_i hc
        obtain ⟨hs, c1, c2⟩ := hc
        simp only [Option.some.injEq] at h
        subst h
        exact ⟨_, by simp [Instr.sliceAt, Instr.slice, run_underlying' (str_under hs), bounds_run hlo hhi el eh c1 c2 (fun _ => Nat.le_refl _)], .v _⟩
      · cases h
    · cases h
  · rename_i g sz rows
    split at h
    · rename_i e he
      split at h
      · rename_i k l hh hsz el eh
        obtain rfl := hmn rfl
        split at h
        · rename_i hc
          obtain ⟨rfl, c1, c2⟩ := hc
          simp only [Option.some.injEq] at h
          subst h
          cases hx with
          | lst _ _ _ ad c val hlen hr han hs hcell hrep hg =>
            have hb := bounds_run (P := P) (b := true) hlo hhi el eh c1 (Nat.le_trans c2 hlen) (fun _ => hlen)
            refine ⟨.slice (if c = l then ad else ad.map (·.add (l * sz))) (hh - l) (c - l), by simp [Instr.sliceAt, Instr.slice, run_underlying' (elem_under he), hb, run_sizeOf' hsz], ?_⟩
            have elen : ((rows.take hh).drop l).length = hh - l := by simp; omega
            have get' : ∀ (i : Nat) row, ((rows.take hh).drop l)[i]? = some row → rows[l + i]? = some row := fun i row hi => by
              rw [List.getElem?_drop, List.getElem?_take] at hi
              split at hi
              · exact hi
              · cases hi
            rw [← elen]
            refine .lst .no sz _ _ _ (fun i j => val (l + i) j) (by rw [elen]; omega) (fun i row hi => hr _ _ (get' i row hi)) (fun e1 => ?_) (fun ad' e1 hpos => ?_) (fun ad' i row j x e1 e2 e3 => ?_) (fun i row j x e2 e3 => hrep _ _ _ _ (get' i row e2) e3) trivial
            · split at e1
              · omega
              · cases ad with
                | none => have := han rfl; omega
                | some ad => cases e1
            · split at e1
              · exact hs ad' e1 (by omega)
              · cases ad with
                | none => cases e1
                | some ad0 =>
                  simp only [Option.map_some, Option.some.injEq] at e1
                  subst e1
                  rw [addr_add (hs ad0 rfl (by omega))]
            · have e4 := get' i row e2
              have hlt : i < hh - l := by rw [← elen]; exact (List.getElem?_eq_some_iff.1 e2).1
              rw [if_neg (by omega)] at e1
              cases ad with
              | none => cases e1
              | some ad0 =>
                simp only [Option.map_some, Option.some.injEq] at e1
                subst e1
                rw [addr_add (hs ad0 rfl (by omega))]
                have := hcell ad0 (l + i) row j x rfl e4 e3
                simpa [Nat.add_mul, Nat.add_assoc] using this
        · cases h
      · cases h
    · cases h
  · rename_i r off
    split at h
    · rename_i n e ha
      obtain rfl := hmn rfl
      split at h
      · rename_i k l hh cs hsz el eh hv
        split at h
        · rename_i hc
          obtain ⟨rfl, c2, c3⟩ := hc
          simp only [Option.some.injEq] at h
          subst h
          cases hx with
          | ptr _ _ cs' hv' =>
            have hb := bounds_run (P := P) (b := false) hlo hhi el eh (Nat.zero_le _) c2 (fun _ => Nat.le_refl _)
            refine ⟨.slice (some ⟨φ.vb r, off, none⟩) hh n, ?_, .vs r off k hh n cs hv c3 c2⟩
            have e0 : (⟨φ.vb r, off, none⟩ : Addr).add 0 = ⟨φ.vb r, off, none⟩ := rfl
            simp [Instr.sliceAt, run_underlying' (arr_under ha), Instr.sureAddr, hb, run_sizeOf' hsz, e0]
        · split at h
          · rename_i hc
            obtain ⟨c0, c1, c2, c3⟩ := hc
            simp only [Option.some.injEq] at h
            subst h
            cases hx with
            | ptr _ _ cs' hv' =>
              have hb := bounds_run (P := P) (b := false) hlo hhi el eh c1 c2 (fun _ => Nat.le_refl _)
              have hle : off + l * k + (n - l) * k ≤ cs.length := by
                have e : l * k + (n - l) * k = n * k := by rw [← Nat.add_mul, Nat.add_sub_cancel' (Nat.le_of_lt c0)]
                omega
              refine ⟨.slice (some ⟨φ.vb r, off + l * k, none⟩) (hh - l) (n - l), ?_, .vs r (off + l * k) k (hh - l) (n - l) cs hv hle (by omega)⟩
              have e0 : (⟨φ.vb r, off, none⟩ : Addr).add (l * k) = ⟨φ.vb r, off + l * k, none⟩ := addr_add (ad := ⟨φ.vb r, off, none⟩) rfl _
              have e1 : ¬ n = l := by omega
              simp [Instr.sliceAt, run_underlying' (arr_under ha), Instr.sureAddr, hb, run_sizeOf' hsz, e0, e1]
          · cases h
      · cases h
    · cases h
  · cases h

/-! ### lengths -/
theorem len_sound {t : TypeId} {x a : AV} {xv : Value} (ty : TypeId) (hx : Rep φ m w x xv) (h : evLen P t x = some a) :
    ∃ y, (Builtin.len_ #[t] ty #[xv]).run P w = .ok y w ∧ Rep φ m w a y := by
  have arr : ∀ a, ((tArr P t).map fun (n, _) => AV.v (.int .i64 n)) = some a → ∃ y, (Builtin.len_ #[t] ty #[xv]).run P w = .ok y w ∧ Rep φ m w a y := by
    intro a h
    cases ha : tArr P t with
    | none => simp [ha] at h
    | some p =>
      obtain ⟨n, e⟩ := p
      simp only [ha, Option.map_some, Option.some.injEq] at h
      subst h
      exact ⟨_, by simp [Builtin.len_, run_underlying' (arr_under ha), goInt], .v _⟩
  have sl : ∀ (n : Nat) c (ad : Option Addr), xv = .slice ad n c → ∀ a, ((tElem P t).map fun _ => AV.v (.int .i64 n)) = some a → ∃ y, (Builtin.len_ #[t] ty #[xv]).run P w = .ok y w ∧ Rep φ m w a y := by
    intro n c ad hxv a h
    cases he : tElem P t with
    | none => simp [he] at h
    | some e =>
      simp only [he, Option.map_some, Option.some.injEq] at h
      subst h
      subst hxv
      exact ⟨_, by simp [Builtin.len_, run_underlying' (elem_under he), goInt], .v _⟩
  unfold evLen at h
  split at h
  · cases hx
    split at h
    · rename_i hs
      simp only [Option.some.injEq] at h
      subst h
      exact ⟨_, by simp [Builtin.len_, run_underlying' (str_under hs), goInt], .v _⟩
    · cases h
  · cases hx with
    | lst => exact sl _ _ _ rfl _ h
  · cases hx
    exact sl 0 0 none rfl _ h
  · cases hx with
    | vs => exact sl _ _ _ rfl _ h
  · exact arr _ h

/-! ### arithmetic -/
theorem evInt_sound {op : BinOp} {k k' : IntKind} {a b : Int} {r : AV} (t : TypeId) (h : evInt op k a k' b = some r) :
    ∃ y, (binOp op t (.int k a) (.int k' b)).run P w = .ok y w ∧ Rep φ m w r y := by
  unfold evInt at h
  split at h <;> (split at h <;> (first | (simp only [Option.some.injEq] at h; subst h) | cases h)) <;>
    first
    | (rename_i hk; subst hk; exact ⟨_, by simp [binOp, Op.intArith, Op.intBits, Op.intCmp], .v _⟩)
    | (rename_i hk; obtain ⟨rfl, hb⟩ := hk; exact ⟨_, by simp [binOp, Op.intDiv, hb], .v _⟩)
    | (rename_i hk; exact ⟨_, by simp [binOp, Op.shift, hk], .v _⟩)
theorem evStr_sound {op : BinOp} {a b : ByteArray} {r : AV} (t : TypeId) (h : evStr op a b = some r) :
    ∃ y, (binOp op t (.string a) (.string b)).run P w = .ok y w ∧ Rep φ m w r y := by
  unfold evStr at h
  split at h
  · split at h
    · rename_i hs
      simp only [Option.some.injEq] at h
      subst h
      refine ⟨_, ?_, .v _⟩
      have : ¬ (((a.size + b.size : Nat) : Int) > IntKind.i64.max) := by
        show ¬ (((a.size + b.size : Nat) : Int) > 9223372036854775807)
        omega
      simp only [binOp, Op.stringOp]
      rw [if_neg this]
      rfl
    · cases h
  · simp only [Option.some.injEq] at h
    subst h
    exact ⟨_, by simp only [binOp, Op.stringOp]; rw [← beq_toListBytes]; rfl, .v _⟩
  · simp only [Option.some.injEq] at h
    subst h
    refine ⟨_, ?_, .v _⟩
    simp only [binOp, Op.stringOp]
    rw [← beq_toListBytes]
    rfl
  · cases h

/-! ### comparisons of structs -/
theorem eqFields_sound {N d : Nat} (ih : ∀ t x y b xv yv, eqTy P d t x y = some b → Rep φ m w x xv → Rep φ m w y yv → (Op.equalIn (d + N) t xv yv).run P w = .ok b w)
    {xs ys : List AV} {xa ya : Array Value} (hx : Reps φ m w xs xa) (hy : Reps φ m w ys ya) :
    ∀ (fs : List Field) b, eqFieldsAV P (eqTy P d) xs ys fs = some b → (Op.eqFields (d + N) xa ya fs).run P w = .ok b w
  | [], b, h => by simp only [eqFieldsAV, Option.some.injEq] at h; subst h; rfl
  | f :: r, b, h => by
    simp only [eqFieldsAV] at h
    split at h
    · cases h
    · rename_i hn
      split at h
      · rename_i p q hp hq
        split at h
        · rename_i b1 b2 e1 e2
          simp only [Option.some.injEq] at h
          subst h
          obtain ⟨pv, hpr, rp⟩ := part_sound (P := P) hx hp
          obtain ⟨qv, hqr, rq⟩ := part_sound (P := P) hy hq
          have h1 := ih _ _ _ _ _ _ e1 rp rq
          have h2 := eqFields_sound ih hx hy r b2 e2
          simp only [Op.eqFields]
          rw [if_pos hn]
          simp only [Sem.run_bind, hpr, hqr, h1, Result.andThen_ok]
          cases b1
          · simp
          · simp [h2]
        · cases h
      · cases h
theorem eqElems_sound {N d : Nat} (ih : ∀ t x y b xv yv, eqTy P d t x y = some b → Rep φ m w x xv → Rep φ m w y yv → (Op.equalIn (d + N) t xv yv).run P w = .ok b w)
    {xs ys : List AV} {xa ya : Array Value} (hx : Reps φ m w xs xa) (hy : Reps φ m w ys ya) {e : TypeId} {k : Nat} :
    ∀ (l : List Nat) b, eqElemsAV P (eqTy P d) e k xs ys l = some b →
      ∃ o : Option Bool, (forIn (m := Sem) l ((none, ()) : Option Bool × Unit) fun i _ => do
        if (!(← Op.equalIn (d + N) e (← part e xa (i * k)) (← part e ya (i * k)))) = true then pure (.done (some false, ())) else pure (.yield (none, ()))).run P w = .ok (o, ()) w ∧ (o = if b then none else some false)
  | [], b, h => by simp only [eqElemsAV, Option.some.injEq] at h; subst h; exact ⟨none, rfl, rfl⟩
  | i :: r, b, h => by
    simp only [eqElemsAV] at h
    split at h
    · rename_i p q hp hq
      split at h
      · rename_i b1 b2 e1 e2
        simp only [Option.some.injEq] at h
        subst h
        obtain ⟨pv, hpr, rp⟩ := part_sound (P := P) hx hp
        obtain ⟨qv, hqr, rq⟩ := part_sound (P := P) hy hq
        have h1 := ih _ _ _ _ _ _ e1 rp rq
        obtain ⟨o, ho, eo⟩ := eqElems_sound ih hx hy r b2 e2
        cases b1
        · exact ⟨some false, by simp [List.forIn_cons, hpr, hqr, h1], rfl⟩
        · refine ⟨o, ?_, by simpa using eo⟩
          simp only [List.forIn_cons, Sem.run_bind, hpr, hqr, h1, Result.andThen_ok]
          simpa using ho
      · cases h
    · cases h
theorem eqTy_sound (N d : Nat) : ∀ t x y b xv yv, eqTy P d t x y = some b → Rep φ m w x xv → Rep φ m w y yv → (Op.equalIn (d + N) t xv yv).run P w = .ok b w := by
  induction d with
  | zero => intro t x y b xv yv h; simp [eqTy] at h
  | succ d ih =>
    intro t x y b xv yv h hx hy
    rw [show d + 1 + N = d + N + 1 by omega]
    simp only [eqTy] at h
    split at h
    · rename_i hu
      cases hx; cases hy
      simp only [Option.some.injEq] at h
      subst h
      exact run_equalIn_bool' w _ t _ _ hu
    · rename_i hu
      cases hx; cases hy
      split at h
      · rename_i hk
        subst hk
        simp only [Option.some.injEq] at h
        subst h
        exact run_equalIn_int w _ t _ _ _ _ hu
      · cases h
    · rename_i hu
      cases hx; cases hy
      simp only [Option.some.injEq] at h
      subst h
      rw [beq_toListBytes]
      exact run_equalIn_string w _ t _ _ hu
    · rename_i fs xs ys hu
      split at h
      · cases h
      · rename_i hst
        cases hx with
        | agg _ xa hxn hxr =>
          cases hy with
          | agg _ ya hyn hyr =>
            have hf : P.fieldsOf t = fs := by unfold Program.fieldsOf; rw [hu]
            rw [run_equalIn_struct w (d + N) t xa ya (by rw [hf]; exact hu) (by simpa using hst), hf]
            exact eqFields_sound (fun t x y b xv yv => ih t x y b xv yv) ⟨hxn, hxr⟩ ⟨hyn, hyr⟩ fs.toList b h
    · rename_i n e xs ys hu
      cases hx with
      | agg _ xa hxn hxr =>
        cases hy with
        | agg _ ya hyn hyr =>
          cases hk : tSize P e with
          | none => simp [hk] at h
          | some k =>
            simp only [hk, Option.bind_some] at h
            obtain ⟨o, ho, eo⟩ := eqElems_sound (fun t x y b xv yv => ih t x y b xv yv) ⟨hxn, hxr⟩ ⟨hyn, hyr⟩ (List.range n) b h
            simp only [Op.equalIn, Sem.run_bind, run_underlying' hu, Result.andThen_ok, run_sizeOf' hk]
            rw [Std.Legacy.Range.forIn_eq_forIn_range']
            have er : List.range' ([:n] : Std.Legacy.Range).start ([:n] : Std.Legacy.Range).size ([:n] : Std.Legacy.Range).step = List.range n := by
              simp [Std.Legacy.Range.size, List.range_eq_range']
            rw [er, ho]
            subst eo
            cases b <;> simp
    · cases h
end
end Go.Proofs.YtojaokhkbmiidaaGreat.Ev

namespace Go.Proofs.YtojaokhkbmiidaaGreat.Ev
open Go
set_option linter.unusedVariables false
set_option linter.unusedSimpArgs false
section
variable {P : Program} {φ : Phi} {m : Mem} {w : World}

theorem eqGuardType_of (d : Nat) : ∀ t D, noIface P d t = true → d ≤ D → P.eqGuardType D t = false := by
  induction d with
  | zero => intro t D h; simp [noIface] at h
  | succ d ih =>
    intro t D h hD
    obtain ⟨D, rfl⟩ : ∃ x, D = x + 1 := ⟨D - 1, by omega⟩
    simp only [noIface] at h
    simp only [Program.eqGuardType]
    cases hu : P.underlying t with
    | none => rfl
    | some d' =>
      cases d' with
      | interface ms => simp [hu] at h
      | struct fs =>
        simp only [hu] at h
        rw [List.all_eq_true] at h
        simp only
        rw [← Array.any_toList, List.any_eq_false]
        intro f hf
        simp [ih _ D (h f hf) (by omega)]
      | array n e =>
        simp only [hu] at h
        exact ih _ D h (by omega)
      | _ => rfl
theorem guard_plain {op : BinOp} {t : TypeId} {x y : Operand} {a b : Value} (h1 : ∀ cs, a ≠ .agg cs) (h2 : a ≠ .nilIface) : (eqGuard op t x y a b).run P w = .ok () w := by
  unfold eqGuard
  split <;> simp <;> (split <;> simp_all)
theorem guard_agg {op : BinOp} {t : TypeId} {x y : Operand} {a b : Array Value} (h : noIface P 8 t = true) : (eqGuard op t x y (.agg a) (.agg b)).run P w = .ok () w := by
  unfold eqGuard
  have hd : 8 ≤ P.depth := by unfold Program.depth Made.depth; omega
  split <;> simp [eqGuardType_of 8 t P.depth h hd]
theorem bin_sound {op : BinOp} {t : TypeId} {x y r : AV} {xv yv : Value} {ox oy : Operand} (hx : Rep φ m w x xv) (hy : Rep φ m w y yv) (h : evBin P op t x y = some r) :
    ∃ z, (do eqGuard op t ox oy xv yv; binOp op t xv yv : Sem Value).run P w = .ok z w ∧ Rep φ m w r z := by
  unfold evBin at h
  split at h
  · cases hx; cases hy
    obtain ⟨z, hz, hr⟩ := evInt_sound (P := P) (φ := φ) (m := m) (w := w) t h
    exact ⟨z, by simp [guard_plain, hz], hr⟩
  · cases hx; cases hy
    obtain ⟨z, hz, hr⟩ := evStr_sound (P := P) (φ := φ) (m := m) (w := w) t h
    exact ⟨z, by simp [guard_plain, hz], hr⟩
  · cases hx; cases hy
    split at h
    · rename_i hb
      have hu := bool_under hb
      split at h
      · simp only [Option.some.injEq] at h
        subst h
        exact ⟨_, by simp [guard_plain, binOp, Op.equal, Op.maxDepth, run_equalIn_bool' w _ t _ _ hu], .v _⟩
      · simp only [Option.some.injEq] at h
        subst h
        rename_i a b _
        refine ⟨.bool (!(a == b)), by simp only [Sem.run_bind, guard_plain, ne_eq, reduceCtorEq, not_false_eq_true, implies_true, Result.andThen_ok, binOp, Op.equal, Op.maxDepth, run_equalIn_bool' w _ t _ _ hu, Sem.run_pure], ?_⟩
        exact .v _
      · cases h
    · cases h
  · rename_i xs ys
    split at h
    · rename_i hn
      cases hx with
      | agg _ xa hxn hxr =>
        cases hy with
        | agg _ ya hyn hyr =>
          have key : ∀ b, eqTy P 8 t (.agg xs) (.agg ys) = some b → (Op.equal t (.agg xa) (.agg ya)).run P w = .ok b w := fun b hb =>
            eqTy_sound (φ := φ) (m := m) 9992 8 t _ _ b _ _ hb (.agg _ _ hxn hxr) (.agg _ _ hyn hyr)
          split at h
          · cases he : eqTy P 8 t (.agg xs) (.agg ys) with
            | none => simp [he] at h
            | some b =>
              simp only [he, Option.map_some, Option.some.injEq] at h
              subst h
              exact ⟨_, by simp [guard_agg hn, binOp, key b he], .v _⟩
          · cases he : eqTy P 8 t (.agg xs) (.agg ys) with
            | none => simp [he] at h
            | some b =>
              simp only [he, Option.map_some, Option.some.injEq] at h
              subst h
              exact ⟨_, by simp [guard_agg hn, binOp, key b he], .v _⟩
          · cases h
    · cases h
  · cases h
theorem un_sound {op : UnOp} {x r : AV} {xv : Value} (hx : Rep φ m w x xv) (h : evUn op x = some r) : ∃ z, (Op.unary op xv).run P w = .ok z w ∧ Rep φ m w r z := by
  unfold evUn at h
  split at h <;> first | (cases hx; simp only [Option.some.injEq] at h; subst h; exact ⟨_, by simp [Op.unary, Op.intArith, Op.intBits]; done, .v _⟩) | (cases hx; simp only [Option.some.injEq] at h; subst h; exact ⟨_, rfl, .v _⟩) | cases h

theorem foldI_sound {f : Int → Int → Int} {g : Value → Value → Sem Value} (hg : ∀ k a b w, (g (.int k a) (.int k b)).run P w = .ok (.int k (f a b)) w) {k : IntKind} :
    ∀ (xs : List AV) (vs : List Value) (x : Int) r, evFoldI f k x xs = some r → vs.length = xs.length → (∀ (i : Nat) a u, xs[i]? = some a → vs[i]? = some u → Rep φ m w a u) →
      ∃ z, (vs.foldlM g (.int k x)).run P w = .ok z w ∧ Rep φ m w r z
  | [], [], x, r, h, _, _ => by simp only [evFoldI, Option.some.injEq] at h; subst h; exact ⟨_, rfl, .v _⟩
  | a :: xs, u :: vs, x, r, h, hl, hr => by
    have h0 := hr 0 a u rfl rfl
    cases a with
    | v q =>
      cases q with
      | int k' y =>
        simp only [evFoldI] at h
        split at h
        · rename_i hk
          subst hk
          cases h0
          obtain ⟨z, hz, hzr⟩ := foldI_sound hg xs vs (f x y) r h (by simpa using hl) (fun i a u h1 h2 => hr (i + 1) a u (by simpa using h1) (by simpa using h2))
          exact ⟨z, by simp [hg, hz], hzr⟩
        · cases h
      | _ => simp [evFoldI] at h
    | _ => simp [evFoldI] at h
  | [], _ :: _, _, _, _, hl, _ => by simp at hl
  | _ :: _, [], _, _, _, hl, _ => by simp at hl
theorem minmax_sound {f : Int → Int → Int} {g : Value → Value → Sem Value} (hg : ∀ k a b w, (g (.int k a) (.int k b)).run P w = .ok (.int k (f a b)) w)
    {xs : List AV} {vs : Array Value} {r : AV} (hr : Reps φ m w xs vs) (h : evMinMax f xs = some r) :
    ∃ k x rest, vs.toList = .int k x :: rest ∧ ∃ z, (rest.foldlM g (.int k x)).run P w = .ok z w ∧ Rep φ m w r z := by
  obtain ⟨hn, hr⟩ := hr
  unfold evMinMax at h
  split at h
  · rename_i k x rest
    cases hv : vs.toList with
    | nil => have := congrArg List.length hv; simp at this; simp [this] at hn
    | cons u us =>
      have e : ∀ i : Nat, vs[i]? = (u :: us)[i]? := fun i => by rw [← hv]; simp
      have h0 := hr 0 _ u rfl (by rw [e]; rfl)
      cases h0
      have hlen : us.length = rest.length := by have := congrArg List.length hv; simp at this hn; omega
      obtain ⟨z, hz, hzr⟩ := foldI_sound hg rest us x r h hlen (fun i a u' h1 h2 => hr (i + 1) a u' (by simpa using h1) (by rw [e]; simpa using h2))
      exact ⟨k, x, us, rfl, z, hz, hzr⟩
  · cases h
theorem max2_int (k : IntKind) (a b : Int) (w : World) : (Builtin.max2 (.int k a) (.int k b)).run P w = .ok (.int k (mx a b)) w := rfl
theorem min2_int (k : IntKind) (a b : Int) (w : World) : (Builtin.min2 (.int k a) (.int k b)).run P w = .ok (.int k (mn a b)) w := rfl
end
end Go.Proofs.YtojaokhkbmiidaaGreat.Ev

namespace Go.Proofs.YtojaokhkbmiidaaGreat.Ev
open Go
set_option linter.unusedVariables false
set_option linter.unusedSimpArgs false
section
variable {P : Program} {φ : Phi} {m : Mem} {w : World}

theorem cell_of_heap {w w' : World} {b : Nat} (h : w'.heap[b]? = w.heap[b]?) (o : Nat) : w'.cell? ⟨b, o, none⟩ = w.cell? ⟨b, o, none⟩ := by
  simp [World.cell?, h]

theorem alloc_size (w : World) (o : Obj) : (w.alloc o).heap.size = w.heap.size + 1 := Array.size_push ..

/-! ### a draw -/
theorem drew_ext (φ : Phi) (m : Mem) (w : World) : Ext φ m w φ m { w with drawn := w.drawn + 1 } :=
  ⟨rfl, rfl, rfl, Nat.le_refl _, fun _ _ h => ⟨h, rfl⟩, fun _ cs h => ⟨rfl, cs, h, rfl⟩, fun _ v h => ⟨v, h, Nat.le_refl _, fun _ => rfl⟩, fun _ _ _ => rfl, fun _ h => .inl h⟩
theorem drew_rm (hR : RM φ m w) : RM φ m { w with drawn := w.drawn + 1 } where
  var r cs h := by
    obtain ⟨arr, T, h1, h2, h3⟩ := hR.var r cs h
    exact ⟨arr, T, h1, h2.mono (drew_ext φ m w), h3⟩
  inj := hR.inj
  vim := hR.vim
  tok := hR.tok
  tinj := hR.tinj
  imlt := hR.imlt

/-! ### a new variable -/
theorem newVar_spec {p : Nat} {cs : List AV} {m' : Mem} (h : newVar m p cs = some m') :
    cs.all (refLe p) = true ∧ m.var p = none ∧ m'.toks = m.toks ∧ (∀ r, m'.var r = if r = p then some cs else m.var r) ∧ m'.vars.length = max m.vars.length (p + 1) := by
  unfold newVar at h
  split at h
  · rename_i hc
    split at h
    · rename_i hp
      simp only [Option.some.injEq] at h
      subst h
      refine ⟨hc, by simp [Mem.var, hp], rfl, fun r => ?_, by simp; omega⟩
      simp only [Mem.var, List.getElem?_append, hp]
      by_cases hr : r = m.vars.length
      · subst hr; simp
      · by_cases hlt : r < m.vars.length
        · simp [hr, hlt]
        · have h2 : r - m.vars.length ≠ 0 := by omega
          obtain ⟨k, hk⟩ : ∃ k, r - m.vars.length = k + 1 := ⟨r - m.vars.length - 1, by omega⟩
          simp [hr, hlt, hk, List.getElem?_eq_none (Nat.le_of_not_lt hlt)]
    · split at h
      · rename_i hv
        simp only [Option.some.injEq] at h
        subst h
        have hlt : p < m.vars.length := (List.getElem?_eq_some_iff.1 hv).1
        refine ⟨hc, by simp [Mem.var, hv], rfl, fun r => ?_, by simp; omega⟩
        simp only [Mem.var]
        by_cases hr : r = p
        · subst hr; simp [hlt]
        · simp [hr, List.getElem?_set_ne (Ne.symm hr)]
      · cases h
  · cases h
theorem newVar_sound (hR : RM φ m w) {p : Nat} {cs : List AV} {m' : Mem} (h : newVar m p cs = some m') {arr : Array Value} (hr : Reps φ m w cs arr) (hok : cs.all okCell = true) (T : TypeId) :
    ∃ φ', RM φ' m' (w.alloc (.cells arr T)) ∧ Ext φ m w φ' m' (w.alloc (.cells arr T)) ∧ φ'.vb p = w.heap.size ∧ m'.var p = some cs := by
  obtain ⟨hle, hnone, htoks, hvar, _⟩ := newVar_spec h
  have hp : m'.var p = some cs := by rw [hvar, if_pos rfl]
  have hold : ∀ r cs', m.var r = some cs' → r ≠ p ∧ m'.var r = some cs' := fun r cs' hv => by
    have : r ≠ p := fun e => by subst e; rw [hnone] at hv; cases hv
    exact ⟨this, by rw [hvar, if_neg this]; exact hv⟩
  have hblk : ∀ b, b < w.heap.size → (w.alloc (.cells arr T)).heap[b]? = w.heap[b]? := fun b hb => heap_alloc_old w _ b hb
  have lt_of : ∀ b o, w.heap[b]? = some o → b < w.heap.size := fun b o h => (Array.getElem?_eq_some_iff.1 h).1
  let φ' : Phi := { φ with vb := fun r => if r = p then w.heap.size else φ.vb r }
  have hext : Ext φ m w φ' m' (w.alloc (.cells arr T)) := {
    os := rfl, tape := rfl, output := rfl, size := by rw [alloc_size]; omega
    im := fun b o hi => ⟨hi, cell_of_heap (hblk b (hR.imlt b o hi)) o⟩
    vb := fun r cs' hv => ⟨by show (if r = p then _ else _) = _; rw [if_neg (hold r cs' hv).1], cs', (hold r cs' hv).2, rfl⟩
    tk := fun id v hv => ⟨v, by rw [htoks]; exact hv, Nat.le_refl _, fun _ => rfl⟩
    blk := fun b hb _ => hblk b hb
    own := fun b hb => by
      rcases hb with ⟨r, cs', hv, e⟩ | ⟨id, s, e', hlt, htk, hse⟩
      · rw [hvar] at hv
        split at hv
        · rename_i hrp
          right
          have : φ'.vb r = w.heap.size := if_pos hrp
          omega
        · rename_i hrp
          exact .inl (.inl ⟨r, cs', hv, by rw [← e]; exact (if_neg hrp).symm⟩)
      · exact .inl (.inr ⟨id, s, e', by rw [htoks] at hlt; exact hlt, htk, hse⟩) }
  have hvbp : φ'.vb p = w.heap.size := if_pos rfl
  have hvbo : ∀ r, r ≠ p → φ'.vb r = φ.vb r := fun r hrp => if_neg hrp
  refine ⟨φ', ?_, hext, hvbp, hp⟩
  exact {
    var := fun r cs' hv => by
      rw [hvar] at hv
      split at hv
      · rename_i hrp
        subst hrp
        simp only [Option.some.injEq] at hv
        subst hv
        exact ⟨arr, T, by rw [hvbp]; exact heap_alloc_new w _, hr.mono hext, hok, hle⟩
      · rename_i hrp
        obtain ⟨arr', T', h1, h2, h3⟩ := hR.var r cs' hv
        exact ⟨arr', T', by rw [hvbo r hrp, hblk _ (lt_of _ _ h1)]; exact h1, h2.mono hext, h3⟩
    inj := fun r r' cs1 cs2 h1 h2 e => by
      rw [hvar] at h1 h2
      split at h1 <;> split at h2
      · omega
      · rename_i e1 e2
        obtain ⟨_, _, hb, _⟩ := hR.var r' cs2 h2
        have := lt_of _ _ hb
        rw [e1, hvbp, hvbo r' e2] at e
        omega
      · rename_i e1 e2
        obtain ⟨_, _, hb, _⟩ := hR.var r cs1 h1
        have := lt_of _ _ hb
        rw [e2, hvbp, hvbo r e1] at e
        omega
      · rename_i e1 e2
        rw [hvbo r e1, hvbo r' e2] at e
        exact hR.inj r r' cs1 cs2 h1 h2 e
    vim := fun r cs' o hv => by
      rw [hvar] at hv
      split at hv
      · rename_i hrp
        intro hi
        have := hR.imlt _ _ hi
        rw [hrp, hvbp] at this
        omega
      · rename_i hrp
        rw [hvbo r hrp]
        exact hR.vim r cs' o hv
    tok := fun id b s e hlt htk hse => by
      rw [htoks] at hlt
      obtain ⟨arr', T', h1, h2, h3, h4, h5⟩ := hR.tok id b s e hlt htk hse
      refine ⟨arr', T', by rw [hblk _ (lt_of _ _ h1)]; exact h1, h2, h3, fun r cs' hv => ?_, h5⟩
      rw [hvar] at hv
      split at hv
      · rename_i hrp
        have := lt_of _ _ h1
        rw [hrp, hvbp]
        omega
      · rename_i hrp
        rw [hvbo r hrp]
        exact h4 r cs' hv
    tinj := fun id id' b s e s' e' h1 h2 => by rw [htoks] at h1 h2; exact hR.tinj id id' b s e s' e' h1 h2
    imlt := fun b o hi => Nat.lt_of_lt_of_le (hR.imlt b o hi) (by rw [alloc_size]; omega) }

/-! ### a new row, whose first cells nobody writes any more -/
/-- Tokens go on: one of them anew. -/
structure TokStep (m m' : Mem) (id : Nat) : Prop where
  vars : m'.vars = m.vars
  lt : id < m'.toks.length
  len : m'.toks.length ≤ m.toks.length + 1 ∧ m.toks.length ≤ m'.toks.length
  new : m.toks.length < m'.toks.length → id = m.toks.length
  other : ∀ i, i ≠ id → m'.toks[i]? = m.toks[i]?
  up : ∀ v v', m.toks[id]? = some v → m'.toks[id]? = some v' → v < v'
theorem TokStep.var {m m' : Mem} {id : Nat} (h : TokStep m m' id) (r : Nat) : m'.var r = m.var r := by simp [Mem.var, h.vars]
theorem TokStep.old {m m' : Mem} {id : Nat} (h : TokStep m m' id) {i : Nat} (hi : i < m'.toks.length) (hne : i ≠ id) : i < m.toks.length := by
  rcases Nat.lt_or_ge m.toks.length m'.toks.length with h1 | h1
  · have := h.new h1; have := h.len; omega
  · omega
theorem tokStep_new (m : Mem) : TokStep m { m with toks := m.toks ++ [0] } m.toks.length where
  vars := rfl
  lt := by simp
  len := by simp
  new := fun _ => rfl
  other i hi := by
    simp only [List.getElem?_append]
    by_cases h : i < m.toks.length
    · simp [h]
    · obtain ⟨k, hk⟩ : ∃ k, i - m.toks.length = k + 1 := ⟨i - m.toks.length - 1, by omega⟩
      simp [h, hk, List.getElem?_eq_none (Nat.le_of_not_lt h)]
  up v v' h := by simp at h
theorem tokStep_up {m : Mem} {id ver : Nat} (h : m.toks[id]? = some ver) : TokStep m { m with toks := m.toks.set id (ver + 1) } id where
  vars := rfl
  lt := by simpa using (List.getElem?_eq_some_iff.1 h).1
  len := by simp
  new := by simp
  other i hi := by simp [List.getElem?_set_ne (Ne.symm hi)]
  up v v' h1 h2 := by
    have hlt := (List.getElem?_eq_some_iff.1 h).1
    rw [h] at h1
    simp [hlt] at h1 h2
    omega
theorem tok_ext_tk {φ' : Phi} {m m' : Mem} {id : Nat} (h : TokStep m m' id) (ho : ∀ i, i ≠ id → φ'.tk i = φ.tk i) (i v : Nat) (hv : m.toks[i]? = some v) :
    ∃ v', m'.toks[i]? = some v' ∧ v ≤ v' ∧ (v' = v → φ'.tk i = φ.tk i) := by
  by_cases hi : i = id
  · subst hi
    have hlt := h.lt
    refine ⟨m'.toks[i], List.getElem?_eq_getElem hlt, ?_, fun e => ?_⟩
    · exact Nat.le_of_lt (h.up v _ hv (List.getElem?_eq_getElem hlt))
    · have := h.up v _ hv (List.getElem?_eq_getElem hlt); omega
  · exact ⟨v, by rw [h.other i hi]; exact hv, Nat.le_refl _, fun _ => ho i hi⟩
theorem alloc_row_tok (hR : RM φ m w) {m' : Mem} {id : Nat} (ht : TokStep m m' id) {arr : Array Value} (T : TypeId) (K : Nat) (hone : ∀ (o : Nat) u, arr[o]? = some u → one u = true) :
    let φ' : Phi := { vb := φ.vb, im := fun b o => φ.im b o ∨ (b = w.heap.size ∧ o < K), tk := fun i => if i = id then (w.heap.size, K, arr.size) else φ.tk i }
    RM φ' m' (w.alloc (.cells arr T)) ∧ Ext φ m w φ' m' (w.alloc (.cells arr T)) := by
  intro φ'
  have hblk : ∀ b, b < w.heap.size → (w.alloc (.cells arr T)).heap[b]? = w.heap[b]? := fun b hb => heap_alloc_old w _ b hb
  have lt_of : ∀ b o, w.heap[b]? = some o → b < w.heap.size := fun b o h => (Array.getElem?_eq_some_iff.1 h).1
  have htk : ∀ i, i ≠ id → φ'.tk i = φ.tk i := fun i hi => if_neg hi
  have htk' : φ'.tk id = (w.heap.size, K, arr.size) := if_pos rfl
  have hext : Ext φ m w φ' m' (w.alloc (.cells arr T)) := {
    os := rfl, tape := rfl, output := rfl, size := by rw [alloc_size]; omega
    im := fun b o hi => ⟨.inl hi, cell_of_heap (hblk b (hR.imlt b o hi)) o⟩
    vb := fun r cs' hv => ⟨rfl, cs', by rw [ht.var]; exact hv, rfl⟩
    tk := fun i v hv => tok_ext_tk ht htk i v hv
    blk := fun b hb _ => hblk b hb
    own := fun b hb => by
      rcases hb with ⟨r, cs', hv, e⟩ | ⟨i, s, e', hlt, hk, hse⟩
      · exact .inl (.inl ⟨r, cs', by rw [← ht.var]; exact hv, e⟩)
      · by_cases hi : i = id
        · subst hi
          rw [htk'] at hk
          cases hk
          exact .inr (Nat.le_refl _)
        · rw [htk i hi] at hk
          exact .inl (.inr ⟨i, s, e', ht.old hlt hi, hk, hse⟩) }
  refine ⟨?_, hext⟩
  exact {
    var := fun r cs' hv => by
      rw [ht.var] at hv
      obtain ⟨arr', T', h1, h2, h3⟩ := hR.var r cs' hv
      exact ⟨arr', T', by show (w.alloc _).heap[φ.vb r]? = _; rw [hblk _ (lt_of _ _ h1)]; exact h1, h2.mono hext, h3⟩
    inj := fun r r' cs1 cs2 h1 h2 e => by rw [ht.var] at h1 h2; exact hR.inj r r' cs1 cs2 h1 h2 e
    vim := fun r cs' o hv hi => by
      rw [ht.var] at hv
      rcases hi with hi | ⟨hb, _⟩
      · exact hR.vim r cs' o hv hi
      · obtain ⟨_, _, h1, _⟩ := hR.var r cs' hv
        have := lt_of _ _ h1
        have : φ'.vb r = φ.vb r := rfl
        omega
    tok := fun i b s e hlt hk hse => by
      by_cases hi : i = id
      · subst hi
        rw [htk'] at hk
        cases hk
        refine ⟨arr, T, heap_alloc_new w _, Nat.le_refl _, fun o h1 h2 hi => ?_, fun r cs' hv => ?_, hone⟩
        · rcases hi with hi | ⟨_, hi⟩
          · have := hR.imlt _ _ hi; omega
          · omega
        · rw [ht.var] at hv
          obtain ⟨_, _, h1, _⟩ := hR.var r cs' hv
          have := lt_of _ _ h1
          have : φ'.vb r = φ.vb r := rfl
          omega
      · rw [htk i hi] at hk
        obtain ⟨arr', T', h1, h2, h3, h4, h5⟩ := hR.tok i b s e (ht.old hlt hi) hk hse
        refine ⟨arr', T', by rw [hblk _ (lt_of _ _ h1)]; exact h1, h2, fun o o1 o2 hi' => ?_, fun r cs' hv => h4 r cs' (by rw [← ht.var]; exact hv), h5⟩
        rcases hi' with hi' | ⟨hb, _⟩
        · exact h3 o o1 o2 hi'
        · have := lt_of _ _ h1; omega
    tinj := fun i i' b s e s' e' h1 h2 k1 k2 hs hs' => by
      by_cases hi : i = id <;> by_cases hi' : i' = id
      · omega
      · rw [hi, htk'] at k1
        rw [htk i' hi'] at k2
        cases k1
        obtain ⟨_, _, hb, _⟩ := hR.tok i' _ _ _ (ht.old h2 hi') k2 hs'
        have := lt_of _ _ hb; omega
      · rw [hi', htk'] at k2
        rw [htk i hi] at k1
        cases k2
        obtain ⟨_, _, hb, _⟩ := hR.tok i _ _ _ (ht.old h1 hi) k1 hs
        have := lt_of _ _ hb; omega
      · rw [htk i hi] at k1
        rw [htk i' hi'] at k2
        exact hR.tinj i i' b s e s' e' (ht.old h1 hi) (ht.old h2 hi') k1 k2 hs hs'
    imlt := fun b o hi => by
      rcases hi with hi | ⟨hb, _⟩
      · exact Nat.lt_of_lt_of_le (hR.imlt b o hi) (by rw [alloc_size]; omega)
      · rw [alloc_size]; omega }
/-- A row that stays as it is. -/
theorem alloc_row (hR : RM φ m w) (arr : Array Value) (T : TypeId) :
    let φ' : Phi := { φ with im := fun b o => φ.im b o ∨ b = w.heap.size }
    RM φ' m (w.alloc (.cells arr T)) ∧ Ext φ m w φ' m (w.alloc (.cells arr T)) := by
  intro φ'
  have hblk : ∀ b, b < w.heap.size → (w.alloc (.cells arr T)).heap[b]? = w.heap[b]? := fun b hb => heap_alloc_old w _ b hb
  have lt_of : ∀ b o, w.heap[b]? = some o → b < w.heap.size := fun b o h => (Array.getElem?_eq_some_iff.1 h).1
  have hext : Ext φ m w φ' m (w.alloc (.cells arr T)) := {
    os := rfl, tape := rfl, output := rfl, size := by rw [alloc_size]; omega
    im := fun b o hi => ⟨.inl hi, cell_of_heap (hblk b (hR.imlt b o hi)) o⟩
    vb := fun r cs' hv => ⟨rfl, cs', hv, rfl⟩
    tk := fun i v hv => ⟨v, hv, Nat.le_refl _, fun _ => rfl⟩
    blk := fun b hb _ => hblk b hb
    own := fun b hb => .inl hb }
  refine ⟨?_, hext⟩
  exact {
    var := fun r cs' hv => by
      obtain ⟨arr', T', h1, h2, h3⟩ := hR.var r cs' hv
      exact ⟨arr', T', by show (w.alloc _).heap[φ.vb r]? = _; rw [hblk _ (lt_of _ _ h1)]; exact h1, h2.mono hext, h3⟩
    inj := hR.inj
    vim := fun r cs' o hv hi => by
      rcases hi with hi | hb
      · exact hR.vim r cs' o hv hi
      · obtain ⟨_, _, h1, _⟩ := hR.var r cs' hv
        have := lt_of _ _ h1
        have : φ'.vb r = φ.vb r := rfl
        omega
    tok := fun i b s e hlt hk hse => by
      obtain ⟨arr', T', h1, h2, h3, h4, h5⟩ := hR.tok i b s e hlt hk hse
      refine ⟨arr', T', by rw [hblk _ (lt_of _ _ h1)]; exact h1, h2, fun o o1 o2 hi' => ?_, h4, h5⟩
      rcases hi' with hi' | hb
      · exact h3 o o1 o2 hi'
      · have := lt_of _ _ h1; omega
    tinj := hR.tinj
    imlt := fun b o hi => by
      rcases hi with hi | hb
      · exact Nat.lt_of_lt_of_le (hR.imlt b o hi) (by rw [alloc_size]; omega)
      · rw [alloc_size]; omega }
end
end Go.Proofs.YtojaokhkbmiidaaGreat.Ev

namespace Go.Proofs.YtojaokhkbmiidaaGreat.Ev
open Go
set_option linter.unusedVariables false
set_option linter.unusedSimpArgs false
section
variable {P : Program} {φ : Phi} {m : Mem} {w : World}

theorem setRow_other (w : World) (g : Nat) (cs : Array Value) {b : Nat} (h : b ≠ g) : (w.setRow g cs).heap[b]? = w.heap[b]? := by
  simp only [World.setRow, Array.getElem?_modify]
  rw [if_neg (Ne.symm h)]
theorem splice_length {old : List AV} {off : Nat} {cs : List AV} (h : off + cs.length ≤ old.length) : (splice old off cs).length = old.length := by
  simp [splice]; omega
theorem getElem?_splice {α : Type} {old : List α} {off : Nat} {cs : List α} (h : off + cs.length ≤ old.length) (i : Nat) :
    (old.take off ++ cs ++ old.drop (off + cs.length))[i]? = if off ≤ i ∧ i < off + cs.length then cs[i - off]? else old[i]? := by
  have hl : (old.take off).length = off := by simp; omega
  rw [List.append_assoc]
  by_cases h1 : i < off
  · rw [List.getElem?_append_left (by omega), if_neg (by omega), List.getElem?_take, if_pos h1]
  · rw [List.getElem?_append_right (by omega), hl]
    by_cases h2 : i < off + cs.length
    · rw [List.getElem?_append_left (by omega), if_pos ⟨by omega, h2⟩]
    · rw [List.getElem?_append_right (by omega), if_neg (by omega), List.getElem?_drop]
      congr 1
      omega
/-- A store into a variable. -/
theorem store_step (hR : RM φ m w) {r off : Nat} {old cs : List AV} (hv : m.var r = some old) (hfit : off + cs.length ≤ old.length) (hok : cs.all okCell = true) (hle : cs.all (refLe r) = true)
    {vs : List Value} (hvs : Reps φ m w cs vs.toArray) {arr : Array Value} {T : TypeId} (hb : w.heap[φ.vb r]? = some (.cells arr T (0, 0))) (harr : Reps φ m w old arr)
    {w' : World} (hw : w' = w.setRow (φ.vb r) (arr.toList.take off ++ vs ++ arr.toList.drop (off + vs.length)).toArray) :
    RM φ { m with vars := m.vars.set r (some (splice old off cs)) } w' ∧ Ext φ m w φ { m with vars := m.vars.set r (some (splice old off cs)) } w' := by
  have hrlt : r < m.vars.length := by
    rcases Nat.lt_or_ge r m.vars.length with h | h
    · exact h
    · simp [Mem.var, List.getElem?_eq_none h] at hv
  have hvar : ∀ q, Mem.var { m with vars := m.vars.set r (some (splice old off cs)) } q = if q = r then some (splice old off cs) else m.var q := fun q => by
    simp only [Mem.var]
    by_cases hq : q = r
    · subst hq; simp [hrlt]
    · simp [hq, List.getElem?_set_ne (Ne.symm hq)]
  have hvl : vs.length = cs.length := by have := hvs.1; simpa using this
  have hoth : ∀ b, b ≠ φ.vb r → w'.heap[b]? = w.heap[b]? := fun b hne => by rw [hw]; exact setRow_other w _ _ hne
  have hself : w'.heap[φ.vb r]? = some (.cells (arr.toList.take off ++ vs ++ arr.toList.drop (off + vs.length)).toArray T (0, 0)) := by rw [hw]; exact setRow_heap w _ _ _ _ _ hb
  have hext : Ext φ m w φ { m with vars := m.vars.set r (some (splice old off cs)) } w' := {
    os := by rw [hw]; rfl
    tape := by rw [hw]; rfl
    output := by rw [hw]; rfl
    size := by rw [hw, size_setRow]; exact Nat.le_refl _
    im := fun b o hi => ⟨hi, cell_of_heap (hoth b (fun e => hR.vim r old o hv (by rw [← e]; exact hi))) o⟩
    vb := fun q cs' hq => ⟨rfl, by
      rw [hvar]
      split
      · rename_i e
        subst e
        rw [hv] at hq
        cases hq
        exact ⟨_, rfl, splice_length hfit⟩
      · exact ⟨cs', hq, rfl⟩⟩
    tk := fun id v h => ⟨v, h, Nat.le_refl _, fun _ => rfl⟩
    blk := fun b hlt hno => hoth b (fun e => hno (.inl ⟨r, old, hv, e.symm⟩))
    own := fun b ho => by
      left
      rcases ho with ⟨q, cs', hq, e⟩ | h
      · rw [hvar] at hq
        split at hq
        · rename_i e2
          subst e2
          exact .inl ⟨q, old, hv, e⟩
        · exact .inl ⟨q, cs', hq, e⟩
      · exact .inr h }
  refine ⟨?_, hext⟩
  exact {
    var := fun q cs' hq => by
      rw [hvar] at hq
      split at hq
      · rename_i e
        subst e
        simp only [Option.some.injEq] at hq
        subst hq
        obtain ⟨arr0, T0, hb0, _, hok0, hle0⟩ := hR.var q old hv
        refine ⟨_, T, hself, ⟨?_, fun i a u h1 h2 => ?_⟩, ?_, ?_⟩
        · have := harr.1
          rw [splice_length hfit]
          simp
          omega
        · unfold splice at h1
          rw [getElem?_splice hfit] at h1
          rw [List.getElem?_toArray, getElem?_splice (by have := harr.1; simp; omega)] at h2
          rw [hvl] at h2
          split at h1
          · rename_i hc
            rw [if_pos hc] at h2
            exact (hvs.2 _ a u h1 (by simpa using h2)).mono hext
          · rename_i hc
            rw [if_neg hc] at h2
            exact (harr.2 i a u h1 (by simpa using h2)).mono hext
        · rw [List.all_eq_true] at hok hok0 ⊢
          intro x hx
          simp only [splice, List.mem_append] at hx
          rcases hx with (hx | hx) | hx
          · exact hok0 x (List.mem_of_mem_take hx)
          · exact hok x hx
          · exact hok0 x (List.mem_of_mem_drop hx)
        · rw [List.all_eq_true] at hle hle0 ⊢
          intro x hx
          simp only [splice, List.mem_append] at hx
          rcases hx with (hx | hx) | hx
          · exact hle0 x (List.mem_of_mem_take hx)
          · exact hle x hx
          · exact hle0 x (List.mem_of_mem_drop hx)
      · rename_i e
        obtain ⟨arr', T', h1, h2, h3⟩ := hR.var q cs' hq
        exact ⟨arr', T', by rw [hoth _ (fun e2 => e (hR.inj q r cs' old hq hv e2))]; exact h1, h2.mono hext, h3⟩
    inj := fun q q' c1 c2 h1 h2 e => by
      rw [hvar] at h1 h2
      split at h1 <;> split at h2
      · omega
      · rename_i e1 e2; subst e1; exact hR.inj _ _ _ _ hv h2 e
      · rename_i e1 e2; subst e2; exact hR.inj _ _ _ _ h1 hv e
      · exact hR.inj _ _ _ _ h1 h2 e
    vim := fun q c1 o h1 => by
      rw [hvar] at h1
      split at h1
      · rename_i e1; subst e1; exact hR.vim _ _ o hv
      · exact hR.vim _ _ o h1
    tok := fun id b s e hlt htk hse => by
      obtain ⟨arr', T', h1, h2, h3, h4, h5⟩ := hR.tok id b s e hlt htk hse
      refine ⟨arr', T', by rw [hoth _ (fun e2 => h4 r old hv e2.symm)]; exact h1, h2, h3, fun q c1 hq => ?_, h5⟩
      rw [hvar] at hq
      split at hq
      · rename_i e1; subst e1; exact h4 _ _ hv
      · exact h4 _ _ hq
    tinj := hR.tinj
    imlt := fun b o hi => by rw [hw, size_setRow]; exact hR.imlt b o hi }
theorem one_eq (x : Value) : one x = x.oneCell' := by cases x <;> rfl

/-- A row that grows in place. -/
theorem grow_step (hR : RM φ m w) {m' : Mem} {id : Nat} (ht : TokStep m m' id) {b s e : Nat} (hlt : id < m.toks.length) (htk : φ.tk id = (b, s, e)) (hse : s < e)
    {vs : List Value} (hfit : s + vs.length ≤ e) (hone : ∀ v ∈ vs, one v = true) :
    ∃ arr T, w.heap[b]? = some (.cells arr T (0, 0)) ∧ e ≤ arr.size ∧
      let w' := w.setRow b (arr.toList.take s ++ vs ++ arr.toList.drop (s + vs.length)).toArray
      let φ' : Phi := { vb := φ.vb, im := fun b' o => φ.im b' o ∨ (b' = b ∧ s ≤ o ∧ o < s + vs.length), tk := fun i => if i = id then (b, s + vs.length, e) else φ.tk i }
      RM φ' m' w' ∧ Ext φ m w φ' m' w' ∧ (∀ (k : Nat) v, vs[k]? = some v → w'.cell? ⟨b, s + k, none⟩ = some v) := by
  obtain ⟨arr, T, hb, hsz, him, hvb, h1⟩ := hR.tok id b s e hlt htk hse
  refine ⟨arr, T, hb, hsz, ?_⟩
  intro w' φ'
  have hlen : s + vs.length ≤ arr.toList.length := by simp; omega
  have hoth : ∀ b', b' ≠ b → w'.heap[b']? = w.heap[b']? := fun b' hne => setRow_other w _ _ hne
  have hself : w'.heap[b]? = some (.cells (arr.toList.take s ++ vs ++ arr.toList.drop (s + vs.length)).toArray T (0, 0)) := setRow_heap w _ _ _ _ _ hb
  have hcell : ∀ o, w'.cell? ⟨b, o, none⟩ = if s ≤ o ∧ o < s + vs.length then vs[o - s]? else w.cell? ⟨b, o, none⟩ := fun o => by
    simp only [World.cell?, hself, hb]
    rw [if_neg (by simp), List.getElem?_toArray, getElem?_splice hlen]
    simp
  have htk' : ∀ i, i ≠ id → φ'.tk i = φ.tk i := fun i hi => if_neg hi
  have htki : φ'.tk id = (b, s + vs.length, e) := if_pos rfl
  have hext : Ext φ m w φ' m' w' := {
    os := rfl, tape := rfl, output := rfl, size := by show _ ≤ (w.setRow b _).heap.size; rw [size_setRow]; exact Nat.le_refl _
    im := fun b' o hi => ⟨.inl hi, by
      by_cases hbb : b' = b
      · subst hbb
        rw [hcell, if_neg (fun hc => him o hc.1 (by omega) hi)]
      · exact cell_of_heap (hoth b' hbb) o⟩
    vb := fun r cs' hv => ⟨rfl, cs', by rw [ht.var]; exact hv, rfl⟩
    tk := fun i v hv => tok_ext_tk ht htk' i v hv
    blk := fun b' hb' hno => hoth b' (fun e2 => hno (.inr ⟨id, s, e, hlt, by rw [htk, e2], hse⟩))
    own := fun b' ho => by
      left
      rcases ho with ⟨r, cs', hv, e2⟩ | ⟨i, s2, e2, hi, hk, hs2⟩
      · exact .inl ⟨r, cs', by rw [← ht.var]; exact hv, e2⟩
      · by_cases hid : i = id
        · subst hid
          rw [htki] at hk
          cases hk
          exact .inr ⟨i, s, e, hlt, htk, hse⟩
        · rw [htk' i hid] at hk
          exact .inr ⟨i, s2, e2, ht.old hi hid, hk, hs2⟩ }
  refine ⟨?_, hext, fun k v hk => ?_⟩
  · exact {
      var := fun r cs' hv => by
        rw [ht.var] at hv
        obtain ⟨arr', T', g1, g2, g3⟩ := hR.var r cs' hv
        exact ⟨arr', T', by show w'.heap[φ.vb r]? = _; rw [hoth _ (hvb r cs' hv)]; exact g1, g2.mono hext, g3⟩
      inj := fun r r' c1 c2 g1 g2 e2 => by rw [ht.var] at g1 g2; exact hR.inj r r' c1 c2 g1 g2 e2
      vim := fun r cs' o hv hi => by
        rw [ht.var] at hv
        rcases hi with hi | ⟨e2, _⟩
        · exact hR.vim r cs' o hv hi
        · exact hvb r cs' hv e2
      tok := fun i b2 s2 e2 hi hk hs2 => by
        by_cases hid : i = id
        · subst hid
          rw [htki] at hk
          cases hk
          refine ⟨_, T, hself, by simp; omega, fun o o1 o2 hi' => ?_, fun r cs' hv => hvb r cs' (by rw [← ht.var]; exact hv), fun o u hu => ?_⟩
          · rcases hi' with hi' | ⟨_, _, hi'⟩
            · exact him o (by omega) o2 hi'
            · omega
          · rw [List.getElem?_toArray, getElem?_splice hlen] at hu
            split at hu
            · exact hone u (List.mem_of_getElem? hu)
            · exact h1 o u (by simpa using hu)
        · rw [htk' i hid] at hk
          have hne : b2 ≠ b := fun e3 => hid (hR.tinj i id b2 s2 e2 s e (ht.old hi hid) hlt hk (by rw [htk, e3]) hs2 hse)
          obtain ⟨arr', T', g1, g2, g3, g4, g5⟩ := hR.tok i b2 s2 e2 (ht.old hi hid) hk hs2
          refine ⟨arr', T', by rw [hoth _ hne]; exact g1, g2, fun o o1 o2 hi' => ?_, fun r cs' hv => g4 r cs' (by rw [← ht.var]; exact hv), g5⟩
          rcases hi' with hi' | ⟨e3, _⟩
          · exact g3 o o1 o2 hi'
          · exact hne e3
      tinj := fun i i' b2 s2 e2 s3 e3 g1 g2 k1 k2 hs2 hs3 => by
        by_cases hi : i = id <;> by_cases hi' : i' = id
        · omega
        · rw [hi, htki] at k1
          rw [htk' i' hi'] at k2
          cases k1
          have := hR.tinj id i' b s e s3 e3 hlt (ht.old g2 hi') htk k2 hse hs3
          omega
        · rw [hi', htki] at k2
          rw [htk' i hi] at k1
          cases k2
          have := hR.tinj i id b s2 e2 s e (ht.old g1 hi) hlt k1 htk hs2 hse
          omega
        · rw [htk' i hi] at k1
          rw [htk' i' hi'] at k2
          exact hR.tinj i i' b2 s2 e2 s3 e3 (ht.old g1 hi) (ht.old g2 hi') k1 k2 hs2 hs3
      imlt := fun b' o hi => by
        show b' < (w.setRow b _).heap.size
        rw [size_setRow]
        rcases hi with hi | ⟨e2, _⟩
        · exact hR.imlt b' o hi
        · rw [e2]; exact (Array.getElem?_eq_some_iff.1 hb).1 }
  · have hkl : k < vs.length := (List.getElem?_eq_some_iff.1 hk).1
    rw [hcell, if_pos ⟨by omega, by omega⟩]
    rw [show s + k - s = k by omega]
    exact hk
/-- A token goes on while nothing is written. -/
theorem tok_step (hR : RM φ m w) {m' : Mem} {id : Nat} (ht : TokStep m m' id) (b x y : Nat) (h : x = y ∨ (id < m.toks.length ∧ φ.tk id = (b, x, y))) :
    let φ' : Phi := { φ with tk := fun i => if i = id then (b, x, y) else φ.tk i }
    RM φ' m' w ∧ Ext φ m w φ' m' w := by
  intro φ'
  have htk' : ∀ i, i ≠ id → φ'.tk i = φ.tk i := fun i hi => if_neg hi
  have htki : φ'.tk id = (b, x, y) := if_pos rfl
  have back : ∀ i b2 s2 e2, i < m'.toks.length → φ'.tk i = (b2, s2, e2) → s2 < e2 → i < m.toks.length ∧ φ.tk i = (b2, s2, e2) := fun i b2 s2 e2 hi hk hs => by
    by_cases hid : i = id
    · subst hid
      rw [htki] at hk
      cases hk
      rcases h with h | h
      · omega
      · exact h
    · rw [htk' i hid] at hk
      exact ⟨ht.old hi hid, hk⟩
  have hext : Ext φ m w φ' m' w := {
    os := rfl, tape := rfl, output := rfl, size := Nat.le_refl _
    im := fun b' o hi => ⟨hi, rfl⟩
    vb := fun r cs' hv => ⟨rfl, cs', by rw [ht.var]; exact hv, rfl⟩
    tk := fun i v hv => tok_ext_tk ht htk' i v hv
    blk := fun b' hb' hno => rfl
    own := fun b' ho => by
      left
      rcases ho with ⟨r, cs', hv, e2⟩ | ⟨i, s2, e2, hi, hk, hs2⟩
      · exact .inl ⟨r, cs', by rw [← ht.var]; exact hv, e2⟩
      · exact .inr ⟨i, s2, e2, (back i b' s2 e2 hi hk hs2).1, (back i b' s2 e2 hi hk hs2).2, hs2⟩ }
  refine ⟨?_, hext⟩
  exact {
    var := fun r cs' hv => by
      rw [ht.var] at hv
      obtain ⟨arr', T', g1, g2, g3⟩ := hR.var r cs' hv
      exact ⟨arr', T', g1, g2.mono hext, g3⟩
    inj := fun r r' c1 c2 g1 g2 e2 => by rw [ht.var] at g1 g2; exact hR.inj r r' c1 c2 g1 g2 e2
    vim := fun r cs' o hv hi => by rw [ht.var] at hv; exact hR.vim r cs' o hv hi
    tok := fun i b2 s2 e2 hi hk hs2 => by
      obtain ⟨k1, k2⟩ := back i b2 s2 e2 hi hk hs2
      obtain ⟨arr', T', g1, g2, g3, g4, g5⟩ := hR.tok i b2 s2 e2 k1 k2 hs2
      exact ⟨arr', T', g1, g2, g3, fun r cs' hv => g4 r cs' (by rw [← ht.var]; exact hv), g5⟩
    tinj := fun i i' b2 s2 e2 s3 e3 g1 g2 k1 k2 hs2 hs3 =>
      hR.tinj i i' b2 s2 e2 s3 e3 (back i b2 s2 e2 g1 k1 hs2).1 (back i' b2 s3 e3 g2 k2 hs3).1 (back i b2 s2 e2 g1 k1 hs2).2 (back i' b2 s3 e3 g2 k2 hs3).2 hs2 hs3
    imlt := hR.imlt }
end
end Go.Proofs.YtojaokhkbmiidaaGreat.Ev

namespace Go.Proofs.YtojaokhkbmiidaaGreat.Ev
open Go
set_option linter.unusedVariables false
set_option linter.unusedSimpArgs false
section
variable {P : Program} {φ : Phi} {m : Mem} {w : World}

/-! ### cells of a value -/
theorem okCell_one {a : AV} {x : Value} (h : Rep φ m w a x) (hok : okCell a = true) : one x = true := by
  cases h <;> simp_all [okCell, one]
theorem cells_of {a : AV} {x : Value} {cs : List AV} (h : Rep φ m w a x) (hc : cellsOf a = some cs) : Reps φ m w cs x.cells ∧ cs.all okCell = true := by
  unfold cellsOf at hc
  split at hc
  · rename_i hok
    simp only [Option.some.injEq] at hc
    subst hc
    refine ⟨?_, hok⟩
    have single : ∀ a x, Rep φ m w a x → one x = true → Reps φ m w [a] x.cells := fun a x h ho => by
      have e : x.cells = #[x] := by cases x <;> simp_all [one, Value.cells]
      rw [e]
      refine ⟨rfl, fun i b u h1 h2 => ?_⟩
      cases i with
      | zero => simp at h1 h2; subst h1; subst h2; exact h
      | succ i => simp at h1
    cases h with
    | agg cs arr hn hr => exact ⟨hn, hr⟩
    | junk x => simp [flat, okCell] at hok
    | v x => exact single _ _ (.v x) (by simpa [flat, okCell] using hok)
    | tup cs arr hn hr => simp [flat, okCell] at hok
    | lst g sz rows a c val h1 h2 h3 h4 h5 h6 h7 => exact single _ _ (.lst g sz rows a c val h1 h2 h3 h4 h5 h6 h7) rfl
    | ptr r off cs h => exact single _ _ (.ptr r off cs h) rfl
    | eptr cs ad val h1 h2 h3 => simp [flat, okCell] at hok
    | vs r off sz n c cs h1 h2 h3 => exact single _ _ (.vs r off sz n c cs h1 h2 h3) rfl
    | fn f a b c d h1 h2 h3 h4 => exact single _ _ (.fn f a b c d h1 h2 h3 h4) rfl
  · cases hc
theorem rep_rowCell {a b : AV} {x : Value} (h : Rep φ m w a x) (hb : rowCell a = some b) : Rep φ m w b x ∧ one x = true := by
  unfold rowCell at hb
  split at hb
  · split at hb
    · rename_i ho
      simp only [Option.some.injEq] at hb
      subst hb
      cases h
      exact ⟨.v _, ho⟩
    · cases hb
  · simp only [Option.some.injEq] at hb
    subst hb
    cases h with
    | lst g sz rows a c val h1 h2 h3 h4 h5 h6 h7 => exact ⟨.lst .no _ _ a c val h1 h2 h3 h4 h5 h6 trivial, rfl⟩
  · cases hb
theorem mapM_spec {α β : Type} {f : α → Option β} : ∀ {l : List α} {r : List β}, l.mapM f = some r → r.length = l.length ∧ ∀ (i : Nat) b, r[i]? = some b → ∃ a, l[i]? = some a ∧ f a = some b
  | [], r, h => by simp at h; subst h; exact ⟨rfl, fun i b h => by simp at h⟩
  | a :: l, r, h => by
    simp only [List.mapM_cons, Option.bind_eq_bind, Option.bind_eq_some_iff] at h
    obtain ⟨b, hb, r', hr', h⟩ := h
    simp only [Option.pure_def, Option.some.injEq] at h
    subst h
    obtain ⟨h1, h2⟩ := mapM_spec hr'
    refine ⟨by simp [h1], fun i c hc => ?_⟩
    cases i with
    | zero => simp at hc; subst hc; exact ⟨a, rfl, hb⟩
    | succ i => exact h2 i c (by simpa using hc)
theorem flat_reps {a : AV} {x : Value} (h : Rep φ m w a x) (hne : ∀ cs, a = .agg cs ∨ ∃ b, rowCell a = some b) : Reps φ m w (flat a) x.cells := by
  rcases hne [] with e | ⟨b, hb⟩
  · subst e
    cases h with
    | agg cs arr hn hr => exact ⟨hn, hr⟩
  · have ho := (rep_rowCell h hb).2
    have e : x.cells = #[x] := by cases x <;> simp_all [one, Value.cells]
    rw [e]
    have ef : flat a = [a] := by cases a <;> simp_all [rowCell, flat]
    rw [ef]
    refine ⟨rfl, fun i b u h1 h2 => ?_⟩
    cases i with
    | zero => simp at h1 h2; subst h1; subst h2; exact h
    | succ i => simp at h1
theorem rowOf_isRow {a : AV} {row : List AV} (hr : rowOf a = some row) : row.all isRow = true := by
  rw [List.all_eq_true]
  intro b hb
  obtain ⟨i, hi⟩ := List.getElem?_of_mem hb
  obtain ⟨c, hc, h⟩ := (mapM_spec hr).2 i b hi
  unfold rowCell at h
  split at h
  · split at h
    · cases h; rfl
    · cases h
  · cases h; rfl
  · cases h
theorem row_of {a : AV} {x : Value} {row : List AV} (h : Rep φ m w a x) (hr : rowOf a = some row) : Reps φ m w row x.cells ∧ ∀ (i : Nat) u, x.cells[i]? = some u → one u = true := by
  unfold rowOf at hr
  obtain ⟨h1, h2⟩ := mapM_spec hr
  have hf : Reps φ m w (flat a) x.cells := by
    cases h with
    | agg cs arr hn hr2 => exact ⟨hn, hr2⟩
    | _ =>
      refine flat_reps (by constructor <;> assumption) (fun _ => .inr ?_)
      simp only [flat, List.mapM_cons, List.mapM_nil] at hr
      cases hc : rowCell _ with
      | none => simp [hc] at hr
      | some b => exact ⟨b, rfl⟩
  refine ⟨⟨by rw [h1]; exact hf.1, fun i b u e1 e2 => ?_⟩, fun i u e2 => ?_⟩
  · obtain ⟨c, hc, hb⟩ := h2 i b e1
    exact (rep_rowCell (hf.2 i c u hc e2) hb).1
  · have hlt : i < row.length := by
      rw [h1, ← hf.1]
      exact (Array.getElem?_eq_some_iff.1 e2).1
    obtain ⟨c, hc, hb⟩ := h2 i _ (List.getElem?_eq_getElem hlt)
    exact (rep_rowCell (hf.2 i c u hc e2) hb).2

/-! ### the model's own filling -/
theorem foldl_set (off : Nat) : ∀ (l : List Value) (k : Nat) (cells : Array Value),
    ((l.zipIdx k).foldl (fun cs (p : Value × Nat) => cs.setIfInBounds (off + p.2) p.1) cells).size = cells.size ∧
    ∀ i : Nat, ((l.zipIdx k).foldl (fun cs (p : Value × Nat) => cs.setIfInBounds (off + p.2) p.1) cells)[i]? =
      if off + k ≤ i ∧ i < off + k + l.length ∧ i < cells.size then l[i - (off + k)]? else cells[i]?
  | [], k, cells => by simp; intro i h1 h2; omega
  | v :: l, k, cells => by
    obtain ⟨h1, h2⟩ := foldl_set off l (k + 1) (cells.setIfInBounds (off + k) v)
    simp only [List.zipIdx_cons, List.foldl_cons]
    refine ⟨by rw [h1]; simp, fun i => ?_⟩
    rw [h2]
    simp only [Array.size_setIfInBounds, List.length_cons]
    by_cases c1 : off + (k + 1) ≤ i ∧ i < off + (k + 1) + l.length ∧ i < cells.size
    · rw [if_pos c1, if_pos ⟨by omega, by omega, c1.2.2⟩]
      obtain ⟨q, hq⟩ : ∃ q, i - (off + k) = q + 1 := ⟨i - (off + k) - 1, by omega⟩
      rw [hq]
      simp
      congr 1
      omega
    · rw [if_neg c1]
      by_cases c2 : i = off + k
      · subst c2
        by_cases c3 : off + k < cells.size
        · rw [if_pos ⟨by omega, by omega, c3⟩]
          simp [c3]
        · rw [if_neg (by omega)]
          simp [Array.getElem?_eq_none (Nat.le_of_not_lt c3)]
          omega
      · rw [if_neg (by omega), Array.getElem?_setIfInBounds_ne (Ne.symm c2)]
theorem set_reps {cells : List AV} {arr : Array Value} (h : Reps φ m w cells arr) {cs : List AV} {v : Value} (hc : Reps φ m w cs v.cells) {off : Nat} (hfit : off + cs.length ≤ cells.length) :
    Reps φ m w (splice cells off cs) (v.cells.zipIdx.foldl (fun cs (p : Value × Nat) => cs.setIfInBounds (off + p.2) p.1) arr) := by
  have e : v.cells.zipIdx.foldl (fun cs (p : Value × Nat) => cs.setIfInBounds (off + p.2) p.1) arr = (v.cells.toList.zipIdx 0).foldl (fun cs (p : Value × Nat) => cs.setIfInBounds (off + p.2) p.1) arr := by
    rw [← Array.foldl_toList, Array.toList_zipIdx]
  rw [e]
  obtain ⟨h1, h2⟩ := foldl_set off v.cells.toList 0 arr
  refine ⟨by rw [h1, splice_length hfit]; exact h.1, fun i a u e1 e2 => ?_⟩
  rw [h2] at e2
  unfold splice at e1
  rw [getElem?_splice hfit] at e1
  have hl : v.cells.toList.length = cs.length := by simpa using hc.1
  split at e1
  · rename_i c
    rw [if_pos ⟨by omega, by omega, by rw [h.1]; omega⟩] at e2
    exact hc.2 _ a u e1 (by simpa using e2)
  · rename_i c
    split at e2
    · omega
    · exact h.2 i a u e1 e2
/-- Values beside their abstract values, at the same numbers. -/
def PartsRep (φ : Phi) (m : Mem) (w : World) (ps : List (Nat × AV)) (vs : List (Nat × Value)) : Prop :=
  vs.length = ps.length ∧ ∀ (i : Nat) p v, ps[i]? = some p → vs[i]? = some v → v.1 = p.1 ∧ Rep φ m w p.2 v.2
theorem PartsRep.tail {p v ps vs} (h : PartsRep φ m w (p :: ps) (v :: vs)) : v.1 = p.1 ∧ Rep φ m w p.2 v.2 ∧ PartsRep φ m w ps vs :=
  ⟨(h.2 0 p v rfl rfl).1, (h.2 0 p v rfl rfl).2, by simpa using h.1, fun i p v h1 h2 => h.2 (i + 1) p v (by simpa using h1) (by simpa using h2)⟩
theorem fill_sound {place : Nat → Option (Nat × Nat)} : ∀ (ps : List (Nat × AV)) (vs : List (Nat × Value)) (cells r : List AV) (arr : Array Value), PartsRep φ m w ps vs → Reps φ m w cells arr → evBuildFill place cells ps = some r →
    ∃ arr', Instr.fill place arr vs = some arr' ∧ Reps φ m w r arr'
  | [], [], cells, r, arr, _, hc, h => by simp only [evBuildFill, Option.some.injEq] at h; subst h; exact ⟨arr, rfl, hc⟩
  | (i, x) :: ps, v :: vs, cells, r, arr, hp, hc, h => by
    obtain ⟨h1, h2, h3⟩ := hp.tail
    simp only [evBuildFill] at h
    split at h
    · rename_i off k cs hpl hcs
      split at h
      · rename_i hf
        obtain ⟨e1, e2⟩ := hf
        obtain ⟨hcv, _⟩ := cells_of h2 hcs
        obtain ⟨arr', hr, hrr⟩ := fill_sound ps vs _ r _ h3 (set_reps hc hcv (off := off) (by omega)) h
        obtain ⟨vi, vx⟩ := v
        simp only at h1
        subst h1
        refine ⟨arr', ?_, hrr⟩
        simp only [Instr.fill, hpl]
        have g1 : vx.cells.size = k := by rw [hcv.1]; exact e1
        have g2 : off + vx.cells.size ≤ arr.size := by rw [hc.1, hcv.1]; omega
        rw [if_neg (by simp [g1]; omega)]
        exact hr
      · cases h
    · cases h
  | [], _ :: _, _, _, _, hp, _, _ => by have := hp.1; simp at this
  | _ :: _, [], _, _, _, hp, _, _ => by have := hp.1; simp at this
end
end Go.Proofs.YtojaokhkbmiidaaGreat.Ev

namespace Go.Proofs.YtojaokhkbmiidaaGreat.Ev
open Go
set_option linter.unusedVariables false
set_option linter.unusedSimpArgs false
section
variable {P : Program} {φ : Phi} {m : Mem} {w : World}

/-! ### a list's cells, as one row -/
def RowsAt (φ : Phi) (m : Mem) (w : World) (sz : Nat) (rows : List (List AV)) (f : Nat → Value) : Prop :=
  (∀ (i : Nat) row, rows[i]? = some row → row.length = sz ∧ row.all isRow = true) ∧
  ∀ (i : Nat) row (j : Nat) x, rows[i]? = some row → row[j]? = some x → Rep φ m w x (f (i * sz + j)) ∧ one (f (i * sz + j)) = true
def CellsIm (φ : Phi) (w : World) (ad : Addr) (n : Nat) (f : Nat → Value) : Prop :=
  ∀ k, k < n → φ.im ad.block (ad.off + k) ∧ w.cell? ⟨ad.block, ad.off + k, none⟩ = some (f k)
theorem RowsAt.mono {φ' m' w' sz rows f} (h : RowsAt φ m w sz rows f) (hx : Ext φ m w φ' m' w') : RowsAt φ' m' w' sz rows f :=
  ⟨h.1, fun i row j x h1 h2 => ⟨(h.2 i row j x h1 h2).1.mono hx, (h.2 i row j x h1 h2).2⟩⟩
theorem CellsIm.mono {φ' m' w' ad n f} (h : CellsIm φ w ad n f) (hx : Ext φ m w φ' m' w') : CellsIm φ' w' ad n f :=
  fun k hk => ⟨(hx.im _ _ (h k hk).1).1, (hx.im _ _ (h k hk).1).2.trans (h k hk).2⟩
theorem lst_cells {g : Grow} {sz : Nat} {rows : List (List AV)} {v : Value} (h : Rep φ m w (.lst g sz rows) v) :
    ∃ a c f, v = .slice a rows.length c ∧ rows.length ≤ c ∧ (a = none → c = 0) ∧ (∀ ad, a = some ad → 0 < c → ad.spot = none) ∧ RowsAt φ m w sz rows f ∧ (∀ ad, a = some ad → CellsIm φ w ad (rows.length * sz) f) ∧ growOk φ m g a rows.length c sz := by
  cases h with
  | lst _ _ _ a c val hc hr ha hs hcell hrep hg =>
    refine ⟨a, c, fun k => val (k / sz) (k % sz), rfl, hc, ha, hs, ⟨hr, fun i row j x h1 h2 => ?_⟩, fun ad had k hk => ?_, hg⟩
    · have hj : j < sz := by rw [← (hr i row h1).1]; exact (List.getElem?_eq_some_iff.1 h2).1
      have e1 : (i * sz + j) / sz = i := by rw [Nat.mul_comm, Nat.mul_add_div (by omega)]; simp [Nat.div_eq_of_lt hj]
      have e2 : (i * sz + j) % sz = j := by rw [Nat.mul_comm, Nat.mul_add_mod]; exact Nat.mod_eq_of_lt hj
      simp only [e1, e2]
      refine ⟨hrep i row j x h1 h2, ?_⟩
      cases a with
      | none => have := ha rfl; have := (List.getElem?_eq_some_iff.1 h1).1; omega
      | some ad => exact (hcell ad i row j x rfl h1 h2).2.2
    · have hsz : 0 < sz := Nat.pos_of_ne_zero (fun e => by subst e; simp at hk)
      have hi : k / sz < rows.length := by rw [Nat.div_lt_iff_lt_mul hsz]; exact hk
      have hrow := List.getElem?_eq_getElem hi
      have hl := (hr _ _ hrow).1
      have hj : k % sz < (rows[k / sz]).length := by rw [hl]; exact Nat.mod_lt _ hsz
      obtain ⟨g1, g2, _⟩ := hcell ad (k / sz) _ (k % sz) _ had hrow (List.getElem?_eq_getElem hj)
      have e : ad.off + k / sz * sz + k % sz = ad.off + k := by have := Nat.div_add_mod k sz; rw [Nat.mul_comm] at this; omega
      rw [e] at g1 g2
      exact ⟨g1, g2⟩
theorem lst_mk {g : Grow} {sz : Nat} {rows : List (List AV)} {a : Option Addr} {c n : Nat} {f : Nat → Value} (hn : n = rows.length) (hc : rows.length ≤ c) (ha : a = none → c = 0) (hs : ∀ ad, a = some ad → 0 < c → ad.spot = none)
    (hr : RowsAt φ m w sz rows f) (hcell : ∀ ad, a = some ad → CellsIm φ w ad (rows.length * sz) f) (hg : growOk φ m g a rows.length c sz) : Rep φ m w (.lst g sz rows) (.slice a n c) := by
  subst hn
  refine .lst g sz rows a c (fun i j => f (i * sz + j)) hc hr.1 ha hs (fun ad i row j x had h1 h2 => ?_) (fun i row j x h1 h2 => (hr.2 i row j x h1 h2).1) hg
  have hi := (List.getElem?_eq_some_iff.1 h1).1
  have hj : j < sz := by rw [← (hr.1 i row h1).1]; exact (List.getElem?_eq_some_iff.1 h2).1
  have hk : i * sz + j < rows.length * sz := by
    have : (i + 1) * sz ≤ rows.length * sz := Nat.mul_le_mul_right _ hi
    rw [Nat.add_mul] at this
    omega
  obtain ⟨g1, g2⟩ := hcell ad had _ hk
  rw [Nat.add_assoc]
  exact ⟨g1, g2, (hr.2 i row j x h1 h2).2⟩
theorem rowsAt_append {sz : Nat} {xs ys : List (List AV)} {f g : Nat → Value} (hx : RowsAt φ m w sz xs f) (hy : RowsAt φ m w sz ys g) :
    RowsAt φ m w sz (xs ++ ys) (fun k => if k < xs.length * sz then f k else g (k - xs.length * sz)) := by
  have inx : ∀ (i : Nat) row (j : Nat) x, xs[i]? = some row → row[j]? = some x → i * sz + j < xs.length * sz := fun i row j x h1 h2 => by
    have hi := (List.getElem?_eq_some_iff.1 h1).1
    have hj : j < sz := by rw [← (hx.1 i row h1).1]; exact (List.getElem?_eq_some_iff.1 h2).1
    have : (i + 1) * sz ≤ xs.length * sz := Nat.mul_le_mul_right _ hi
    rw [Nat.add_mul] at this
    omega
  refine ⟨fun i row h1 => ?_, fun i row j x h1 h2 => ?_⟩
  · rw [List.getElem?_append] at h1
    split at h1
    · exact hx.1 i row h1
    · exact hy.1 _ row h1
  · rw [List.getElem?_append] at h1
    dsimp only
    split at h1
    · rw [if_pos (inx i row j x h1 h2)]
      exact hx.2 i row j x h1 h2
    · rename_i hi
      have e : i * sz + j - xs.length * sz = (i - xs.length) * sz + j := by rw [Nat.sub_mul]; have : xs.length * sz ≤ i * sz := Nat.mul_le_mul_right _ (by omega); omega
      have : xs.length * sz ≤ i * sz := Nat.mul_le_mul_right _ (by omega)
      rw [if_neg (by omega), e]
      exact hy.2 _ row j x h1 h2

/-! ### literals -/
theorem fill_rows (k : Nat) : ∀ (ps : List (Nat × AV)) (vs : List (Nat × Value)) (j : Nat) (rows : List (List AV)) (arr : Array Value), PartsRep φ m w ps vs → evRows k j ps = some rows → (j + ps.length) * k ≤ arr.size →
    ∃ arr', Instr.fill (fun i => some (i * k, k)) arr vs = some arr' ∧ arr'.size = arr.size ∧ (∀ q, q < j * k → arr'[q]? = arr[q]?) ∧ rows.length = ps.length ∧
      ∀ (i : Nat) row, rows[i]? = some row → (row.length = k ∧ row.all isRow = true) ∧ ∀ (q : Nat) x, row[q]? = some x → ∃ u, arr'[(j + i) * k + q]? = some u ∧ Rep φ m w x u ∧ one u = true
  | [], [], j, rows, arr, _, h, _ => by
    simp only [evRows, Option.some.injEq] at h
    subst h
    exact ⟨arr, rfl, rfl, fun _ _ => rfl, rfl, fun i row h => by simp at h⟩
  | (i, x) :: ps, (vi, vx) :: vs, j, rows, arr, hp, h, hsz => by
    obtain ⟨h1, h2, h3⟩ := hp.tail
    simp only [evRows] at h
    split at h
    · rename_i row hrow
      split at h
      · rename_i hc
        obtain ⟨rfl, hk⟩ := hc
        simp only at h1
        subst h1
        cases hrest : evRows k (vi + 1) ps with
        | none => simp [hrest] at h
        | some rows' =>
          simp only [hrest, Option.map_some, Option.some.injEq] at h
          subst h
          obtain ⟨hreps, hone⟩ := row_of h2 hrow
          have hvk : vx.cells.size = k := by rw [hreps.1]; exact hk
          have hm : (vi + (ps.length + 1)) * k = vi * k + k + ps.length * k := by rw [Nat.add_mul, Nat.add_mul]; omega
          simp only [List.length_cons] at hsz
          have e : vx.cells.zipIdx.foldl (fun cs (p : Value × Nat) => cs.setIfInBounds (vi * k + p.2) p.1) arr = (vx.cells.toList.zipIdx 0).foldl (fun cs (p : Value × Nat) => cs.setIfInBounds (vi * k + p.2) p.1) arr := by
            rw [← Array.foldl_toList, Array.toList_zipIdx]
          obtain ⟨s1, s2⟩ := foldl_set (vi * k) vx.cells.toList 0 arr
          rw [← e] at s1 s2
          obtain ⟨arr', r1, r2, r3, r4, r5⟩ := fill_rows k ps vs (vi + 1) rows' _ h3 hrest (by rw [s1, Nat.add_mul, Nat.add_mul]; omega)
          refine ⟨arr', ?_, by rw [r2, s1], fun q hq => ?_, by simp [r4], fun i row' hi => ?_⟩
          · simp only [Instr.fill]
            rw [if_neg (by simp [hvk]; omega)]
            exact r1
          · rw [r3 q (by rw [Nat.add_mul]; omega), s2, if_neg (by omega)]
          · cases i with
            | zero =>
              simp at hi
              subst hi
              refine ⟨⟨hk, rowOf_isRow hrow⟩, fun q x' hx => ?_⟩
              have hq : q < k := by rw [← hk]; exact (List.getElem?_eq_some_iff.1 hx).1
              have hqv : q < vx.cells.size := by omega
              refine ⟨vx.cells[q], ?_, hreps.2 q x' _ hx (Array.getElem?_eq_getElem hqv), hone q _ (Array.getElem?_eq_getElem hqv)⟩
              rw [Nat.add_zero, r3 _ (by rw [Nat.add_mul]; omega), s2]
              simp only [Nat.add_zero, Array.length_toList]
              rw [if_pos ⟨by omega, by omega, by omega⟩, show vi * k + q - vi * k = q by omega]
              simp [hqv]
            | succ i =>
              obtain ⟨g1, g2⟩ := r5 i row' (by simpa using hi)
              refine ⟨g1, fun q x' hx => ?_⟩
              obtain ⟨u, u1, u2⟩ := g2 q x' hx
              exact ⟨u, by rw [show vi + (i + 1) = vi + 1 + i by omega]; exact u1, u2⟩
      · cases h
    · cases h
  | [], _ :: _, _, _, _, hp, _, _ => by have := hp.1; simp at this
  | _ :: _, [], _, _, _, hp, _, _ => by have := hp.1; simp at this
theorem buildSlice_sound (hR : RM φ m w) {t : TypeId} {n : Nat} {ps : List (Nat × AV)} {vs : Array (Nat × Value)} {a : AV} (hp : PartsRep φ m w ps vs.toList) (h : evBuildSlice P t n ps = some a) :
    ∃ y w' φ', (Instr.buildSlice t n vs).run P w = .ok y w' ∧ RM φ' m w' ∧ Ext φ m w φ' m w' ∧ Rep φ' m w' a y := by
  unfold evBuildSlice at h
  split at h
  · rename_i e he
    split at h
    · rename_i k z hk hz
      split at h
      · rename_i rows hrows
        split at h
        · rename_i hc
          obtain ⟨hn, hlim, hzk⟩ := hc
          simp only [Option.some.injEq] at h
          subst h
          obtain ⟨zv, hzr, hzreps⟩ := rep_zero (P := P) (φ := φ) (m := m) (w := w) hz
          have hps : rows.length = ps.length := by
            have : ∀ (ps : List (Nat × AV)) j rows, evRows k j ps = some rows → rows.length = ps.length := by
              intro ps
              induction ps with
              | nil => intro j rows h; simp only [evRows, Option.some.injEq] at h; subst h; rfl
              | cons p ps ih =>
                intro j rows h
                simp only [evRows] at h
                split at h
                · split at h
                  · cases hr : evRows k (j + 1) ps with
                    | none => simp [hr] at h
                    | some r => simp only [hr, Option.map_some, Option.some.injEq] at h; subst h; simp [ih _ _ hr]
                  · cases h
                · cases h
            exact this _ _ _ hrows
          -- the row that is filled
          have main : ∀ z0 : Array Value, ∃ arr', Instr.fill (fun i => some (i * k, k)) ((Array.range (n * k)).map (z0[· % z0.size]!)) vs.toList = some arr' ∧
              ∃ φ', RM φ' m (w.alloc (.cells arr' e)) ∧ Ext φ m w φ' m (w.alloc (.cells arr' e)) ∧ Rep φ' m (w.alloc (.cells arr' e)) (.lst .full k rows) (.slice (some ⟨w.heap.size, 0, none⟩) n n) := by
            intro z0
            obtain ⟨arr', r1, r2, _, _, r5⟩ := fill_rows (φ := φ) (m := m) (w := w) k ps vs.toList 0 rows ((Array.range (n * k)).map (z0[· % z0.size]!)) hp hrows (by rw [show ps.length = n by omega]; simp)
            obtain ⟨hR', hE'⟩ := alloc_row hR arr' e
            refine ⟨arr', r1, _, hR', hE', ?_⟩
            refine lst_mk (f := fun q => arr'.getD q undef) hn.symm (by omega) (fun e => by cases e) (fun ad e _ => by cases e; rfl) ⟨fun i row hi => (r5 i row hi).1, fun i row j x h1 h2 => ?_⟩ (fun ad had => ?_) (show rows.length = n from hn)
            · obtain ⟨u, u1, u2, u3⟩ := (r5 i row h1).2 j x h2
              rw [Nat.zero_add] at u1
              have : arr'.getD (i * k + j) undef = u := by rw [Array.getD_eq_getD_getElem?, u1]; rfl
              dsimp only
              rw [this]
              exact ⟨u2.mono hE', u3⟩
            · cases had
              intro q hq
              refine ⟨.inr rfl, ?_⟩
              have hq' : q < arr'.size := by rw [r2]; simp; rw [← hn]; exact hq
              simp only [World.cell?, heap_alloc_new]
              simp [Array.getD, hq']
          have hlim' : ¬ (n * k > 2 ^ 24) := by omega
          by_cases h0 : n * k = 0
          · obtain ⟨arr', f1, φ', g1, g2, g3⟩ := main #[]
            refine ⟨_, _, φ', ?_, g1, g2, g3⟩
            simp only [Instr.buildSlice, Sem.run_bind, run_underlying' (elem_under he), Result.andThen_ok, run_sizeOf' hk, Sem.run_ite, if_neg hlim', if_pos h0, Sem.run_pure, f1]
            simp [newRow, World.alloc, -World.alloc_eq]
          · obtain ⟨arr', f1, φ', g1, g2, g3⟩ := main zv.cells
            refine ⟨_, _, φ', ?_, g1, g2, g3⟩
            simp only [Instr.buildSlice, Sem.run_bind, run_underlying' (elem_under he), Result.andThen_ok, run_sizeOf' hk, Sem.run_ite, if_neg hlim', if_neg h0, hzr, Sem.run_pure, f1]
            simp [newRow, World.alloc, -World.alloc_eq]
        · cases h
      · cases h
    · cases h
  · cases h
end
end Go.Proofs.YtojaokhkbmiidaaGreat.Ev

namespace Go.Proofs.YtojaokhkbmiidaaGreat.Ev
open Go
set_option linter.unusedVariables false
set_option linter.unusedSimpArgs false
section
variable {P : Program} {φ : Phi} {m : Mem} {w : World}

/-- What the model reads of a list's first cells. -/
theorem run_first {a : Option Addr} {n c sz : Nat} {f : Nat → Value} {w' : World} (ha : a = none → n = 0) (hs : ∀ ad, a = some ad → 0 < n → ad.spot = none) (hc : ∀ ad, a = some ad → CellsIm φ w ad (n * sz) f)
    (hw : ∀ ad, a = some ad → ∀ k, k < n * sz → w'.cell? ⟨ad.block, ad.off + k, none⟩ = w.cell? ⟨ad.block, ad.off + k, none⟩) :
    (Builtin.firstCells sz n (.slice a n c)).run P w' = .ok ((List.range (n * sz)).map f).toArray w' := by
  cases a with
  | none =>
    have := ha rfl
    subst this
    simp [Builtin.firstCells]
  | some ad =>
    have h2 := hc ad rfl
    simp only [Builtin.firstCells]
    exact run_loadCells (P := P) w' ad (n * sz) f (fun j hj => by
      have hn0 : 0 < n := Nat.pos_of_ne_zero (fun e => by subst e; simp at hj)
      rw [addr_add (hs ad rfl hn0), hw ad rfl j hj]
      exact (h2 j hj).2)
theorem run_append_room {t t2 ty e e2 : TypeId} {sz : Nat} (ht : P.underlying t = some (.slice e)) (ht2 : P.underlying t2 = some (.slice e2)) (hs : tSize P e = some sz)
    {a a2 : Option Addr} {n c n2 c2 : Nat} {news : Array Value} (hf : (Builtin.firstCells sz n2 (.slice a2 n2 c2)).run P w = .ok news w) (hroom : n + n2 ≤ c) :
    (Builtin.append_ #[t, t2] ty #[.slice a n c, .slice a2 n2 c2]).run P w =
      match a with
      | some ad => ((storeCells (ad.add (n * sz)) news.toList).run P w).andThen fun _ w' => .ok (.slice (some ad) (n + n2) c) w'
      | none => .ok (.slice none (n + n2) c) w := by
  cases a with
  | none => simp [Builtin.append_, run_underlying' ht, run_underlying' ht2, run_sizeOf' hs, Builtin.lenOf, hroom, hf]
  | some ad => simp [Builtin.append_, run_underlying' ht, run_underlying' ht2, run_sizeOf' hs, Builtin.lenOf, hroom, hf]
theorem run_append_more {t t2 ty e e2 : TypeId} {i : TypeInfo} {z : Value} (ht : P.underlying t = some (.slice e)) (ht2 : P.underlying t2 = some (.slice e2)) (hi : P.info? e = some i) (hz : i.zero = some z)
    {a a2 : Option Addr} {n c n2 c2 : Nat} {olds news : Array Value} (ho : (Builtin.firstCells i.size n (.slice a n c)).run P w.drew = .ok olds w.drew)
    (hf : (Builtin.firstCells i.size n2 (.slice a2 n2 c2)).run P w.drew = .ok news w.drew) (hg : c < n + n2) (h63 : ((n + n2 : Nat) : Int) ≤ 9223372036854775807)
    (hfit : Builtin.nextslicecap (n + n2) c * i.bytes ≤ 281474976710656) :
    (Builtin.append_ #[t, t2] ty #[.slice a n c, .slice a2 n2 c2]).run P w =
      .ok (.slice (some ⟨w.heap.size, 0, none⟩) (n + n2) (grownCap w (n + n2) c e))
        (w.drew.alloc (.cells (olds ++ news ++ Builtin.zeroCells z.cells (grownCap w (n + n2) c e - (n + n2))) e)) := by
  have hn : ¬ (n + n2 ≤ c) := by omega
  have h63' : ¬ (9223372036854775807 < ((n : Int) + (n2 : Int))) := by omega
  have h48' : ¬ (281474976710656 < Builtin.nextslicecap (n + n2) c * i.bytes) := by omega
  simp [Builtin.append_, run_underlying' ht, run_underlying' ht2, sizeOf, typeInfo, zeroValue, hi, hz, Builtin.lenOf, hn, h63', h48', Question.forced, hf, ho, newRow, grownCap]
theorem le_grownCap (w : World) (need old : Nat) (e : TypeId) : need ≤ grownCap w need old e := by
  simp only [grownCap, Question.cut]
  omega

theorem asList_rep {k : Nat} {x : AV} {v : Value} {g : Grow} {xs : List (List AV)} (h : Rep φ m w x v) (hl : asList k x = some (g, xs)) :
    ∃ a c f, v = .slice a xs.length c ∧ xs.length ≤ c ∧ (a = none → c = 0) ∧ (∀ ad, a = some ad → 0 < c → ad.spot = none) ∧ RowsAt φ m w k xs f ∧ (∀ ad, a = some ad → CellsIm φ w ad (xs.length * k) f) ∧ growOk φ m g a xs.length c k := by
  unfold asList at hl
  split at hl
  · split at hl
    · rename_i hs
      subst hs
      simp only [Option.some.injEq, Prod.mk.injEq] at hl
      obtain ⟨rfl, rfl⟩ := hl
      exact lst_cells h
    · cases hl
  · simp only [Option.some.injEq, Prod.mk.injEq] at hl
    obtain ⟨rfl, rfl⟩ := hl
    cases h
    exact ⟨none, 0, fun _ => undef, rfl, Nat.le_refl _, fun _ => rfl, (fun ad h => by cases h), ⟨(fun i row h => by simp at h), (fun i row j x h => by simp at h)⟩, (fun ad h => by cases h), rfl⟩
  · cases hl

theorem append_sound (hR : RM φ m w) {t t2 : TypeId} (ty : TypeId) {x y a : AV} {xv yv : Value} {m' : Mem} (hx : Rep φ m w x xv) (hy : Rep φ m w y yv) (h : evAppend P t t2 m x y = some (a, m')) :
    ∃ v w' φ', (Builtin.append_ #[t, t2] ty #[xv, yv]).run P w = .ok v w' ∧ RM φ' m' w' ∧ Ext φ m w φ' m' w' ∧ Rep φ' m' w' a v := by
  unfold evAppend at h
  split at h
  · rename_i e he
    split at h
    · rename_i k b z hk hb hz
      split at h
      · rename_i g xs g2 ys hxs hys
        split at h
        · rename_i hc
          obtain ⟨hlim, hb4, hzk, hk0, hzok, he2⟩ := hc
          obtain ⟨ax, cx, f, rfl, hcx, hax, sx, rx, cellx, hgx⟩ := asList_rep hx hxs
          obtain ⟨ay, cy, f2, rfl, hcy, hay, sy, ry, celly, _⟩ := asList_rep hy hys
          -- which token it is then
          obtain ⟨id, ver, ht, rfl, hid, hver⟩ : ∃ id ver, TokStep m m' id ∧ a = .lst (.tok id ver) k (xs ++ ys) ∧ m'.toks[id]? = some ver ∧
              (xs.length = cx ∨ (id < m.toks.length ∧ ∀ ad, ax = some ad → φ.tk id = (ad.block, ad.off + xs.length * k, ad.off + cx * k))) := by
            split at h
            · cases h
            · cases h
            · simp only [Option.some.injEq, Prod.mk.injEq] at h
              obtain ⟨rfl, rfl⟩ := h
              exact ⟨_, 0, tokStep_new m, rfl, by simp, .inl hgx⟩
            · rename_i id ver
              split at h
              · rename_i hv
                simp only [Option.some.injEq, Prod.mk.injEq] at h
                obtain ⟨rfl, rfl⟩ := h
                have hlt := (List.getElem?_eq_some_iff.1 hv).1
                refine ⟨id, ver + 1, tokStep_up hv, rfl, by simp [hlt], ?_⟩
                obtain ⟨v, hv', _, hreg⟩ := hgx
                rw [hv] at hv'
                cases hv'
                have hreg := hreg rfl
                cases hax' : ax with
                | none => rw [hax'] at hreg; exact .inl hreg
                | some ad =>
                  rw [hax'] at hreg
                  exact .inr ⟨hlt, fun ad' e => by cases e; exact hreg⟩
              · cases h
          have hgrow : ∀ (φ' : Phi) (A : Option Addr) n c, (∀ ad, A = some ad → φ'.tk id = (ad.block, ad.off + n * k, ad.off + c * k)) → (A = none → n = c) → growOk φ' m' (.tok id ver) A n c k := by
            intro φ' A n c h1 h2
            refine ⟨ver, hid, Nat.le_refl _, fun _ => ?_⟩
            cases A with
            | none => exact h2 rfl
            | some ad => exact h1 ad rfl
          have hu := elem_under he
          have hu2 := elem_under he2
          have hlen : (xs ++ ys).length = xs.length + ys.length := by simp
          have fy : ∀ w' : World, (∀ b o, w'.cell? ⟨b, o, none⟩ = w.cell? ⟨b, o, none⟩) → (Builtin.firstCells k ys.length (.slice ay ys.length cy)).run P w' = .ok ((List.range (ys.length * k)).map f2).toArray w' :=
            fun w' hw => run_first (φ := φ) (w := w) (fun e => by have := hay e; omega) (fun ad e h0 => sy ad e (by omega)) celly (fun ad _ j _ => hw _ _)
          have fx : ∀ w' : World, (∀ b o, w'.cell? ⟨b, o, none⟩ = w.cell? ⟨b, o, none⟩) → (Builtin.firstCells k xs.length (.slice ax xs.length cx)).run P w' = .ok ((List.range (xs.length * k)).map f).toArray w' :=
            fun w' hw => run_first (φ := φ) (w := w) (fun e => by have := hax e; omega) (fun ad e h0 => sx ad e (by omega)) cellx (fun ad _ j _ => hw _ _)
          have idx : ∀ {zs : List (List AV)} {fz : Nat → Value}, RowsAt φ m w k zs fz → ∀ q, q < zs.length * k → one (fz q) = true := by
            intro zs fz hzs q hq
            have hi : q / k < zs.length := by rw [Nat.div_lt_iff_lt_mul hk0]; exact hq
            have hrow := List.getElem?_eq_getElem hi
            have hj : q % k < (zs[q / k]).length := by rw [(hzs.1 _ _ hrow).1]; exact Nat.mod_lt _ hk0
            have := (hzs.2 _ _ _ _ hrow (List.getElem?_eq_getElem hj)).2
            rwa [Nat.div_add_mod' q k] at this
          by_cases hroom : xs.length + ys.length ≤ cx
          · -- there is room
            have hrun := run_append_room (P := P) (w := w) (ty := ty) (t := t) hu hu2 hk (a := ax) (n := xs.length) (c := cx) (a2 := ay) (c2 := cy) (fy w (fun _ _ => rfl)) hroom
            by_cases hy0 : ys.length = 0
            · -- nothing is written
              have hys0 : ys = [] := List.eq_nil_of_length_eq_zero hy0
              subst hys0
              have hst : (Builtin.append_ #[t, t2] ty #[.slice ax xs.length cx, .slice ay ([] : List (List AV)).length cy]).run P w = .ok (.slice ax xs.length cx) w := by
                rw [hrun]
                cases ax with
                | none => rfl
                | some ad => simp [storeCells]
              obtain ⟨B, X, Y, hB⟩ : ∃ B X Y, (X = Y ∨ (id < m.toks.length ∧ φ.tk id = (B, X, Y))) ∧ ∀ ad, ax = some ad → (B, X, Y) = (ad.block, ad.off + xs.length * k, ad.off + cx * k) := by
                cases ax with
                | none => exact ⟨0, 0, 0, .inl rfl, fun ad e => by cases e⟩
                | some ad =>
                  refine ⟨ad.block, ad.off + xs.length * k, ad.off + cx * k, ?_, fun ad' e => by cases e; rfl⟩
                  rcases hver with h1 | ⟨h1, h2⟩
                  · exact .inl (by rw [h1])
                  · exact .inr ⟨h1, h2 ad rfl⟩
              obtain ⟨hR', hE'⟩ := tok_step hR ht B X Y hB.1
              refine ⟨_, w, _, hst, hR', hE', ?_⟩
              rw [List.append_nil]
              exact lst_mk rfl hcx hax sx (rx.mono hE') (fun ad e => (cellx ad e).mono hE') (hgrow _ ax xs.length cx (fun ad e => by rw [← hB.2 ad e]; exact if_pos rfl) (fun e => by have := hax e; omega))
            · -- the new elements are written behind the old ones
              cases hax' : ax with
              | none => have := hax hax'; omega
              | some ad =>
                rw [hax'] at hrun hver cellx sx
                have hreg : id < m.toks.length ∧ φ.tk id = (ad.block, ad.off + xs.length * k, ad.off + cx * k) := by
                  rcases hver with h1 | ⟨h1, h2⟩
                  · omega
                  · exact ⟨h1, h2 ad rfl⟩
                have hmul : (xs.length + ys.length) * k ≤ cx * k := Nat.mul_le_mul_right _ hroom
                rw [Nat.add_mul] at hmul
                have hpos : 0 < ys.length * k := Nat.mul_pos (by omega) hk0
                let vs : List Value := (List.range (ys.length * k)).map f2
                have hvl : vs.length = ys.length * k := by simp [vs]
                obtain ⟨arr, T, hb1, hsz, hR', hE', hnew⟩ := grow_step hR ht hreg.1 hreg.2 (by omega) (vs := vs) (by rw [hvl]; omega) (fun v hv => by
                  obtain ⟨q, hq, rfl⟩ := List.mem_map.1 hv
                  exact idx ry q (List.mem_range.1 hq))
                have had := sx ad rfl (by omega)
                have hstore := run_storeCells_at P ad.block (ad.off + xs.length * k) T vs 0 arr w hb1 (by rw [hvl]; omega) (fun v hv => by
                  obtain ⟨q, hq, rfl⟩ := List.mem_map.1 hv
                  rw [← one_eq]
                  exact idx ry q (List.mem_range.1 hq))
                refine ⟨.slice (some ad) (xs.length + ys.length) cx, _, _, ?_, hR', hE', ?_⟩
                · rw [hrun]
                  simp only
                  rw [addr_add had]
                  simp only [Nat.add_zero] at hstore
                  rw [show List.map f2 (List.range (ys.length * k)) = vs from rfl, hstore]
                  rfl
                · refine lst_mk hlen.symm (by rw [hlen]; exact hroom) (fun e => by cases e) (fun ad' e _ => by cases e; exact had) (rowsAt_append (rx.mono hE') (ry.mono hE')) (fun ad' e => ?_) (hgrow _ _ _ _ (fun ad' e => ?_) (fun e => by cases e))
                  · cases e
                    intro q hq
                    rw [hlen, Nat.add_mul] at hq
                    by_cases hq1 : q < xs.length * k
                    · have h9 := ((cellx ad rfl).mono hE') q hq1
                      exact ⟨h9.1, h9.2.trans (by show some (f q) = some (if q < xs.length * k then f q else _); rw [if_pos hq1])⟩
                    · refine ⟨.inr ⟨rfl, by omega, by rw [hvl]; omega⟩, ?_⟩
                      have hq2 : q - xs.length * k < ys.length * k := by omega
                      have := hnew (q - xs.length * k) (f2 (q - xs.length * k)) (by simp [vs, hq2])
                      rw [show ad.off + xs.length * k + (q - xs.length * k) = ad.off + q by omega] at this
                      exact this.trans (by show some (f2 (q - xs.length * k)) = some (if q < xs.length * k then f q else f2 (q - xs.length * k)); rw [if_neg hq1])
                  · cases e
                    rw [hlen, Nat.add_mul]
                    have : (if id = id then (ad.block, ad.off + xs.length * k + vs.length, ad.off + cx * k) else φ.tk id) = (ad.block, ad.off + (xs.length * k + ys.length * k), ad.off + cx * k) := by
                      rw [if_pos rfl, hvl, Nat.add_assoc]
                    exact this
          · -- a new row
            obtain ⟨zv, hzr, hzreps⟩ := rep_zero (P := P) (φ := φ) (m := m) (w := w) hz
            cases hinfo : P.info? e with
            | none => simp [tSize, hinfo] at hk
            | some i =>
              have hik : i.size = k := by simpa [tSize, hinfo] using hk
              have hib : i.bytes = b := by simpa [tBytes, hinfo] using hb
              have hiz : i.zero = some zv := by
                cases hq : i.zero with
                | none => simp [zeroCells, hinfo, hq] at hz
                | some q => simp [zeroValue, typeInfo, hinfo, hq] at hzr; rw [hzr]
              have hneed : (xs.length + ys.length) * i.bytes ≤ 140737488355328 := by
                rw [hib]
                calc (xs.length + ys.length) * b ≤ 4294967296 * 4096 := Nat.mul_le_mul hlim hb4
                  _ ≤ 140737488355328 := by decide
              have hfit := growslice_fits (need := xs.length + ys.length) (old := cx) (bytes := i.bytes) (by omega) hneed
              have hrun := run_append_more (P := P) (w := w) (ty := ty) (t := t) (t2 := t2) hu hu2 hinfo hiz (a := ax) (n := xs.length) (c := cx) (a2 := ay) (n2 := ys.length) (c2 := cy)
                (by rw [hik]; exact fx w.drew (fun _ _ => rfl)) (by rw [hik]; exact fy w.drew (fun _ _ => rfl)) (by omega) (by unfold lim at hlim; omega) hfit
              have hcap := le_grownCap w (xs.length + ys.length) cx e
              generalize hC : grownCap w (xs.length + ys.length) cx e = C at hrun hcap
              let arr : Array Value := ((List.range (xs.length * k)).map f).toArray ++ ((List.range (ys.length * k)).map f2).toArray ++ Builtin.zeroCells zv.cells (C - (xs.length + ys.length))
              have hzs : zv.cells.size = k := by rw [hzreps.1]; exact hzk
              have hasz : arr.size = C * k := by
                simp only [arr, Builtin.zeroCells, Array.size_append, List.size_toArray, List.length_map, List.length_range, Array.size_map, Array.size_range, hzs]
                rw [← Nat.add_mul, ← Nat.add_mul]
                congr 1
                omega
              have hget : ∀ q, q < xs.length * k + ys.length * k → arr[q]? = some (if q < xs.length * k then f q else f2 (q - xs.length * k)) := by
                intro q hq
                simp only [arr]
                rw [Array.getElem?_append_left (by simp; omega), Array.getElem?_append]
                simp only [List.size_toArray, List.length_map, List.length_range]
                split
                · rename_i h1; simp [h1]
                · rename_i h1
                  have : q - xs.length * k < ys.length * k := by omega
                  simp [this]
              have hone : ∀ (o : Nat) u, arr[o]? = some u → one u = true := by
                intro o u ho
                by_cases h1 : o < xs.length * k + ys.length * k
                · rw [hget o h1] at ho
                  simp only [Option.some.injEq] at ho
                  subst ho
                  split
                  · rename_i h2; exact idx rx o h2
                  · exact idx ry _ (by omega)
                · simp only [arr] at ho
                  rw [Array.getElem?_append_right (by simp; omega)] at ho
                  simp only [Builtin.zeroCells, Array.getElem?_map, Option.map_eq_some_iff] at ho
                  obtain ⟨q, hq, rfl⟩ := ho
                  have hm : q % zv.cells.size < zv.cells.size := Nat.mod_lt _ (by rw [hzs]; exact hk0)
                  rw [getElem!_pos zv.cells _ hm]
                  have hz' : q % zv.cells.size < z.length := by rw [← hzreps.1]; exact hm
                  exact okCell_one (hzreps.2 _ _ _ (List.getElem?_eq_getElem hz') (Array.getElem?_eq_getElem hm)) (List.all_eq_true.1 hzok _ (List.getElem_mem hz'))
              have hRd := drew_rm hR
              obtain ⟨hR', hE'⟩ := alloc_row_tok (w := w.drew) hRd ht (arr := arr) e ((xs.length + ys.length) * k) hone
              have hE := (drew_ext φ m w).trans hE'
              refine ⟨_, _, _, hrun, hR', hE, ?_⟩
              refine lst_mk hlen.symm (by rw [hlen]; exact hcap) (fun e => by cases e) (fun ad' e _ => by cases e; rfl) (rowsAt_append (rx.mono hE) (ry.mono hE)) (fun ad' e => ?_) (hgrow _ _ _ _ (fun ad' e => ?_) (fun e => by cases e))
              · cases e
                intro q hq
                refine ⟨.inr ⟨rfl, by rw [hlen] at hq; simpa using hq⟩, ?_⟩
                rw [hlen, Nat.add_mul] at hq
                have := hget q hq
                have hh : ((w.drew).alloc (.cells arr e)).heap[w.heap.size]? = some (.cells arr e (0, 0)) := heap_alloc_new w.drew _
                simp only [World.cell?]
                show (match ((w.drew).alloc (.cells arr e)).heap[w.heap.size]? with | some (.cells c _ _) => if (none : Option Nat).isSome then none else c[0 + q]? | _ => none) = _
                rw [hh]
                simpa using this
              · cases e
                rw [hlen]
                have : (if id = id then (w.drew.heap.size, (xs.length + ys.length) * k, arr.size) else φ.tk id) = (w.heap.size, 0 + (xs.length + ys.length) * k, 0 + C * k) := by
                  rw [if_pos rfl, hasz]
                  simp
                exact this
        · cases h
      · cases h
    · cases h
  · cases h
end
end Go.Proofs.YtojaokhkbmiidaaGreat.Ev

namespace Go.Proofs.YtojaokhkbmiidaaGreat.Ev
open Go
set_option linter.unusedVariables false
set_option linter.unusedSimpArgs false
section
variable {P : Program} {φ : Phi} {m : Mem} {w : World}

theorem mapM_run {α β : Type} {g : α → Sem β} {r : α → β} : ∀ {fs : List α}, (∀ f ∈ fs, (g f).run P w = .ok (r f) w) → (fs.mapM g).run P w = .ok (fs.map r) w
  | [], _ => rfl
  | f :: fs, h => by
    have h1 := h f (by simp)
    have h2 := mapM_run (fs := fs) (fun x hx => h x (by simp [hx]))
    simp [List.mapM_cons, h1, h2]
theorem wrap_i64 {n : Int} (h0 : -9223372036854775808 ≤ n) (h1 : n ≤ 9223372036854775807) : IntKind.i64.wrap n = n := by
  simp [IntKind.wrap, IntKind.bits, IntKind.signed]
  omega
theorem build_sound (hR : RM φ m w) {t : TypeId} {ps : List (Nat × AV)} {vs : Array (Nat × Value)} {a : AV} (hp : PartsRep φ m w ps vs.toList) (h : evBuild P t ps = some a) :
    ∃ y, (Instr.build t vs).run P w = .ok y w ∧ Rep φ m w a y := by
  unfold evBuild at h
  split at h
  · rename_i fs z hu hz
    obtain ⟨zv, hzr, hzreps⟩ := rep_zero (P := P) (φ := φ) (m := m) (w := w) hz
    split at h
    · rename_i hall
      cases hf : evBuildFill (fun i => (fs[i]?).bind fun f => (tSize P f.type).map fun k => (f.offset, k)) z ps with
      | none => simp [hf] at h
      | some r =>
        simp only [hf, Option.map_some, Option.some.injEq] at h
        subst h
        obtain ⟨arr', r1, r2⟩ := fill_sound ps vs.toList z r zv.cells hp hzreps hf
        refine ⟨.agg arr', ?_, .agg _ _ r2.1 r2.2⟩
        have hm' : (fs.mapM (m := Sem) fun (f : Field) => do pure (f.offset, ← sizeOf f.type)).run P w = .ok (fs.map fun (f : Field) => (f.offset, (tSize P f.type).getD 0)) w := by
          rw [Array.mapM_eq_mapM_toList]
          have hm := mapM_run (P := P) (w := w) (g := fun (f : Field) => do pure (f.offset, ← sizeOf f.type)) (r := fun (f : Field) => (f.offset, (tSize P f.type).getD 0)) (fs := fs.toList) (fun f hf => by
            obtain ⟨k, hk⟩ := Option.isSome_iff_exists.1 (List.all_eq_true.1 hall f hf)
            simp [run_sizeOf' hk, hk])
          rw [Sem.run_map, hm]
          simp only [Result.andThen_ok]
          congr 1
          apply Array.ext'
          simp
        have hplace : (fun (i : Nat) => (fs.map fun (f : Field) => (f.offset, (tSize P f.type).getD 0))[i]?) = fun (i : Nat) => (fs[i]?).bind fun (f : Field) => (tSize P f.type).map fun k => (f.offset, k) := by
          funext i
          rw [Array.getElem?_map]
          cases hi : fs[i]? with
          | none => rfl
          | some f =>
            have hmem : f ∈ fs.toList := by
              have := Array.mem_of_getElem? hi
              exact Array.mem_toList_iff.2 this
            obtain ⟨k, hk⟩ := Option.isSome_iff_exists.1 (List.all_eq_true.1 hall f hmem)
            simp [hk]
        simp only [Instr.build, Sem.run_bind, hzr, Result.andThen_ok, run_underlying' hu, hm']
        rw [hplace, r1]
        rfl
    · cases h
  · rename_i n e z hu hz
    obtain ⟨zv, hzr, hzreps⟩ := rep_zero (P := P) (φ := φ) (m := m) (w := w) hz
    split at h
    · rename_i k hk
      cases hf : evBuildFill (fun i => some (i * k, k)) z ps with
      | none => simp [hf] at h
      | some r =>
        simp only [hf, Option.map_some, Option.some.injEq] at h
        subst h
        obtain ⟨arr', r1, r2⟩ := fill_sound ps vs.toList z r zv.cells hp hzreps hf
        refine ⟨.agg arr', ?_, .agg _ _ r2.1 r2.2⟩
        simp only [Instr.build, Sem.run_bind, hzr, Result.andThen_ok, run_underlying' hu, run_sizeOf' hk, r1]
        rfl
    · cases h
  · cases h

/-! ### variables -/
theorem alloc_sound (hR : RM φ m w) {t : TypeId} {z : List AV} {m' : Mem} {p : Nat} (hz : zeroCells P t = some z) (hok : z.all okCell = true) (h : newVar m p z = some m') :
    ∃ w' φ', (Instr.alloc t true (.tuple #[])).run P w = .ok (.pointer (some ⟨w.heap.size, 0, none⟩)) w' ∧ RM φ' m' w' ∧ Ext φ m w φ' m' w' ∧ Rep φ' m' w' (.ptr p 0) (.pointer (some ⟨w.heap.size, 0, none⟩)) := by
  obtain ⟨zv, hzr, hzreps⟩ := rep_zero (P := P) (φ := φ) (m := m) (w := w) hz
  obtain ⟨φ', h1, h2, h3, h4⟩ := newVar_sound hR h hzreps hok t
  refine ⟨_, φ', ?_, h1, h2, ?_⟩
  · simp [Instr.alloc, hzr, newVar, newRow, Go.newVar, World.alloc, -World.alloc_eq]
  · rw [← h3]; exact .ptr p 0 z h4
theorem box_sound (hR : RM φ m w) {t : TypeId} {x : AV} {xv : Value} {cs : List AV} {m' : Mem} {p : Nat} (hx : Rep φ m w x xv) (hc : cellsOf x = some cs) (h : newVar m p cs = some m') :
    ∃ w' φ', (Instr.box t xv).run P w = .ok (.pointer (some ⟨w.heap.size, 0, none⟩)) w' ∧ RM φ' m' w' ∧ Ext φ m w φ' m' w' ∧ Rep φ' m' w' (.ptr p 0) (.pointer (some ⟨w.heap.size, 0, none⟩)) := by
  obtain ⟨hreps, hok⟩ := cells_of hx hc
  obtain ⟨φ', h1, h2, h3, h4⟩ := newVar_sound hR h hreps hok t
  refine ⟨_, φ', ?_, h1, h2, ?_⟩
  · simp [Instr.box, newRow, Go.newVar, World.alloc, -World.alloc_eq]
  · rw [← h3]; exact .ptr p 0 cs h4
theorem store_sound (hR : RM φ m w) {t : TypeId} {p x : AV} {pv xv : Value} {m' : Mem} (hp : Rep φ m w p pv) (hx : Rep φ m w x xv) (h : evStore P m t p x = some m') :
    ∃ w', (Instr.storeAt t pv xv).run P w = .ok () w' ∧ RM φ m' w' ∧ Ext φ m w φ m' w' := by
  unfold evStore at h
  split at h
  · rename_i r off cs k hcs hk
    split at h
    · rename_i old hv
      split at h
      · rename_i hc
        obtain ⟨h1, h2, h3⟩ := hc
        simp only [Option.some.injEq] at h
        subst h
        obtain ⟨hreps, hok⟩ := cells_of hx hcs
        cases hp with
        | ptr _ _ cs' hv' =>
          obtain ⟨arr, T, hb, harr, _, _⟩ := hR.var r old hv
          have hfit : off + cs.length ≤ old.length := by omega
          obtain ⟨g1, g2⟩ := store_step hR hv hfit hok h3 (vs := xv.cells.toList) (by simpa using hreps) hb harr rfl
          refine ⟨_, ?_, g1, g2⟩
          have hvs : xv.cells.size = k := by rw [hreps.1]; exact h1
          have hst := run_storeCells_at P (φ.vb r) off T xv.cells.toList 0 arr w hb (by rw [harr.1]; simp [hvs]; omega) (fun v hv => by
            obtain ⟨i, hi, rfl⟩ := List.getElem_of_mem hv
            rw [← one_eq]
            have hi' : i < cs.length := by rw [← hreps.1]; simpa using hi
            exact okCell_one (hreps.2 i cs[i] _ (List.getElem?_eq_getElem hi') (by simp at hi ⊢)) (List.all_eq_true.1 hok _ (List.getElem_mem hi')))
          simp only [Nat.add_zero] at hst
          simp only [Instr.storeAt, Instr.sureAddr, Sem.run_bind, Sem.run_pure, Result.andThen_ok, storeVar, run_sizeOf' hk, Sem.run_ite, hvs]
          simpa using hst
      · cases h
    · cases h
  · cases h
theorem makeSlice_sound (hR : RM φ m w) {t : TypeId} {n c : AV} {nv cv : Value} {cs : List AV} {sz k : Nat} {m' : Mem} {p : Nat} (hn : Rep φ m w n nv) (hc : Rep φ m w c cv)
    (h : evMakeSlice P t n c = some (cs, sz, k)) (hm : newVar m p cs = some m') :
    ∃ v w' φ', (Instr.makeSlice t nv cv).run P w = .ok v w' ∧ RM φ' m' w' ∧ Ext φ m w φ' m' w' ∧ Rep φ' m' w' (.vs p 0 sz k k) v := by
  unfold evMakeSlice at h
  split at h
  · rename_i e kn n kc c he
    cases hn; cases hc
    split at h
    · rename_i b z hk hb hz
      split at h
      · rename_i hcond
        obtain ⟨hokz, rfl, h0, hbig, h63⟩ := hcond
        simp only [Option.some.injEq, Prod.mk.injEq] at h
        obtain ⟨rfl, rfl, rfl⟩ := h
        obtain ⟨zv, hzr, hzreps⟩ := rep_zero (P := P) (φ := φ) (m := m) (w := w) hz
        have hzs : zv.cells.size = 1 := hzreps.1
        have hz0 : zv.cells[0]? = some (zv.cells[0]'(by omega)) := Array.getElem?_eq_getElem (by omega)
        have hzrep := hzreps.2 0 z _ rfl hz0
        let arr : Array Value := (Array.range n.toNat).map fun i => (if n.toNat = 0 then #[] else zv.cells)[i % (if n.toNat = 0 then #[] else zv.cells).size]!
        have hreps : Reps φ m w (List.replicate n.toNat z) arr := by
          refine ⟨by simp [arr], fun i a u h1 h2 => ?_⟩
          rw [List.getElem?_replicate] at h1
          split at h1
          · rename_i hi
            simp only [Option.some.injEq] at h1
            subst h1
            have hne : n.toNat ≠ 0 := by omega
            simp only [arr, if_neg hne, Array.getElem?_map, Option.map_eq_some_iff] at h2
            obtain ⟨q, _, rfl⟩ := h2
            rw [hzs, Nat.mod_one, getElem!_pos zv.cells 0 (by omega)]
            exact hzrep
          · cases h1
        have hok : (List.replicate n.toNat z).all okCell = true := by
          rw [List.all_eq_true]
          intro q hq
          rw [List.eq_of_mem_replicate hq]
          exact hokz
        obtain ⟨φ', g1, g2, g3, g4⟩ := newVar_sound hR hm hreps hok e
        refine ⟨.slice (some ⟨w.heap.size, 0, none⟩) n.toNat n.toNat, _, φ', ?_, g1, g2, ?_⟩
        · have hwrap : IntKind.i64.wrap n = n := wrap_i64 (by omega) h63
          cases hinfo : P.info? e with
          | none => simp [tSize, hinfo] at hk
          | some i =>
            have hib : i.bytes = b := by simpa [tBytes, hinfo] using hb
            have hbig' : ¬ ((2 : Int) ^ 48 < (b : Int) * n) := by rw [Int.mul_comm, show (2 : Int) ^ 48 = 281474976710656 by decide]; omega
            have hn0 : ¬ n < 0 := by omega
            simp only [Instr.makeSlice, Sem.run_bind, run_underlying' (elem_under he), Result.andThen_ok, asInt, asIntOf, Sem.run_pure, typeInfo, run_program, hinfo, hib, hwrap, run_askRoom, run_sizeOf' hk]
            simp only [hn0, hbig', decide_false, Bool.or_false, Bool.false_or, Int.lt_irrefl, gt_iff_lt, Bool.false_eq_true, if_false, Sem.run_pure, Result.andThen_ok, Sem.run_bind, run_askRoom, run_sizeOf' hk]
            by_cases hq : n.toNat = 0
            · simp [hq, newRow, arr, World.alloc, -World.alloc_eq]
            · simp [hq, hzr, newRow, arr, World.alloc, -World.alloc_eq]
        · rw [← g3]; exact .vs p 0 1 _ _ _ g4 (by simp) (Nat.le_refl _)
      · cases h
    · cases h
  · cases h

/-! ### bytes as a text -/
theorem bytes_run : ∀ (cs : List AV) (vs : List Value) (l : List UInt8) (acc : ByteArray), bytesOfCells cs = some l → vs.length = cs.length → (∀ (i : Nat) a u, cs[i]? = some a → vs[i]? = some u → Rep φ m w a u) →
    (forIn (m := Sem) vs acc fun c s => match c with
      | .int .u8 n => pure (.yield (s.push (UInt8.ofNat n.toNat)))
      | _ => do
        stuck "bytesToString: byte expected"
        pure (.yield s)).run P w = .ok ⟨acc.data ++ l.toArray⟩ w
  | [], [], l, acc, h, _, _ => by simp only [bytesOfCells, Option.some.injEq] at h; subst h; simp
  | a :: cs, u :: vs, l, acc, h, hl, hr => by
    have h0 := hr 0 a u rfl rfl
    unfold bytesOfCells at h
    split at h
    · rename_i e; cases e
    · rename_i n cs' e
      cases e
      cases h0
      cases hb : bytesOfCells cs with
      | none => simp [hb] at h
      | some l' =>
        simp only [hb, Option.map_some, Option.some.injEq] at h
        subst h
        have ih := bytes_run cs vs l' (acc.push (UInt8.ofNat n.toNat)) hb (by simpa using hl) (fun i a u h1 h2 => hr (i + 1) a u (by simpa using h1) (by simpa using h2))
        rw [List.forIn_cons]
        simp only [Sem.run_bind, Sem.run_pure, Result.andThen_ok, ih]
        congr 1
        simp [ByteArray.push]
    · cases h
  | [], _ :: _, _, _, _, hl, _ => by simp at hl
  | _ :: _, [], _, _, _, hl, _ => by simp at hl
theorem convert_sound (hR : RM φ m w) {src dst : TypeId} {x a : AV} {xv : Value} (hx : Rep φ m w x xv) (h : evConvert P m src dst x = some a) :
    ∃ y, (convert src dst xv).run P w = .ok y w ∧ Rep φ m w a y := by
  unfold evConvert at h
  split at h
  · cases hx
    split at h
    · rename_i d k hs hd
      simp only [Option.some.injEq] at h
      subst h
      refine ⟨_, ?_, .v _⟩
      simp only [convert, Sem.run_bind, run_underlying' hs, run_underlying' (int_under hd), Result.andThen_ok]
      cases d <;> rfl
    · cases h
  · cases hx
    split at h
    · rename_i d hs
      split at h
      · rename_i hd
        simp only [Option.some.injEq] at h
        subst h
        refine ⟨_, ?_, .v _⟩
        simp only [convert, Sem.run_bind, run_underlying' hs, run_underlying' (str_under hd), Result.andThen_ok]
        cases d <;> rfl
      · cases h
    · cases h
  · rename_i r off n c
    split at h
    · rename_i e cs he hv
      split at h
      · rename_i hc
        obtain ⟨hd, hu8, hfit⟩ := hc
        cases hb : bytesOfCells ((cs.drop off).take n) with
        | none => simp [hb] at h
        | some l =>
          simp only [hb, Option.map_some, Option.some.injEq] at h
          subst h
          cases hx with
          | vs _ _ _ _ _ cs' hv' hb' hn' =>
            obtain ⟨arr, hrun, hreps⟩ := load_cells (P := P) (cellsAt_ptr hR hv off) (k := n) (by simp; omega)
            refine ⟨.string ⟨l.toArray⟩, ?_, .v _⟩
            have hloop := bytes_run (P := P) (φ := φ) (m := m) (w := w) _ arr.toList l ByteArray.empty hb (by have := hreps.1; simpa using this) (fun i a u h1 h2 => hreps.2 i a u h1 (by simpa using h2))
            have e0 : (ByteArray.empty.data ++ l.toArray) = l.toArray := by show (#[] : Array UInt8) ++ l.toArray = l.toArray; simp
            rw [e0] at hloop
            simp only [convert, Sem.run_bind, run_underlying' (elem_under he), run_underlying' (str_under hd), Result.andThen_ok, run_underlying' (int_under hu8), Conv.bytesToString, hrun]
            rw [← Array.forIn_toList]
            exact (congrArg (fun r => Result.andThen r fun a w' => Sem.run P (pure (Value.string a)) w') hloop).trans rfl
      · cases h
    · cases h
  · cases h
end
end Go.Proofs.YtojaokhkbmiidaaGreat.Ev

namespace Go.Proofs.YtojaokhkbmiidaaGreat.Ev
open Go
set_option linter.unusedVariables false
set_option linter.unusedSimpArgs false

/-- What the evaluator says of calls, the machine does. -/
def CallOk (P : Program) (call : CallF) : Prop :=
  ∀ f args m r m', call f args m = some (r, m') →
    (∃ fn, P.funcs[f]? = some fn ∧ fn.body.isNone = false ∧ (fn.name == "runtime.NumGoroutine") = false) ∧
    ∀ φ w vals, RM φ m w → Reps φ m w args vals →
      Calls P f vals w fun e w' => ∃ x φ', e = .returned x ∧ RM φ' m' w' ∧ Ext φ m w φ' m' w' ∧ Rep φ' m' w' r x

section
variable {P : Program} {φ : Phi} {m : Mem} {w : World}

theorem fin_value {s : Sem Value} {x : Value} {w' : World} (h : s.run P w = .ok x w') : (do pure (Next.value (← s)) : Sem Next).run P w = .ok (.value x) w' := by
  simp [Sem.run_bind, h]
theorem fin_skip {s : Sem Unit} {w' : World} (h : s.run P w = .ok () w') : (do s; pure Next.skip : Sem Next).run P w = .ok .skip w' := by
  simp [Sem.run_bind, h]

theorem reps_map {ops : List Operand} {f : Operand → AV} {ρ : Operand → Value} (h : ∀ x, Rep φ m w (f x) (ρ x)) : Reps φ m w (ops.map f) (ops.map ρ).toArray :=
  ⟨by simp, fun i a u h1 h2 => by
    simp only [List.getElem?_map, Option.map_eq_some_iff] at h1
    simp only [List.getElem?_toArray, List.getElem?_map, Option.map_eq_some_iff] at h2
    obtain ⟨x, hx, rfl⟩ := h1
    obtain ⟨y, hy, rfl⟩ := h2
    rw [hx] at hy
    cases hy
    exact h x⟩
theorem reps_mapA {ops : Array Operand} {f : Operand → AV} {ρ : Operand → Value} (h : ∀ x, Rep φ m w (f x) (ρ x)) : Reps φ m w (ops.toList.map f) (ops.map ρ) := by
  have := reps_map (ops := ops.toList) h
  have e : (ops.toList.map ρ).toArray = ops.map ρ := by apply Array.ext'; simp
  rwa [e] at this
theorem reps_zip {P : Program} {e : Env} {a : Act} (hE : EnvRep φ m w e a.tmps) {ts : List TypeId} {xs : Array Operand} (hl : ts.length = xs.size) :
    Reps φ m w (List.zipWith (opd P e) ts xs.toList) (xs.map a.eval) :=
  ⟨by simp [hl], fun i b u h1 h2 => by
    simp only [List.getElem?_zipWith] at h1
    simp only [Array.getElem?_map, Option.map_eq_some_iff] at h2
    obtain ⟨y, hy, rfl⟩ := h2
    cases h3 : ts[i]? with
    | none => simp [h3] at h1
    | some t =>
      have hy' : xs.toList[i]? = some y := by simpa using hy
      simp only [h3, hy', Option.some.injEq] at h1
      subst h1
      exact rep_opd hE t y⟩
theorem parts_zip {P : Program} {e : Env} {a : Act} (hE : EnvRep φ m w e a.tmps) (t : TypeId) (ps : Array (Nat × Operand)) :
    PartsRep φ m w (ps.toList.map fun (i, x) => (i, opd P e (fieldTy P t i) x)) (ps.map fun (i, x) => (i, a.eval x)).toList :=
  ⟨by simp, fun i p v h1 h2 => by
    simp only [List.getElem?_map, Option.map_eq_some_iff, Array.toList_map] at h1 h2
    obtain ⟨x, hx, rfl⟩ := h1
    obtain ⟨y, hy, rfl⟩ := h2
    rw [hx] at hy
    cases hy
    exact ⟨rfl, rep_opd hE _ _⟩⟩
theorem opt_map {P : Program} {e : Env} {a : Act} (hE : EnvRep φ m w e a.tmps) (t : TypeId) (x : Option Operand) : OptRep φ m w (x.map (opd P e t)) (x.map a.eval) := by
  cases x with
  | none => exact .inl ⟨rfl, rfl⟩
  | some x => exact .inr ⟨_, _, rfl, rfl, rep_opd hE t x⟩

/-- An argument is what it was, but nobody grows it. -/
theorem rep_argCell {a : AV} {x : Value} (h : Rep φ m w a x) : Rep φ m w (argCell a) x := by
  cases h with
  | lst g sz rows ad c val hc hr ha hs hcell hrep hg => exact .lst _ _ _ _ _ val hc hr ha hs hcell hrep trivial
  | junk x => exact .junk x
  | v x => exact .v x
  | agg cs arr hn h => exact .agg cs arr hn h
  | tup cs arr hn h => exact .tup cs arr hn h
  | ptr r off cs h => exact .ptr r off cs h
  | eptr cs ad val hs h1 h2 => exact .eptr cs ad val hs h1 h2
  | vs r off sz n c cs h hb hn => exact .vs r off sz n c cs h hb hn
  | fn f first caps fv cv h1 h2 r1 r2 => exact .fn f first caps fv cv h1 h2 r1 r2
theorem rep_argAV {a : AV} {x : Value} (h : Rep φ m w a x) : Rep φ m w (argAV a) x := by
  cases a with
  | agg cs =>
    cases h with
    | agg _ arr hn h =>
      refine .agg _ arr (by simpa using hn) fun i b u h1 h2 => ?_
      simp only [List.getElem?_map, Option.map_eq_some_iff] at h1
      obtain ⟨c, hc, rfl⟩ := h1
      exact rep_argCell (h i c u hc h2)
  | _ => exact rep_argCell h
theorem reps_argAV {xs : List AV} {vs : Array Value} (h : Reps φ m w xs vs) : Reps φ m w (xs.map argAV) vs :=
  ⟨by simpa using h.1, fun i a u h1 h2 => by
    simp only [List.getElem?_map, Option.map_eq_some_iff] at h1
    obtain ⟨c, hc, rfl⟩ := h1
    exact rep_argAV (h.2 i c u hc h2)⟩
theorem reps_append {xs ys : List AV} {us vs : Array Value} (h : Reps φ m w xs us) (k : Reps φ m w ys vs) : Reps φ m w (xs ++ ys) (us ++ vs) :=
  ⟨by simp [h.1, k.1], fun i a u h1 h2 => by
    rw [List.getElem?_append] at h1
    rw [Array.getElem?_append] at h2
    have e := h.1
    split at h1
    · rw [if_pos (by omega)] at h2; exact h.2 i a u h1 h2
    · rw [if_neg (by omega)] at h2; rw [e] at h2; exact k.2 _ a u h1 h2⟩

/-- A call of a function value. -/
theorem call_wp {call : CallF} (hC : CallOk P call) (hR : RM φ m w) {o : Oper} {a : Act} {c : Call} (ho : o.op = .call c) {fo : Operand} (hc : c.callee = .value fo)
    {f : AV} (hf : Rep φ m w f (a.eval fo)) {xs : List AV} (hx : Reps φ m w xs (c.args.map a.eval)) {av : AV} {m' : Mem} (h : evCall call f xs m = some (av, m'))
    {K : Act → World → Prop} {Q : Exit → Act → World → Prop}
    (hK : ∀ x w' φ', RM φ' m' w' → Ext φ m w φ' m' w' → Rep φ' m' w' av x → K (a.put o.dst x) w') : o.wp P a w K Q := by
  unfold evCall at h
  split at h
  · rename_i g first caps
    generalize hfv : a.eval fo = fv at hf
    cases hf with
    | fn _ _ _ fv cv h1 h2 r1 r2 =>
      obtain ⟨⟨fn, hfn, hbody, hname⟩, hcalls⟩ := hC _ _ _ _ _ h
      have hreps := hcalls φ w (fv ++ c.args.map a.eval ++ cv) hR (reps_argAV (reps_append (reps_append ⟨h1, r1⟩ hx) ⟨h2, r2⟩))
      have hrun : (execOp a.eval o).run P w = .ok (.enter g (fv ++ c.args.map a.eval ++ cv)) w := by
        unfold execOp
        rw [ho]
        have hn : ¬ fn.name = "runtime.NumGoroutine" := by simpa using hname
        have hb : ¬ fn.body = none := by intro e; rw [e] at hbody; simp at hbody
        simp [resolve, hc, hfv, Deferred.ofValue, invoke, callFunc, hfn, hn, hb, Sem.run_bind, run_program]
      unfold Oper.wp
      rw [hrun, Oper.upon_enter]
      refine hreps.mono fun e w' hh => ?_
      obtain ⟨x, φ', rfl, g1, g2, g3⟩ := hh
      exact hK x w' φ' g1 g2 g3
  · cases h

theorem builtin_sound (hR : RM φ m w) {b : Builtin} {ts : List TypeId} {xs : List AV} {vs : Array Value} {av : AV} {m' : Mem} (ty : TypeId) (cs : Array Bool) (hx : Reps φ m w xs vs)
    (h : evBuiltin P m b ts xs = some (av, m')) : ∃ x w' φ', (builtin b ts.toArray ty cs vs).run P w = .ok (.value x) w' ∧ RM φ' m' w' ∧ Ext φ m w φ' m' w' ∧ Rep φ' m' w' av x := by
  unfold evBuiltin at h
  split at h
  · rename_i t x
    simp only [Option.map_eq_some_iff, Prod.mk.injEq] at h
    obtain ⟨r, hr, rfl, rfl⟩ := h
    obtain ⟨v, rfl⟩ : ∃ v, vs = #[v] := by
      have := hx.1; simp at this; exact Array.size_eq_one_iff.mp this
    obtain ⟨y, hy, hrep⟩ := len_sound (P := P) ty (hx.2 0 _ _ rfl rfl) hr
    exact ⟨y, w, φ, fin_value hy, hR, Ext.refl .., hrep⟩
  · rename_i xs
    simp only [Option.map_eq_some_iff, Prod.mk.injEq] at h
    obtain ⟨r, hr, rfl, rfl⟩ := h
    obtain ⟨k, x, rest, he, z, hz, hrep⟩ := minmax_sound (P := P) (fun k a b w => max2_int k a b w) hx hr
    refine ⟨z, w, φ, fin_value ?_, hR, Ext.refl .., hrep⟩
    unfold Builtin.max_
    rw [he]
    exact hz
  · rename_i xs
    simp only [Option.map_eq_some_iff, Prod.mk.injEq] at h
    obtain ⟨r, hr, rfl, rfl⟩ := h
    obtain ⟨k, x, rest, he, z, hz, hrep⟩ := minmax_sound (P := P) (fun k a b w => min2_int k a b w) hx hr
    refine ⟨z, w, φ, fin_value ?_, hR, Ext.refl .., hrep⟩
    unfold Builtin.min_
    rw [he]
    exact hz
  · rename_i t t2 x y
    obtain ⟨v, u, rfl⟩ : ∃ v u, vs = #[v, u] := by
      have h2 := hx.1; simp at h2; exact ⟨vs[0], vs[1], by apply Array.ext <;> simp [h2]; intro i hi; rcases i with _ | _ | i <;> first | omega | (intro _; rfl)⟩
    obtain ⟨z, w', φ', hz, g1, g2, g3⟩ := append_sound (P := P) hR ty (hx.2 0 _ _ rfl rfl) (hx.2 1 _ _ rfl rfl) h
    exact ⟨z, w', φ', fin_value hz, g1, g2, g3⟩
  · cases h

theorem isNil_sound {a : AV} {x : Value} {b : Bool} (h : Rep φ m w a x) (hb : isNil a = some b) : ∃ ad n c, x = .slice ad n c ∧ ad.isNone = b := by
  unfold isNil at hb
  split at hb
  · cases h; cases hb; exact ⟨none, 0, 0, rfl, rfl⟩
  · cases hb
    cases h with
    | lst _ _ _ ad c val hc hr ha hs hcell hrep hg =>
      have hg : ad ≠ none := hg
      cases ad with
      | none => exact absurd rfl hg
      | some ad => exact ⟨_, _, _, rfl, rfl⟩
  · cases hb
    cases h with
    | lst _ _ _ ad c val hc hr ha hs hcell hrep hg =>
      cases ad with
      | none => have := ha rfl; simp at hc; omega
      | some ad => exact ⟨_, _, _, rfl, rfl⟩
  · cases hb
theorem slice_nil_run {t e : TypeId} (hu : P.underlying t = some (.slice e)) {ad : Option Addr} {n c : Nat} (N : Nat) : (Op.equalIn (N + 1) t (.slice ad n c) (.slice none 0 0)).run P w = .ok ad.isNone w := by
  unfold Op.equalIn
  simp only [Sem.run_bind, run_underlying' hu, Result.andThen_ok]
  cases ad <;> rfl
theorem nil_run {op : BinOp} {t : TypeId} {ox : Operand} {ad : Option Addr} {n c : Nat} {a : AV} {r : Bool} (ht : (tElem P t).isSome = true) (hop : op = .eql ∨ op = .neq) :
    (do eqGuard op t ox (.const (.slice none 0 0)) (.slice ad n c) (.slice none 0 0); binOp op t (.slice ad n c) (.slice none 0 0) : Sem Value).run P w = .ok (.bool (if op = .eql then ad.isNone else !ad.isNone)) w := by
  cases he : tElem P t with
  | none => simp [he] at ht
  | some e =>
    have hu := elem_under he
    have heq : (Op.equal t (.slice ad n c) (.slice none 0 0)).run P w = .ok ad.isNone w := slice_nil_run hu _
    have hg : (eqGuard op t ox (.const (.slice none 0 0)) (.slice ad n c) (.slice none 0 0)).run P w = .ok () w := guard_plain (fun cs h => by cases h) (fun h => by cases h)
    rw [Sem.run_bind, hg, Result.andThen_ok]
    rcases hop with rfl | rfl
    · show (do pure (Value.bool (← Op.equal t (.slice ad n c) (.slice none 0 0))) : Sem Value).run P w = _
      rw [Sem.run_bind, heq]
      rfl
    · show (do pure (Value.bool (!(← Op.equal t (.slice ad n c) (.slice none 0 0)))) : Sem Value).run P w = _
      rw [Sem.run_bind, heq]
      rfl
theorem binN_sound {op : BinOp} {t : TypeId} {x y r : AV} {ox oy : Operand} {a : Act} (hx : Rep φ m w x (a.eval ox)) (hy : Rep φ m w y (a.eval oy)) (h : evBinN P op t x oy y = some r) :
    ∃ z, (do eqGuard op t ox oy (a.eval ox) (a.eval oy); binOp op t (a.eval ox) (a.eval oy) : Sem Value).run P w = .ok z w ∧ Rep φ m w r z := by
  unfold evBinN at h
  split at h
  · rename_i b hb
    cases h
    unfold nilCmp at hb
    split at hb
    · have e : a.eval (.const (.slice none 0 0)) = .slice none 0 0 := rfl
      rw [e]
      split at hb
      · rename_i e0 he
        obtain ⟨ad, n, c, hv, rfl⟩ := isNil_sound hx hb
        rw [hv]
        exact ⟨_, nil_run (a := x) (r := true) (by simp [he]) (.inl rfl), by simpa using .v _⟩
      · rename_i e0 he
        simp only [Option.map_eq_some_iff] at hb
        obtain ⟨b', hb', rfl⟩ := hb
        obtain ⟨ad, n, c, hv, rfl⟩ := isNil_sound hx hb'
        rw [hv]
        exact ⟨_, nil_run (a := x) (r := true) (by simp [he]) (.inr rfl), by simpa using .v _⟩
      · cases hb
    · cases hb
  · exact bin_sound hx hy h
theorem op_wp {call : CallF} (hC : CallOk P call) (hR : RM φ m w) {e : Env} {a : Act} (hE : EnvRep φ m w e a.tmps) {o : Oper} {av : AV} {m' : Mem} (h : evOp P call e m o = some (av, m'))
    {K : Act → World → Prop} {Q : Exit → Act → World → Prop}
    (hK : ∀ x w' φ', RM φ' m' w' → Ext φ m w φ' m' w' → Rep φ' m' w' av x → K (a.put o.dst x) w') : o.wp P a w K Q := by
  -- a value, the world as it was
  have still : ∀ {x : Value} {b : AV}, (execOp a.eval o).run P w = .ok (.value x) w → Rep φ m w b x → b = av → m = m' → o.wp P a w K Q := by
    intro x b hr hx e1 e2
    subst e1 e2
    unfold Oper.wp
    rw [hr, Oper.upon_value]
    exact hK x w φ hR (Ext.refl ..) hx
  have moved : ∀ {x : Value} {w' : World} {φ' : Phi}, (execOp a.eval o).run P w = .ok (.value x) w' → RM φ' m' w' → Ext φ m w φ' m' w' → Rep φ' m' w' av x → o.wp P a w K Q := by
    intro x w' φ' hr g1 g2 g3
    unfold Oper.wp
    rw [hr, Oper.upon_value]
    exact hK x w' φ' g1 g2 g3
  have rep : ∀ t x, Rep φ m w (opd P e t x) (a.eval x) := fun t x => rep_opd hE t x
  have ex : execOp a.eval o = execOp a.eval o := rfl
  conv at ex => rhs; unfold execOp
  unfold evOp at h
  dsimp only at h
  split at h <;> rename_i hop <;> (try (rw [hop] at ex; simp only [] at ex))
  · rename_i x
    simp only [Option.some.injEq, Prod.mk.injEq] at h
    exact still (by rw [ex]; rfl) (rep o.type x) h.1 h.2
  · rename_i x
    simp only [Option.some.injEq, Prod.mk.injEq] at h
    exact still (by rw [ex]; rfl) (rep o.type x) h.1 h.2
  · rename_i c x y
    split at h
    · rename_i t ht
      have hc := rep o.type c
      rw [ht] at hc
      generalize hcv : a.eval c = cv at hc
      cases hc
      simp only [Option.some.injEq, Prod.mk.injEq] at h
      refine still (x := if t then a.eval x else a.eval y) (b := if t then opd P e o.type x else opd P e o.type y) (by rw [ex, hcv]; simp [asBool, Sem.run_bind]) ?_ h.1 h.2
      cases t
      · exact rep o.type y
      · exact rep o.type x
    · cases h
  · rename_i t
    split at h
    · rename_i z hz
      split at h
      · rename_i hok
        simp only [Option.map_eq_some_iff, Prod.mk.injEq] at h
        obtain ⟨m2, hm2, rfl, rfl⟩ := h
        obtain ⟨w', φ', h1, h2, h3, h4⟩ := alloc_sound (P := P) hR hz hok hm2
        exact moved (by rw [ex]; exact fin_value h1) h2 h3 h4
      · cases h
    · cases h
  · rename_i t x
    split at h
    · rename_i cs hcs
      simp only [Option.map_eq_some_iff, Prod.mk.injEq] at h
      obtain ⟨m2, hm2, rfl, rfl⟩ := h
      obtain ⟨w', φ', h1, h2, h3, h4⟩ := box_sound (P := P) (t := t) hR (rep t x) hcs hm2
      exact moved (by rw [ex]; exact fin_value h1) h2 h3 h4
    · cases h
  · rename_i t ps
    simp only [Option.map_eq_some_iff, Prod.mk.injEq] at h
    obtain ⟨r, hr, rfl, rfl⟩ := h
    obtain ⟨y, h1, h2⟩ := build_sound (P := P) hR (parts_zip hE t ps) hr
    exact still (by rw [ex]; exact fin_value h1) h2 rfl rfl
  · rename_i t n ps
    simp only [Option.map_eq_some_iff, Prod.mk.injEq] at h
    obtain ⟨r, hr, rfl, rfl⟩ := h
    obtain ⟨y, w', φ', h1, h2, h3, h4⟩ := buildSlice_sound (P := P) hR (parts_zip hE t ps) hr
    exact moved (by rw [ex]; exact fin_value h1) h2 h3 h4
  · rename_i t x
    simp only [Option.map_eq_some_iff, Prod.mk.injEq] at h
    obtain ⟨r, hr, rfl, rfl⟩ := h
    obtain ⟨y, h1, h2⟩ := load_sound (P := P) hR (rep t x) hr
    exact still (by rw [ex]; exact fin_value h1) h2 rfl rfl
  · rename_i t x y
    simp only [Option.map_eq_some_iff, Prod.mk.injEq] at h
    obtain ⟨m2, hm2, rfl, rfl⟩ := h
    obtain ⟨w', h1, h2, h3⟩ := store_sound (P := P) hR (rep t x) (rep t y) hm2
    unfold Oper.wp
    rw [ex, fin_skip h1, Oper.upon_skip]
    exact hK undef w' φ h2 h3 (.v _)
  · rename_i x
    split at h
    · rename_i r off hx
      simp only [Option.some.injEq, Prod.mk.injEq] at h
      have hr := rep o.type x
      rw [hx] at hr
      generalize hxv : a.eval x = xv at hr
      cases hr with
      | ptr _ _ cs hv => exact still (by rw [ex, hxv]; rfl) (.ptr r off cs hv) h.1 h.2
    · rename_i cs hx
      simp only [Option.some.injEq, Prod.mk.injEq] at h
      have hr := rep o.type x
      rw [hx] at hr
      generalize hxv : a.eval x = xv at hr
      cases hr with
      | eptr _ ad val h1 h2 h3 => exact still (by rw [ex, hxv]; rfl) (.eptr cs ad val h1 h2 h3) h.1 h.2
    · rename_i f first caps hx
      simp only [Option.some.injEq, Prod.mk.injEq] at h
      have hr := rep o.type x
      rw [hx] at hr
      generalize hxv : a.eval x = xv at hr
      cases hr with
      | fn _ _ _ fv cv h1 h2 r1 r2 => exact still (by rw [ex, hxv]; rfl) (.fn (.func f) first caps fv cv h1 h2 r1 r2) h.1 h.2
    · cases h
  · rename_i op t x y b
    simp only [Option.map_eq_some_iff, Prod.mk.injEq] at h
    obtain ⟨r, hr, rfl, rfl⟩ := h
    obtain ⟨z, h1, h2⟩ := binN_sound (P := P) (rep t x) (rep t y) hr
    exact still (by rw [ex]; exact fin_value h1) h2 rfl rfl
  · rename_i op t x
    simp only [Option.map_eq_some_iff, Prod.mk.injEq] at h
    obtain ⟨r, hr, rfl, rfl⟩ := h
    obtain ⟨z, h1, h2⟩ := un_sound (P := P) (rep t x) hr
    exact still (by rw [ex]; exact fin_value h1) h2 rfl rfl
  · rename_i src dst x
    simp only [Option.map_eq_some_iff, Prod.mk.injEq] at h
    obtain ⟨r, hr, rfl, rfl⟩ := h
    obtain ⟨z, h1, h2⟩ := convert_sound (P := P) hR (rep src x) hr
    exact still (by rw [ex]; exact fin_value h1) h2 rfl rfl
  · rename_i f first caps
    simp only [Option.some.injEq, Prod.mk.injEq] at h
    have h1 := reps_mapA (ops := first) (rep o.type)
    have h2 := reps_mapA (ops := caps) (rep o.type)
    exact still (by rw [ex]; exact fin_value rfl) (.fn f _ _ _ _ h1.1 h2.1 h1.2 h2.2) h.1 h.2
  · rename_i t n c
    split at h
    · rename_i cs sz k hk
      simp only [Option.map_eq_some_iff, Prod.mk.injEq] at h
      obtain ⟨m2, hm2, rfl, rfl⟩ := h
      obtain ⟨v, w', φ', h1, h2, h3, h4⟩ := makeSlice_sound (P := P) hR (rep o.type n) (rep o.type c) hk hm2
      exact moved (by rw [ex]; exact fin_value h1) h2 h3 h4
    · cases h
  · rename_i t x lo hi mx
    simp only [Option.map_eq_some_iff, Prod.mk.injEq] at h
    obtain ⟨r, hr, rfl, rfl⟩ := h
    obtain ⟨z, h1, h2⟩ := slice_sound (P := P) hR (rep t x) (opt_map hE o.type lo) (opt_map hE o.type hi) (opt_map hE o.type mx) hr
    exact still (by rw [ex]; exact fin_value h1) h2 rfl rfl
  · rename_i t x i
    simp only [Option.map_eq_some_iff, Prod.mk.injEq] at h
    obtain ⟨r, hr, rfl, rfl⟩ := h
    obtain ⟨z, h1, h2⟩ := fieldAddr_sound (P := P) (rep t x) hr
    exact still (by rw [ex]; exact fin_value h1) h2 rfl rfl
  · rename_i t x i
    simp only [Option.map_eq_some_iff, Prod.mk.injEq] at h
    obtain ⟨r, hr, rfl, rfl⟩ := h
    obtain ⟨z, h1, h2⟩ := field_sound (P := P) (rep t x) hr
    exact still (by rw [ex]; exact fin_value h1) h2 rfl rfl
  · rename_i t x i
    simp only [Option.map_eq_some_iff, Prod.mk.injEq] at h
    obtain ⟨r, hr, rfl, rfl⟩ := h
    obtain ⟨z, h1, h2⟩ := indexAddr_sound (P := P) (rep t x) (rep o.type i) hr
    exact still (by rw [ex]; exact fin_value h1) h2 rfl rfl
  · rename_i t x i
    simp only [Option.map_eq_some_iff, Prod.mk.injEq] at h
    obtain ⟨r, hr, rfl, rfl⟩ := h
    obtain ⟨z, h1, h2⟩ := index_sound (P := P) (rep t x) (rep o.type i) hr
    exact still (by rw [ex]; exact fin_value h1) h2 rfl rfl
  · rename_i x i
    split at h
    · rename_i cs hx
      simp only [Option.map_eq_some_iff, Prod.mk.injEq] at h
      obtain ⟨r, hr, rfl, rfl⟩ := h
      have hr' := rep o.type x
      rw [hx] at hr'
      generalize hxv : a.eval x = xv at hr'
      cases hr' with
      | tup _ arr hn hh =>
        have hlt : i < arr.size := by have := (List.getElem?_eq_some_iff.mp hr).1; omega
        exact still (x := arr[i]) (by rw [ex, hxv]; exact fin_value (by simp [Instr.extract, hlt])) (hh i _ _ hr (Array.getElem?_eq_getElem hlt)) rfl rfl
    · cases h
  · rename_i c
    split at h
    · rename_i hsz
      have hx := reps_zip (P := P) hE (ts := c.argTypes.toList) (xs := c.args) (by simpa using hsz)
      split at h
      · rename_i b hb
        obtain ⟨x, w', φ', h1, h2, h3, h4⟩ := builtin_sound (P := P) hR o.type (c.args.map fun | .const _ => true | _ => false) hx h
        refine moved (by rw [ex]; simp only [resolve, hb, Sem.run_bind, Sem.run_pure, Result.andThen_ok, invoke]; exact h1) h2 h3 h4
      · rename_i f hf
        exact call_wp hC hR hop hf (rep o.type f) hx h hK
      · cases h
    · cases h
  · cases h
end
end Go.Proofs.YtojaokhkbmiidaaGreat.Ev

namespace Go.Proofs.YtojaokhkbmiidaaGreat.Ev
open Go
set_option linter.unusedVariables false
set_option linter.unusedSimpArgs false
section
variable {P : Program} {φ : Phi} {m : Mem} {w : World}

/-- A state of a function's run: what the environment and the memory stand for, behind the state at the begin. -/
def St (φ₀ : Phi) (m₀ : Mem) (w₀ : World) (nt : Nat) (e : Env) (m : Mem) (a : Act) (w : World) : Prop :=
  ∃ φ, RM φ m w ∧ Ext φ₀ m₀ w₀ φ m w ∧ EnvRep φ m w e a.tmps ∧ nt ≤ a.tmps.size ∧ a.defers = []

theorem put_defers (a : Act) (dst : Option Tmp) (x : Value) : (a.put dst x).defers = a.defers := by cases dst <;> rfl
theorem St.put {φ₀ m₀ w₀ nt e m} {a : Act} {w : World} {φ : Phi} {m' : Mem} {w' : World} {φ' : Phi} (hE : EnvRep φ m w e a.tmps) (hX : Ext φ₀ m₀ w₀ φ m w) (hn : nt ≤ a.tmps.size) (hd : a.defers = [])
    (hR' : RM φ' m' w') (hx : Ext φ m w φ' m' w') {av : AV} {x : Value} (hv : Rep φ' m' w' av x) {dst : Option Tmp} {e' : Env} (hp : putAV nt dst av e = some e') :
    St φ₀ m₀ w₀ nt e' m' (a.put dst x) w' :=
  ⟨φ', hR', hX.trans hx, (hE.mono hx).put hp hn hv a.defers, by rw [put_size]; exact hn, by rw [put_defers]; exact hd⟩
theorem wanted_sound {ops : Array Oper} {e : Env} {o : Oper} {b : Bool} {tmps : Array Value} (hE : EnvRep φ m w e tmps) (h : wantedAV ops e o = some b) :
    Region.wanted o (yielded ops tmps) = b := by
  unfold wantedAV at h
  unfold Region.wanted
  split at h
  · rename_i hg
    simp only [Option.some.injEq] at h
    rw [hg]
    exact h
  · rename_i j want hg
    rw [hg]
    simp only []
    split at h
    · rename_i hj
      simp only [Option.some.injEq] at h
      simp [yielded, hj, ← h]
    · rename_i d hj
      have hr := hE d
      split at h
      · rename_i q hq
        simp only [Option.some.injEq] at h
        rw [hq] at hr
        generalize hu : tmps.getD d undef = u at hr
        cases hr
        have hd : d < tmps.size := by
          refine Nat.lt_of_not_le fun hle => ?_
          rw [Array.getD_eq_getD_getElem?, Array.getElem?_eq_none hle] at hu
          cases hu
        have : tmps[d]? = some (.bool q) := by
          rw [Array.getD_eq_getD_getElem?, Array.getElem?_eq_getElem hd] at hu
          rw [Array.getElem?_eq_getElem hd]
          exact congrArg some hu
        simp [yielded, hj, this, ← h]
      · rename_i q hq
        simp only [Option.some.injEq] at h
        rw [hq] at hr
        generalize hu : tmps.getD d undef = u at hr
        cases hr
        have : yielded ops tmps j = none := by
          unfold yielded
          rw [hj, Option.bind_some]
          cases hd : tmps[d]? with
          | none => rfl
          | some y =>
            rw [Array.getD_eq_getD_getElem?, hd] at hu
            cases hu
            rfl
        rw [this, ← h]
        rfl
      · cases h

theorem keeps_some {P : Program} {pu : Bool} {o : Oper} {m : Mem} {x : Option (AV × Mem)} {r : AV × Mem} (h : keeps P pu o m x = some r) :
    x = some r ∧ ((pu && clsOf P o == .ca) = true → r.2 = m) := by
  unfold keeps at h
  split at h
  · rename_i a m'
    split at h
    · rename_i hk
      simp only [Option.some.injEq] at h
      subst h
      exact ⟨rfl, hk⟩
    · cases h
  · cases h

theorem ops_sound {call : CallF} (hC : CallOk P call) {φ₀ : Phi} {m₀ : Mem} {w₀ : World} {nt : Nat} {ops : Array Oper} {pu : Bool} {Q : Exit → Act → World → Prop} :
    ∀ (l : List Oper) (e : Env) (m : Mem) (e' : Env) (m' : Mem), evOps P call nt ops pu l e m = some (e', m') → (∀ a w, St φ₀ m₀ w₀ nt e' m' a w → Q .normal a w) →
      ∀ a w, St φ₀ m₀ w₀ nt e m a w → wpList P ops Q l a w
  | [], e, m, e', m', h, hQ, a, w, hs => by
    simp only [evOps, Option.some.injEq, Prod.mk.injEq] at h
    obtain ⟨rfl, rfl⟩ := h
    exact hQ a w hs
  | o :: rest, e, m, e', m', h, hQ, a, w, hs => by
    obtain ⟨φ, hR, hX, hE, hn, hd⟩ := hs
    unfold evOps at h
    unfold wpList
    split at h
    · cases h
    · rename_i hw
      rw [wanted_sound hE hw, if_pos rfl]
      left
      split at h
      · rename_i av m1 hk
        split at h
        · rename_i e1 hp
          refine op_wp hC hR hE (keeps_some hk).1 fun x w' φ' g1 g2 g3 => ?_
          exact ops_sound hC rest e1 m1 e' m' h hQ _ _ (St.put hE hX hn hd g1 g2 g3 hp)
        · cases h
      · cases h
    · rename_i hw
      rw [wanted_sound hE hw, if_neg (by simp)]
      split at h
      · rename_i e1 hp
        exact ops_sound hC rest e1 m e' m' h hQ _ _ (St.put hE hX hn hd hR (Ext.refl ..) (.v _) hp)
      · cases h
end
end Go.Proofs.YtojaokhkbmiidaaGreat.Ev

namespace Go.Proofs.YtojaokhkbmiidaaGreat.Ev
open Go
set_option linter.unusedVariables false
set_option linter.unusedSimpArgs false

/-! ### what an operation looks at -/
theorem evOp_congr {P : Program} {call : CallF} {e e' : Env} {m : Mem} {o : Oper} (h : ∀ x, x ∈ o.op.operands.toList → ∀ t, opd P e t x = opd P e' t x) :
    evOp P call e m o = evOp P call e' m o := by
  cases ho : o.op <;> simp only [ho, Op.operands] at h <;> simp only [evOp, ho]
  case move x => rw [h x (by simp)]
  case assign x => rw [h x (by simp)]
  case pick c a b => rw [h c (by simp), h a (by simp), h b (by simp)]
  case box t x => rw [h x (by simp)]
  case build t ps =>
    have : (ps.toList.map fun (i, x) => (i, opd P e (fieldTy P t i) x)) = ps.toList.map fun (i, x) => (i, opd P e' (fieldTy P t i) x) :=
      List.map_congr_left fun p hp => by show (p.1, opd P e _ p.2) = (p.1, opd P e' _ p.2); rw [h p.2 (by simp; exact ⟨p.1, by simpa using hp⟩)]
    rw [this]
  case buildSlice t n ps =>
    have : (ps.toList.map fun (i, x) => (i, opd P e (fieldTy P t i) x)) = ps.toList.map fun (i, x) => (i, opd P e' (fieldTy P t i) x) :=
      List.map_congr_left fun p hp => by show (p.1, opd P e _ p.2) = (p.1, opd P e' _ p.2); rw [h p.2 (by simp; exact ⟨p.1, by simpa using hp⟩)]
    rw [this]
  case load t x => rw [h x (by simp)]
  case store t x y => rw [h x (by simp), h y (by simp)]
  case nilCheck x => rw [h x (by simp)]
  case binOp op t x y b => rw [h x (by simp), h y (by simp)]
  case unOp op t x => rw [h x (by simp)]
  case convert s d x => rw [h x (by simp)]
  case makeFunc f a b =>
    have h1 : a.toList.map (opd P e o.type) = a.toList.map (opd P e' o.type) := List.map_congr_left fun x hx => h x (by simp at hx ⊢; exact .inl hx) _
    have h2 : b.toList.map (opd P e o.type) = b.toList.map (opd P e' o.type) := List.map_congr_left fun x hx => h x (by simp at hx ⊢; exact .inr hx) _
    rw [h1, h2]
  case makeSlice t x y => rw [h x (by simp), h y (by simp)]
  case slice t x lo hi mx =>
    have h1 : lo.map (opd P e o.type) = lo.map (opd P e' o.type) := by cases lo <;> simp; exact h _ (by simp) _
    have h2 : hi.map (opd P e o.type) = hi.map (opd P e' o.type) := by cases hi <;> simp; exact h _ (by simp) _
    have h3 : mx.map (opd P e o.type) = mx.map (opd P e' o.type) := by cases mx <;> simp; exact h _ (by simp) _
    rw [h x (by simp), h1, h2, h3]
  case fieldAddr t x i => rw [h x (by simp)]
  case field t x i => rw [h x (by simp)]
  case indexAddr t x i => rw [h x (by simp), h i (by simp)]
  case index t x i => rw [h x (by simp), h i (by simp)]
  case extract x i => rw [h x (by simp)]
  case call c =>
    have hz : List.zipWith (opd P e) c.argTypes.toList c.args.toList = List.zipWith (opd P e') c.argTypes.toList c.args.toList := by
      apply List.ext_getElem?
      intro i
      simp only [List.getElem?_zipWith]
      cases h1 : c.argTypes.toList[i]? with
      | none => rfl
      | some t =>
        cases h2 : c.args.toList[i]? with
        | none => rfl
        | some x =>
          have hx : x ∈ c.args.toList := List.mem_of_getElem? h2
          simp only []
          rw [h x (by simp only [Call.operands]; cases c.callee <;> simp at hx ⊢ <;> first | exact hx | exact .inr hx)]
    split
    · cases hc : c.callee with
      | builtin b => simp only [hz]
      | value f => simp only [hz]; rw [h f (by simp [Call.operands, hc])]
      | invoke r n => rfl
    · rfl

/-- What reads no memory and is no call: the memory is all one to it. -/
theorem evOp_n {P : Program} {call : CallF} {e : Env} {m m' : Mem} {o : Oper} {a : AV} (h : evOp P call e m o = some (a, m')) (hn : clsOf P o = .n) :
    m' = m ∧ ∀ m2, evOp P call e m2 o = some (a, m2) := by
  have pure' : ∀ {x : Option AV} {y : AV × Mem}, x.map (·, m) = some y → y.2 = m ∧ ∀ m2 : Mem, x.map (·, m2) = some (y.1, m2) := by
    intro x y hy
    cases x with
    | none => simp at hy
    | some x => simp only [Option.map_some, Option.some.injEq] at hy; subst hy; exact ⟨rfl, fun m2 => rfl⟩
  have some' : ∀ {x : AV} {y : AV × Mem}, some (x, m) = some y → y.2 = m ∧ ∀ m2 : Mem, some (x, m2) = some (y.1, m2) := by
    intro x y hy
    simp only [Option.some.injEq] at hy; subst hy; exact ⟨rfl, fun m2 => rfl⟩
  unfold clsOf at hn
  unfold evOp at h ⊢
  dsimp only at h ⊢
  split at h <;> rename_i hop <;> (try (rw [hop] at hn; simp only [reduceCtorEq] at hn))
  case h_1 => simpa only [hop] using some' h
  case h_2 => simpa only [hop] using some' h
  case h_3 c x y =>
    split at h
    · rename_i t ht
      simpa only [hop, ht] using some' h
    · cases h
  case h_6 => simpa only [hop] using pure' h
  case h_7 => simpa only [hop] using pure' h
  case h_10 x =>
    split at h
    · rename_i hx; simpa only [hop, hx] using some' h
    · rename_i hx; simpa only [hop, hx] using some' h
    · rename_i hx; simpa only [hop, hx] using some' h
    · cases h
  case h_11 => simpa only [hop] using pure' h
  case h_12 => simpa only [hop] using pure' h
  case h_14 => simpa only [hop] using some' h
  case h_16 t x lo hi mx =>
    split at hn
    · cases hn
    · rename_i ht
      have e2 : ∀ m2, evSlice P m2 t (opd P e t x) (lo.map (opd P e o.type)) (hi.map (opd P e o.type)) (mx.map (opd P e o.type)) =
          evSlice P m t (opd P e t x) (lo.map (opd P e o.type)) (hi.map (opd P e o.type)) (mx.map (opd P e o.type)) := by
        intro m2
        unfold evSlice
        cases hta : tArr P t with
        | some q => simp [hta] at ht
        | none => split <;> simp
      have := pure' h
      simp only [hop, e2]
      exact this
  case h_17 => simpa only [hop] using pure' h
  case h_18 => simpa only [hop] using pure' h
  case h_19 => simpa only [hop] using pure' h
  case h_20 => simpa only [hop] using pure' h
  case h_21 x i =>
    split at h
    · rename_i hx; simpa only [hop, hx] using pure' h
    · cases h
  case h_22 c =>
    split at h
    · rename_i hsz
      simp only [hop, hsz, if_true]
      split at h
      · rename_i b hb
        unfold evBuiltin at h ⊢
        split at h
        · rename_i he; simpa only [he] using pure' h
        · exact pure' h
        · exact pure' h
        · rw [hb] at hn; simp only [reduceCtorEq] at hn
        · cases h
      · rename_i f hf; rw [hf] at hn; simp only [reduceCtorEq] at hn
      · cases h
    · cases h
  case h_23 => cases h
/-- What reads: the memory stays. -/
theorem evOp_rd {P : Program} {call : CallF} {e : Env} {m m' : Mem} {o : Oper} {a : AV} (h : evOp P call e m o = some (a, m')) (hn : clsOf P o = .rd) : m' = m := by
  have pure' : ∀ {x : Option AV} {y : AV × Mem}, x.map (·, m) = some y → y.2 = m := by
    intro x y hy
    cases x with
    | none => simp at hy
    | some x => simp only [Option.map_some, Option.some.injEq] at hy; subst hy; rfl
  unfold clsOf at hn
  unfold evOp at h
  dsimp only at h
  split at h <;> rename_i hop <;> (try (rw [hop] at hn; simp only [reduceCtorEq] at hn)) <;> first | exact pure' h | skip
  case h_22 c =>
    cases hc : c.callee with
    | builtin b => rw [hc] at hn; cases b <;> cases hn
    | value f => rw [hc] at hn; cases hn
    | invoke r n => rw [hc] at hn; cases hn
  case h_23 => cases h

/-! ### the trace -/
def OpStep (P : Program) (call : CallF) (nt : Nat) (ops : Array Oper) (pu : Bool) (o : Oper) (e : Env) (m : Mem) (a : AV) (e' : Env) (m' : Mem) : Prop :=
  putAV nt o.dst a e = some e' ∧
    ((wantedAV ops e o = some true ∧ keeps P pu o m (evOp P call e m o) = some (a, m')) ∨ (wantedAV ops e o = some false ∧ a = .v (.tuple #[]) ∧ m' = m))
theorem evOps_trace {P : Program} {call : CallF} {nt : Nat} {ops : Array Oper} {pu : Bool} : ∀ (l : List Oper) (e : Env) (m : Mem) (e' : Env) (m' : Mem), evOps P call nt ops pu l e m = some (e', m') →
    ∃ (E : Nat → Env) (M : Nat → Mem) (A : Nat → AV), E 0 = e ∧ M 0 = m ∧ E l.length = e' ∧ M l.length = m' ∧ ∀ (k : Nat) o, l[k]? = some o → OpStep P call nt ops pu o (E k) (M k) (A k) (E (k + 1)) (M (k + 1))
  | [], e, m, e', m', h => by
    simp only [evOps, Option.some.injEq, Prod.mk.injEq] at h
    exact ⟨fun _ => e, fun _ => m, fun _ => .junk, rfl, rfl, h.1, h.2, fun k o hk => by simp at hk⟩
  | o :: rest, e, m, e', m', h => by
    have cons : ∀ a e1 m1, OpStep P call nt ops pu o e m a e1 m1 → evOps P call nt ops pu rest e1 m1 = some (e', m') →
        ∃ (E : Nat → Env) (M : Nat → Mem) (A : Nat → AV), E 0 = e ∧ M 0 = m ∧ E (o :: rest).length = e' ∧ M (o :: rest).length = m' ∧ ∀ (k : Nat) o', (o :: rest)[k]? = some o' → OpStep P call nt ops pu o' (E k) (M k) (A k) (E (k + 1)) (M (k + 1)) := by
      intro a e1 m1 hs h1
      obtain ⟨E, M, A, hE, hM, hE', hM', hk⟩ := evOps_trace rest e1 m1 e' m' h1
      refine ⟨fun | 0 => e | k + 1 => E k, fun | 0 => m | k + 1 => M k, fun | 0 => a | k + 1 => A k, rfl, rfl, hE', hM', fun k o' ho => ?_⟩
      cases k with
      | zero =>
        simp only [List.getElem?_cons_zero, Option.some.injEq] at ho
        subst ho
        show OpStep P call nt ops pu o e m a (E 0) (M 0)
        rw [hE, hM]
        exact hs
      | succ k => exact hk k o' (by simpa using ho)
    unfold evOps at h
    split at h
    · cases h
    · rename_i hw
      split at h
      · rename_i av m1 hk
        split at h
        · rename_i e1 hp
          exact cons av e1 m1 ⟨hp, .inl ⟨hw, hk⟩⟩ h
        · cases h
      · cases h
    · rename_i hw
      split at h
      · rename_i e1 hp
        exact cons _ e1 m ⟨hp, .inr ⟨hw, rfl, rfl⟩⟩ h
      · cases h

/-! ### who comes ahead of whom -/
theorem fold_bit (acc : List Nat) : ∀ (es : List Edge) (s i : Nat),
    (es.foldl (fun s e => if Region.binds .any e = true then s ||| (2 ^ e.on ||| acc.getD e.on 0) else s) s).testBit i = true →
    s.testBit i = true ∨ ∃ e ∈ es, Region.binds .any e = true ∧ (e.on = i ∨ (acc.getD e.on 0).testBit i = true)
  | [], s, i, h => .inl h
  | e :: es, s, i, h => by
    rw [List.foldl_cons] at h
    rcases fold_bit acc es _ i h with h1 | ⟨e', he, hb, hh⟩
    · split at h1
      · rename_i hb
        rw [Nat.testBit_or, Nat.testBit_or, Bool.or_eq_true, Bool.or_eq_true, Nat.testBit_two_pow, decide_eq_true_eq] at h1
        rcases h1 with h1 | h1
        · exact .inl h1
        · exact .inr ⟨e, List.mem_cons_self .., hb, h1⟩
      · exact .inl h1
    · exact .inr ⟨e', List.mem_cons_of_mem _ he, hb, hh⟩
theorem masks_app : ∀ (l : List Oper) (acc : List Nat), ∃ r, masks l acc = acc ++ r
  | [], acc => ⟨[], by simp [masks]⟩
  | o :: l, acc => by
    obtain ⟨r, hr⟩ := masks_app l (acc ++ [maskOf o acc])
    exact ⟨maskOf o acc :: r, by rw [masks, hr]; simp⟩
theorem masks_at : ∀ (l : List Oper) (acc : List Nat) (j : Nat) (o : Oper), l[j]? = some o →
    ∃ pre, pre.length = acc.length + j ∧ (∃ r, masks l acc = pre ++ r) ∧ (masks l acc).getD (acc.length + j) 0 = maskOf o pre
  | [], _, j, o, h => by simp at h
  | o' :: l, acc, 0, o, h => by
    simp only [List.getElem?_cons_zero, Option.some.injEq] at h
    subst h
    obtain ⟨r, hr⟩ := masks_app l (acc ++ [maskOf o' acc])
    refine ⟨acc, rfl, ⟨maskOf o' acc :: r, by rw [masks, hr]; simp⟩, ?_⟩
    rw [masks, hr]
    simp [List.getD_eq_getElem?_getD]
  | o' :: l, acc, j + 1, o, h => by
    obtain ⟨pre, h1, h2, h3⟩ := masks_at l (acc ++ [maskOf o' acc]) j o (by simpa using h)
    refine ⟨pre, by simp at h1; omega, by rw [masks]; exact h2, ?_⟩
    rw [masks, ← h3]
    congr 1
    simp; omega
/-- If all that binds is listed ahead, then so is all that the row of bits holds. -/
theorem mask_listed {l : List Oper} {S : Nat → Prop} (hb : ∀ (j : Nat) o, l[j]? = some o → ∀ e ∈ o.after.toList, Region.binds .any e = true → e.on < j)
    (hc : ∀ (j : Nat) o, l[j]? = some o → S j → ∀ e ∈ o.after.toList, Region.binds .any e = true → S e.on) :
    ∀ (j : Nat) o, l[j]? = some o → (∀ e ∈ o.after.toList, Region.binds .any e = true → S e.on) → ∀ i, ((masks l []).getD j 0).testBit i = true → S i := by
  intro j
  induction j using Nat.strongRecOn with
  | _ j ih =>
    intro o ho hp i hi
    obtain ⟨pre, hl, ⟨r, hr⟩, he⟩ := masks_at l [] j o ho
    simp only [List.length_nil, Nat.zero_add] at hl he
    rw [he, maskOf] at hi
    rcases fold_bit pre _ 0 i hi with h0 | ⟨e, hm, hbi, h1⟩
    · simp at h0
    · have hlt := hb j o ho e hm hbi
      have hS := hp e hm hbi
      rcases h1 with rfl | h1
      · exact hS
      · have hjl : j < l.length := (List.getElem?_eq_some_iff.mp ho).1
        have hq : l[e.on]? = some l[e.on] := List.getElem?_eq_getElem (by omega)
        refine ih e.on hlt _ hq (hc e.on _ hq hS) i ?_
        rw [hr, List.getD_eq_getElem?_getD, List.getElem?_append_left (by omega), ← List.getD_eq_getElem?_getD]
        exact h1
end Go.Proofs.YtojaokhkbmiidaaGreat.Ev

namespace Go.Proofs.YtojaokhkbmiidaaGreat.Ev
open Go
set_option linter.unusedVariables false
set_option linter.unusedSimpArgs false

def chg (P : Program) (pu : Bool) (o : Oper) : Prop := clsOf P o = .wr ∨ (clsOf P o = .ca ∧ pu = false)
structure Drawn (P : Program) (l : List Oper) (pu : Bool) : Prop where
  edge : ∀ (j : Nat) o, l[j]? = some o → ∀ e ∈ o.after.toList, Region.binds .any e = true → e.on < j
  dst : ∀ (i j : Nat) oi oj, i < j → l[i]? = some oi → l[j]? = some oj → ∀ d, oi.dst = some d → oj.dst ≠ some d
  apart : ∀ (i j : Nat) oi oj, i < j → l[i]? = some oi → l[j]? = some oj → ((masks l []).getD j 0).testBit i = true ∨
    (oi.apart l.toArray oj = true ∧ (clsOf P oi = .n ∨ clsOf P oj = .n ∨ (¬ chg P pu oi ∧ ¬ chg P pu oj)))
theorem drawn_of {P : Program} {l : List Oper} (h : drawnOk P l = true) : Drawn P l (anyLoose P l) := by
  have gd : ∀ (j : Nat) o, l[j]? = some o → l.getD j default = o := fun j o ho => by rw [List.getD_eq_getElem?_getD, ho]; rfl
  have lt : ∀ (j : Nat) o, l[j]? = some o → j < l.length := fun j o ho => (List.getElem?_eq_some_iff.mp ho).1
  simp only [drawnOk, List.all_eq_true, List.mem_range, Bool.and_eq_true] at h
  refine ⟨fun j o ho e he hb => ?_, fun i j oi oj hij hi hj d hd => ?_, fun i j oi oj hij hi hj => ?_⟩
  · have h1 := (h j (lt j o ho)).1
    rw [gd j o ho, Array.all_eq_true'] at h1
    have h2 := h1 e (by simpa using he)
    simpa [hb] using h2
  · have h1 := ((h j (lt j oj hj)).2 i hij).1
    rw [gd j oj hj, gd i oi hi, hd] at h1
    intro e
    rw [e] at h1
    simp at h1
  · have h1 := ((h j (lt j oj hj)).2 i hij).2
    rw [gd j oj hj, gd i oi hi, Bool.or_eq_true] at h1
    rcases h1 with h1 | h1
    · exact .inl h1
    · by_cases hb : ((masks l []).getD j 0).testBit i = true
      · exact .inl hb
      · right
        simp only [looseOk, Bool.and_eq_true] at h1
        refine ⟨h1.1, ?_⟩
        cases hpu : anyLoose P l with
        | true =>
          have h2 := h1.2
          unfold chg
          cases c1 : clsOf P oi <;> cases c2 : clsOf P oj <;> simp_all
        | false =>
          simp only [anyLoose, List.any_eq_false, List.mem_range] at hpu
          have h3 := hpu j (lt j oj hj)
          rw [Bool.not_eq_true, List.any_eq_false] at h3
          have h3 := h3 i (by simpa using hij)
          rw [gd j oj hj, gd i oi hi] at h3
          have hb' : ((masks l []).getD j 0).testBit i = false := by simpa using hb
          by_cases c1 : clsOf P oi = .n
          · exact .inl c1
          · by_cases c2 : clsOf P oj = .n
            · exact .inr (.inl c2)
            · by_cases hca : clsOf P oi = .ca ∨ clsOf P oj = .ca
              · exact absurd (by rw [hb']; rcases hca with e | e <;> simp [c1, c2, e]) h3
              · have h2 := h1.2
                unfold chg
                cases d1 : clsOf P oi <;> cases d2 : clsOf P oj <;> simp_all

section
variable {P : Program} {call : CallF} {l : List Oper} {pu : Bool} {nt : Nat} {E : Nat → Env} {M : Nat → Mem} {A : Nat → AV}
variable (hD : Drawn P l pu) (hT : ∀ (k : Nat) o, l[k]? = some o → OpStep P call nt l.toArray pu o (E k) (M k) (A k) (E (k + 1)) (M (k + 1)))
include hT
theorem get_step {k : Nat} {o : Oper} (h : l[k]? = some o) (t : Nat) : get (E (k + 1)) t = if o.dst = some t then A k else get (E k) t := by
  have hp := (hT k o h).1
  unfold putAV at hp
  split at hp
  · rename_i hd
    simp only [Option.some.injEq] at hp
    rw [← hp, if_neg (by rw [hd]; simp)]
  · rename_i d hd
    split at hp
    · simp only [Option.some.injEq] at hp
      rw [← hp, hd]
      simp [Ev.get]
    · cases hp
theorem get_miss {t : Nat} : ∀ k, k ≤ l.length → (∀ (j : Nat) o, j < k → l[j]? = some o → o.dst ≠ some t) → get (E k) t = get (E 0) t
  | 0, _, _ => rfl
  | k + 1, hk, h => by
    have ho : l[k]? = some l[k] := List.getElem?_eq_getElem (by omega)
    rw [get_step hT ho, if_neg (h k _ (by omega) ho)]
    exact get_miss k (by omega) fun j o hj => h j o (by omega)
include hD
theorem get_hit {t j : Nat} {o : Oper} (hj : l[j]? = some o) (hd : o.dst = some t) : ∀ k, k ≤ l.length → j < k → get (E k) t = A j
  | 0, _, h => by omega
  | k + 1, hk, h => by
    have ho : l[k]? = some l[k] := List.getElem?_eq_getElem (by omega)
    by_cases e : j = k
    · subst e
      rw [hj] at ho
      rw [get_step hT hj, if_pos hd]
    · rw [get_step hT ho, if_neg (hD.dst j k o _ (by omega) hj ho t hd)]
      exact get_hit hj hd k (by omega) (by omega)
omit hD
theorem mem_step {j : Nat} {o : Oper} (ho : l[j]? = some o) (hc : ¬ chg P pu o) : M (j + 1) = M j := by
  obtain ⟨_, ⟨_, hk⟩ | ⟨_, _, h⟩⟩ := hT j o ho
  · obtain ⟨h1, h2⟩ := keeps_some hk
    cases c : clsOf P o with
    | n => exact (evOp_n h1 c).1
    | rd => exact evOp_rd h1 c
    | ca =>
      cases pu with
      | false => exact absurd (.inr ⟨c, rfl⟩) hc
      | true => exact h2 (by simp [c])
    | wr => exact absurd (.inl c) hc
  · exact h
theorem mem_const {a : Nat} : ∀ b, a ≤ b → b ≤ l.length → (∀ (j : Nat) o, a ≤ j → j < b → l[j]? = some o → ¬ chg P pu o) → M b = M a
  | 0, h, _, _ => by have : a = 0 := by omega
                     rw [this]
  | b + 1, h, hb, hc => by
    by_cases e : a = b + 1
    · rw [e]
    · have ho : l[b]? = some l[b] := List.getElem?_eq_getElem (by omega)
      rw [mem_step hT ho (hc b _ (by omega) (by omega) ho)]
      exact mem_const b (by omega) (by omega) fun j o h1 h2 => hc j o h1 (by omega)
end

def Slots (l : List Oper) (lst : Nat → Prop) (A : Nat → AV) (e : Env) (φ : Phi) (m : Mem) (w : World) (tmps : Array Value) : Prop :=
  ∀ t, (∀ (j : Nat) o, l[j]? = some o → o.dst = some t → lst j → Rep φ m w (A j) (tmps.getD t undef)) ∧
    ((∀ (j : Nat) o, l[j]? = some o → o.dst = some t → ¬ lst j) → Rep φ m w (get e t) (tmps.getD t undef))
structure Inv (P : Program) (l : List Oper) (pu : Bool) (nt : Nat) (M : Nat → Mem) (A : Nat → AV) (e : Env) (φ₀ : Phi) (m₀ : Mem) (w₀ : World) (lst : Nat → Prop) (k : Nat) (a : Act) (w : World) : Prop where
  st : ∃ φ, RM φ (M k) w ∧ Ext φ₀ m₀ w₀ φ (M k) w ∧ Slots l lst A e φ (M k) w a.tmps
  size : nt ≤ a.tmps.size
  defers : a.defers = []
  kle : k ≤ l.length
  closed : ∀ (j : Nat) o, l[j]? = some o → lst j → ∀ e ∈ o.after.toList, Region.binds .any e = true → lst e.on
  kk : ∀ (j : Nat) o, l[j]? = some o → chg P pu o → (lst j ↔ j < k)

theorem put_other {a : Act} {dst : Option Tmp} {x : Value} {t : Nat} (h : dst ≠ some t) : (a.put dst x).tmps.getD t undef = a.tmps.getD t undef := by
  cases dst with
  | none => rfl
  | some d =>
    have : d ≠ t := fun e => h (by rw [e])
    simp only [Act.put, Array.getD_eq_getD_getElem?, Array.getElem?_setIfInBounds_ne this]
theorem put_same {a : Act} {x : Value} {t nt : Nat} {av : AV} {e e' : Env} {dst : Option Tmp} (hd : dst = some t) (hp : putAV nt dst av e = some e') (hn : nt ≤ a.tmps.size) :
    (a.put dst x).tmps.getD t undef = x := by
  subst hd
  unfold putAV at hp
  simp only [] at hp
  split at hp
  · rename_i h
    have : t < a.tmps.size := Nat.lt_of_lt_of_le h hn
    simp [Act.put, Array.getD, this]
  · cases hp

section
variable {P : Program} {call : CallF} {l : List Oper} {pu : Bool} {nt : Nat} {E : Nat → Env} {M : Nat → Mem} {A : Nat → AV} {φ₀ : Phi} {m₀ : Mem} {w₀ : World}

theorem inv_step (hC : CallOk P call) (hD : Drawn P l pu) (hT : ∀ (k : Nat) o, l[k]? = some o → OpStep P call nt l.toArray pu o (E k) (M k) (A k) (E (k + 1)) (M (k + 1)))
    {lst : Nat → Prop} {k : Nat} {a : Act} {w : World} (hI : Inv P l pu nt M A (E 0) φ₀ m₀ w₀ lst k a w) {i : Nat} {o : Oper} (ho : l[i]? = some o) (hni : ¬ lst i)
    (hready : ∀ e ∈ o.after.toList, Region.binds .any e = true → lst e.on) {K : Act → World → Prop} {Q : Exit → Act → World → Prop}
    (hK : ∀ k' a' w', Inv P l pu nt M A (E 0) φ₀ m₀ w₀ (fun j => j = i ∨ lst j) k' a' w' → K a' w') : wpOp P l.toArray Q i K a w := by
  obtain ⟨⟨φ, hR, hX, hS⟩, hsize, hdef, hkle, hclosed, hkk⟩ := hI
  have hil : i < l.length := (List.getElem?_eq_some_iff.mp ho).1
  -- who looks at what
  have hlook : ∀ t, t ∈ o.looksAt l.toArray → Rep φ (M k) w (get (E i) t) (a.tmps.getD t undef) := by
    intro t ht
    by_cases hx : ∃ (j : Nat) (oj : Oper), j < i ∧ l[j]? = some oj ∧ oj.dst = some t
    · obtain ⟨j, oj, hji, hj, hd⟩ := hx
      rw [get_hit hD hT hj hd i (by omega) hji]
      refine (hS t).1 j oj hj hd ?_
      rcases hD.apart j i oj o hji hj ho with hb | ⟨hap, _⟩
      · exact mask_listed hD.edge hclosed i o ho hready j hb
      · exact absurd ht ((Oper.apart_spec hap).1 t hd)
    · rw [get_miss hT i (by omega) fun j oj hji hj hd => hx ⟨j, oj, hji, hj, hd⟩]
      refine (hS t).2 fun j oj hj hd hl => ?_
      rcases Nat.lt_trichotomy j i with hlt | heq | hgt
      · exact hx ⟨j, oj, hlt, hj, hd⟩
      · subst heq; exact hni hl
      · rcases hD.apart i j o oj hgt ho hj with hb | ⟨hap, _⟩
        · exact hni (mask_listed hD.edge hclosed j oj hj (hclosed j oj hj hl) i hb)
        · exact absurd ht ((Oper.apart_spec hap).2.2 t hd)
  -- the memory
  have ord : clsOf P o ≠ .n → ∀ (j : Nat) oj, l[j]? = some oj → chg P pu oj → (j < i → lst j) ∧ (i < j → ¬ lst j) := by
    intro hn j oj hj hc
    have hjn : clsOf P oj ≠ .n := by rintro e; rcases hc with h | h <;> simp [e] at h
    refine ⟨fun hlt => ?_, fun hgt hl => ?_⟩
    · rcases hD.apart j i oj o hlt hj ho with hb | ⟨_, h | h | h⟩
      · exact mask_listed hD.edge hclosed i o ho hready j hb
      · exact absurd h hjn
      · exact absurd h hn
      · exact absurd hc h.1
    · rcases hD.apart i j o oj hgt ho hj with hb | ⟨_, h | h | h⟩
      · exact hni (mask_listed hD.edge hclosed j oj hj (hclosed j oj hj hl) i hb)
      · exact absurd h hn
      · exact absurd h hjn
      · exact absurd hc h.2
  have hMk : clsOf P o ≠ .n → M k = M i := by
    intro hn
    rcases Nat.le_total k i with hle | hle
    · refine (mem_const hT i hle (by omega) fun j oj h1 h2 hj hc => ?_).symm
      have := (hkk j oj hj hc).mp ((ord hn j oj hj hc).1 h2)
      omega
    · refine mem_const hT k hle hkle fun j oj h1 h2 hj hc => ?_
      have hl := (hkk j oj hj hc).mpr h2
      rcases Nat.lt_or_eq_of_le h1 with h3 | h3
      · exact (ord hn j oj hj hc).2 h3 hl
      · subst h3; exact hni hl
  have hkk' : ∀ k', (chg P pu o → k' = i + 1) → (¬ chg P pu o → k' = k) → ∀ (j : Nat) oj, l[j]? = some oj → chg P pu oj → ((j = i ∨ lst j) ↔ j < k') := by
    intro k' h1 h2 j oj hj hc
    by_cases hco : chg P pu o
    · rw [h1 hco]
      have hn : clsOf P o ≠ .n := by rintro e; rcases hco with h | h <;> simp [e] at h
      have hor := ord hn j oj hj hc
      constructor
      · rintro (h | h)
        · omega
        · exact Nat.lt_of_not_le fun hge => hor.2 (by omega) h
      · intro h
        by_cases e : j = i
        · exact .inl e
        · exact .inr (hor.1 (by omega))
    · rw [h2 hco]
      have hne : j ≠ i := by rintro rfl; rw [hj] at ho; cases ho; exact hco hc
      rw [← hkk j oj hj hc]
      simp [hne]
  obtain ⟨hput, hstep⟩ := hT i o ho
  -- the state behind it
  have after : ∀ k' x w' φ', k' ≤ l.length → (chg P pu o → k' = i + 1) → (¬ chg P pu o → k' = k) → RM φ' (M k') w' → Ext φ (M k) w φ' (M k') w' → Rep φ' (M k') w' (A i) x →
      Inv P l pu nt M A (E 0) φ₀ m₀ w₀ (fun j => j = i ∨ lst j) k' (a.put o.dst x) w' := by
    intro k' x w' φ' hk' h1 h2 g1 g2 g3
    refine ⟨⟨φ', g1, hX.trans g2, fun t => ⟨fun j oj hj hd hl => ?_, fun hno => ?_⟩⟩, by rw [put_size]; exact hsize, by rw [put_defers]; exact hdef, hk', fun j oj hj hl e he hb => ?_, hkk' k' h1 h2⟩
    · by_cases e : j = i
      · subst e
        rw [hj] at ho
        cases ho
        rw [put_same hd hput hsize]
        exact g3
      · have hne : o.dst ≠ some t := by
          rcases Nat.lt_or_gt_of_ne e with h | h
          · exact hD.dst j i oj o h hj ho t hd
          · exact fun hod => hD.dst i j o oj h ho hj t hod hd
        rw [put_other hne]
        exact ((hS t).1 j oj hj hd (hl.resolve_left e)).mono g2
    · have hne : o.dst ≠ some t := fun hd => hno i o ho hd (.inl rfl)
      rw [put_other hne]
      exact ((hS t).2 fun j oj hj hd hl => hno j oj hj hd (.inr hl)).mono g2
    · rcases hl with h | h
      · subst h
        rw [hj] at ho
        cases ho
        exact .inr (hready e he hb)
      · exact .inr (hclosed j oj hj h e he hb)
  -- the environment cut to what is looked at
  let E' : Env := (o.looksAt l.toArray).map fun s => (s, get (E i) s)
  have hE' : EnvRep φ (M k) w E' a.tmps := by
    intro t
    rw [get_restr]
    split
    · exact hlook t ‹_›
    · exact .junk _
  have hget : ∀ t, t ∈ o.looksAt l.toArray → get E' t = get (E i) t := fun t ht => by rw [get_restr, if_pos ht]
  have hwant : wantedAV l.toArray E' o = wantedAV l.toArray (E i) o := by
    unfold wantedAV
    cases hg : o.guard with
    | none => rfl
    | some g =>
      obtain ⟨j, want⟩ := g
      simp only []
      cases hj : (l.toArray[j]?).bind (·.dst) with
      | none => rfl
      | some d =>
        simp only []
        rw [hget d (by simp [Oper.looksAt, hg]; right; simpa using hj)]
  have hop : ∀ m, evOp P call E' m o = evOp P call (E i) m o := by
    intro m
    refine evOp_congr fun x hx t => ?_
    cases x with
    | tmp s => exact hget s (by simp only [Oper.looksAt, List.mem_append, List.mem_filterMap]; exact .inl ⟨_, hx, rfl⟩)
    | const v => rfl
    | func f => rfl
    | global g => rfl
  unfold wpOp
  rw [List.getElem?_toArray, ho]
  simp only []
  rcases hstep with ⟨hw, hk⟩ | ⟨hw, hA, hM⟩
  · rw [wanted_sound hE' (hwant.trans hw), if_pos rfl]
    left
    obtain ⟨h1, h2⟩ := keeps_some hk
    by_cases hn : clsOf P o = .n
    · have h3 := (evOp_n h1 hn).2 (M k)
      rw [← hop] at h3
      have hc : ¬ chg P pu o := by rintro (h | h) <;> simp [hn] at h
      exact op_wp hC hR hE' h3 fun x w' φ' g1 g2 g3 => hK k _ _ (after k x w' φ' hkle (fun h => absurd h hc) (fun _ => rfl) g1 g2 g3)
    · rw [← hMk hn, ← hop] at h1
      by_cases hc : chg P pu o
      · exact op_wp hC hR hE' h1 fun x w' φ' g1 g2 g3 => hK (i + 1) _ _ (after (i + 1) x w' φ' hil (fun _ => rfl) (fun h => absurd hc h) g1 g2 g3)
      · have hM : M (i + 1) = M k := by rw [hMk hn, mem_step hT ho hc]
        rw [hM] at h1
        exact op_wp hC hR hE' h1 fun x w' φ' g1 g2 g3 => hK k _ _ (after k x w' φ' hkle (fun h => absurd h hc) (fun _ => rfl) g1 g2 g3)
  · rw [wanted_sound hE' (hwant.trans hw), if_neg (by simp)]
    have hrep : ∀ φ m w, Rep φ m w (A i) undef := fun φ m w => by rw [hA]; exact .v _
    by_cases hc : chg P pu o
    · have hn : clsOf P o ≠ .n := by rintro e; rcases hc with h | h <;> simp [e] at h
      have e : M (i + 1) = M k := by rw [hM, hMk hn]
      refine hK (i + 1) _ _ (after (i + 1) undef w φ hil (fun _ => rfl) (fun h => absurd hc h) ?_ ?_ (hrep ..))
      · rw [e]; exact hR
      · rw [e]; exact Ext.refl ..
    · exact hK k _ _ (after k undef w φ hkle (fun h => absurd h hc) (fun _ => rfl) hR (Ext.refl ..) (hrep ..))

/-- How many are not listed yet. -/
def unl (f : Nat → Bool) : Nat → Nat
  | 0 => 0
  | n + 1 => unl f n + (if f n then 0 else 1)
theorem unl_zero {f : Nat → Bool} : ∀ n, unl f n = 0 → ∀ j, j < n → f j = true
  | 0, _, j, hj => by omega
  | n + 1, h, j, hj => by
    simp only [unl] at h
    have h1 : unl f n = 0 := by omega
    by_cases e : j = n
    · subst e
      by_cases hf : f j = true
      · exact hf
      · simp [hf] at h
    · exact unl_zero n h1 j (by omega)
theorem unl_set {f g : Nat → Bool} {i : Nat} (hi : f i = false) (hg : ∀ j, g j = (decide (j = i) || f j)) : ∀ n, unl f n = unl g n + if i < n then 1 else 0
  | 0 => by simp [unl]
  | n + 1 => by
    simp only [unl, unl_set hi hg n, hg n]
    by_cases e : n = i
    · subst e; simp [hi]
    · have h2 : (i < n + 1) ↔ (i < n) := by omega
      by_cases h3 : i < n
      · simp [e, h2, h3]; omega
      · simp [e, h2, h3]

theorem wpAny_inv (hC : CallOk P call) (hD : Drawn P l pu) (hT : ∀ (k : Nat) o, l[k]? = some o → OpStep P call nt l.toArray pu o (E k) (M k) (A k) (E (k + 1)) (M (k + 1))) {Q : Exit → Act → World → Prop}
    (hQ : ∀ a w, St φ₀ m₀ w₀ nt (E l.length) (M l.length) a w → Q .normal a w) :
    ∀ (n : Nat) (listed : Array Bool) (k : Nat) (a : Act) (w : World), listed.size = l.length → unl (fun j => listed.getD j false) l.length ≤ n →
      Inv P l pu nt M A (E 0) φ₀ m₀ w₀ (fun j => listed.getD j false = true) k a w → wpAny P .any l.toArray Q n listed a w := by
  -- all are listed
  have done : ∀ (listed : Array Bool) k a w, listed.size = l.length → (∀ j, j < l.length → listed.getD j false = true) → Inv P l pu nt M A (E 0) φ₀ m₀ w₀ (fun j => listed.getD j false = true) k a w → Q .normal a w := by
    intro listed k a w hsz hall hI
    obtain ⟨⟨φ, hR, hX, hS⟩, hsize, hdef, hkle, hclosed, hkk⟩ := hI
    have hM : M l.length = M k := mem_const hT l.length hkle (Nat.le_refl _) fun j o h1 h2 hj hc => by
      have := (hkk j o hj hc).mp (hall j h2)
      omega
    refine hQ a w ⟨φ, by rw [hM]; exact hR, by rw [hM]; exact hX, fun t => ?_, hsize, hdef⟩
    rw [hM]
    by_cases hx : ∃ (j : Nat) (oj : Oper), l[j]? = some oj ∧ oj.dst = some t
    · obtain ⟨j, oj, hj, hd⟩ := hx
      have hjl : j < l.length := (List.getElem?_eq_some_iff.mp hj).1
      rw [get_hit hD hT hj hd l.length (Nat.le_refl _) hjl]
      exact (hS t).1 j oj hj hd (hall j hjl)
    · rw [get_miss hT l.length (Nat.le_refl _) fun j oj hji hj hd => hx ⟨j, oj, hj, hd⟩]
      exact (hS t).2 fun j oj hj hd => absurd ⟨j, oj, hj, hd⟩ hx
  have gd : ∀ (listed : Array Bool) j, listed.size = l.length → j < l.length → listed.getD j true = listed.getD j false := by
    intro listed j hs hj
    simp [Array.getD, hs, hj]
  have rdy : ∀ (listed : Array Bool) i, listed.size = l.length → (i ∈ Region.ready .any l.toArray listed ↔ ∃ o, l[i]? = some o ∧ listed.getD i false = false ∧ ∀ e ∈ o.after.toList, Region.binds .any e = true → listed.getD e.on false = true) := by
    intro listed i hs
    simp only [Region.ready, List.mem_filter, List.mem_range, Bool.and_eq_true, List.size_toArray, List.getElem?_toArray, Bool.not_eq_true']
    constructor
    · rintro ⟨h1, h2, h3⟩
      have ho : l[i]? = some l[i] := List.getElem?_eq_getElem h1
      rw [ho] at h3
      simp only [Option.map_some, Option.getD_some, Array.all_eq_true'] at h3
      rw [gd listed i hs h1] at h2
      refine ⟨_, ho, h2, fun e he hb => ?_⟩
      have := h3 e (by simpa using he)
      simpa [hb] using this
    · rintro ⟨o, ho, h2, h3⟩
      have h1 : i < l.length := (List.getElem?_eq_some_iff.mp ho).1
      refine ⟨h1, by rw [gd listed i hs h1]; exact h2, ?_⟩
      rw [ho]
      simp only [Option.map_some, Option.getD_some, Array.all_eq_true']
      intro e he
      have := h3 e (by simpa using he)
      cases hb : Region.binds .any e with
      | false => rfl
      | true => simpa using this hb
  have noneReady : ∀ (listed : Array Bool), listed.size = l.length → Region.ready .any l.toArray listed = [] → ∀ j, j < l.length → listed.getD j false = true := by
    intro listed hs hn j
    induction j using Nat.strongRecOn with
    | _ j ih =>
      intro hj
      have ho : l[j]? = some l[j] := List.getElem?_eq_getElem hj
      cases hl : listed.getD j false with
      | true => rfl
      | false =>
        have : j ∈ Region.ready .any l.toArray listed := (rdy listed j hs).mpr ⟨_, ho, hl, fun e he hb => ih e.on (hD.edge j _ ho e he hb) (Nat.lt_trans (hD.edge j _ ho e he hb) hj)⟩
        rw [hn] at this
        cases this
  intro n
  induction n with
  | zero =>
    intro listed k a w hs hu hI
    have hall := unl_zero l.length (by omega : unl (fun j => listed.getD j false) l.length = 0)
    refine ⟨?_, done listed k a w hs hall hI⟩
    cases hr : Region.ready .any l.toArray listed with
    | nil => rfl
    | cons i r =>
      obtain ⟨o, ho, h2, _⟩ := (rdy listed i hs).mp (by rw [hr]; simp)
      rw [hall i (List.getElem?_eq_some_iff.mp ho).1] at h2
      cases h2
  | succ n ih =>
    intro listed k a w hs hu hI
    refine ⟨fun hn => done listed k a w hs (noneReady listed hs hn) hI, fun i hi => ?_⟩
    obtain ⟨o, ho, h2, h3⟩ := (rdy listed i hs).mp hi
    have hil : i < l.length := (List.getElem?_eq_some_iff.mp ho).1
    have hset : ∀ j, (listed.setIfInBounds i true).getD j false = (decide (j = i) || listed.getD j false) := by
      intro j
      by_cases e : j = i
      · subst e; simp [Array.getD, hs, hil]
      · have e' : i ≠ j := fun h => e h.symm
        simp only [Array.getD_eq_getD_getElem?, Array.getElem?_setIfInBounds_ne e', e, decide_false, Bool.false_or]
    refine inv_step hC hD hT hI ho (by rw [h2]; simp) h3 fun k' a' w' hI' => ih _ k' a' w' (by simpa using hs) ?_ ?_
    · have := unl_set (f := fun j => listed.getD j false) (g := fun j => (listed.setIfInBounds i true).getD j false) h2 hset l.length
      rw [if_pos hil] at this
      omega
    · have e : (fun j => (listed.setIfInBounds i true).getD j false = true) = fun j => j = i ∨ listed.getD j false = true := by
        funext j
        rw [hset j]
        simp
      rw [e]
      exact hI'

theorem unl_le (f : Nat → Bool) : ∀ n, unl f n ≤ n
  | 0 => Nat.le_refl _
  | n + 1 => by
    have := unl_le f n
    simp only [unl]
    split <;> omega

theorem drawn_sound (hm : P.follows .mixedOrders = true) (hC : CallOk P call) {id : Nat} {e e' : Env} {m m' : Mem} (h : evDrawn P call nt l e m = some (e', m')) {a : Act} {w : World}
    (hs : St φ₀ m₀ w₀ nt e m a w) {Q : Exit → Act → World → Prop} (hQ : ∀ a w, St φ₀ m₀ w₀ nt e' m' a w → Q .normal a w) : (Code.region id l.toArray true).wp P Q a w := by
  unfold evDrawn at h
  split at h
  · rename_i hok
    have hD := drawn_of hok
    obtain ⟨E, M, A, rfl, rfl, rfl, rfl, hT⟩ := evOps_trace l e m e' m' h
    obtain ⟨φ, hR, hX, hE, hn, hd⟩ := hs
    refine wp_region_any hm (wpAny_inv hC hD hT hQ l.toArray.size _ 0 a _ (by simp) (unl_le ..) ?_)
    have no : ∀ j, ¬ (Array.replicate l.toArray.size false).getD j false = true := by
      intro j
      simp [Array.getD]
    exact ⟨⟨φ, drew_rm hR, hX.trans (drew_ext φ (M 0) w), fun t => ⟨fun j o _ _ hl => absurd hl (no j), fun _ => (hE t).mono (drew_ext φ (M 0) w)⟩⟩, hn, hd, Nat.zero_le _, fun j o _ hl => absurd hl (no j),
      fun j o _ _ => ⟨fun hl => absurd hl (no j), fun h => by omega⟩⟩
  · cases h
end
end Go.Proofs.YtojaokhkbmiidaaGreat.Ev

namespace Go.Proofs.YtojaokhkbmiidaaGreat.Ev
open Go
set_option linter.unusedVariables false
set_option linter.unusedSimpArgs false
def toExit : Ex → Exit
  | .normal => .normal
  | .exit id => .exit id
  | .ret => .ret
section
variable {P : Program} {call : CallF} {nt : Nat} {φ₀ : Phi} {m₀ : Mem} {w₀ : World}

theorem St.restr {e : Env} {m : Mem} {a : Act} {w : World} (h : St φ₀ m₀ w₀ nt e m a w) (l : Option (List Nat)) : St φ₀ m₀ w₀ nt (restr l e) m a w := by
  obtain ⟨φ, h1, h2, h3, h4⟩ := h
  exact ⟨φ, h1, h2, h3.restr l, h4⟩
/-- What a piece of code leaves behind. -/
def Post (φ₀ : Phi) (m₀ : Mem) (w₀ : World) (nt : Nat) (r : Ex × Env × Mem) : Exit → Act → World → Prop := fun x a w => x = toExit r.1 ∧ St φ₀ m₀ w₀ nt r.2.1 r.2.2 a w
theorem loop_sound {b : Code} {body : Env → Mem → Res} (hb : ∀ e m r, body e m = some r → ∀ a w, St φ₀ m₀ w₀ nt e m a w → b.wp P (Post φ₀ m₀ w₀ nt r) a w) {r : Ex × Env × Mem} :
    ∀ n e m, loopN body n e m = some r → ∀ a w, St φ₀ m₀ w₀ nt e m a w → Code.rounds P b (Post φ₀ m₀ w₀ nt r) n a w
  | 0, e, m, h, a, w, hs => by cases h
  | n + 1, e, m, h, a, w, hs => by
    rw [rounds_succ]
    unfold loopN at h
    split at h
    · rename_i e' m' h1
      refine wp_mono (hb e m _ h1 a w hs) fun x a' w' hp => ?_
      obtain ⟨rfl, hs'⟩ := hp
      exact loop_sound hb n e' m' h a' w' hs'
    · rename_i h1
      refine wp_mono (hb e m _ h a w hs) fun x a' w' hp => ?_
      obtain ⟨rfl, hs'⟩ := hp
      obtain ⟨x, e', m'⟩ := r
      cases x with
      | normal => exact absurd h (h1 e' m')
      | exit id => exact ⟨rfl, hs'⟩
      | ret => exact ⟨rfl, hs'⟩
theorem code_sound (hm : P.follows .mixedOrders = true) (hC : CallOk P call) (kp : Nat → Option (List Nat)) (n : Nat) : ∀ (c : Code) (e : Env) (m : Mem) (r : Ex × Env × Mem), code P call nt kp n c e m = some r →
    ∀ a w, St φ₀ m₀ w₀ nt e m a w → c.wp P (Post φ₀ m₀ w₀ nt r) a w := by
  intro c
  induction c with
  | skip =>
    intro e m r h a w hs
    simp only [code, Option.some.injEq] at h
    subst h
    exact wp_skip ⟨rfl, hs⟩
  | region id ops draw =>
    intro e m r h a w hs
    unfold code at h
    split at h
    · rename_i e' m' h1
      simp only [Option.some.injEq] at h
      subst h
      cases draw with
      | true =>
        rw [if_pos rfl] at h1
        have := drawn_sound (id := id) (Q := Post φ₀ m₀ w₀ nt (.normal, Ev.restr (kp id) e', m')) hm hC h1 hs fun a w hs => ⟨rfl, hs.restr _⟩
        simpa using this
      | false =>
        rw [if_neg (by simp)] at h1
        exact wp_region_list (ops_sound hC ops.toList e m e' m' h1 (fun a w hs => ⟨rfl, hs.restr _⟩) a w hs)
    · cases h
  | seq x y ihx ihy =>
    intro e m r h a w hs
    unfold code at h
    refine wp_seq ?_
    split at h
    · rename_i e' m' h1
      refine wp_mono (ihx e m _ h1 a w hs) fun x a' w' hp => ?_
      obtain ⟨rfl, hs'⟩ := hp
      exact ihy e' m' r h a' w' hs'
    · rename_i h1
      refine wp_mono (ihx e m _ h a w hs) fun x a' w' hp => ?_
      obtain ⟨rfl, hs'⟩ := hp
      obtain ⟨x, e', m'⟩ := r
      cases x with
      | normal => exact absurd h (h1 e' m')
      | exit id => exact ⟨rfl, hs'⟩
      | ret => exact ⟨rfl, hs'⟩
  | cond c x y ihx ihy =>
    intro e m r h a w hs
    unfold code at h
    split at h
    · rename_i t ht
      have hc : a.eval c = .bool t := by
        obtain ⟨φ, _, _, hE, _⟩ := hs
        have := rep_opd (P := P) hE 0 c
        rw [ht] at this
        generalize hv : a.eval c = v at this
        cases this
        rfl
      refine wp_cond hc ?_
      cases t with
      | true => exact ihx e m r h a w hs
      | false => exact ihy e m r h a w hs
    · cases h
  | block id b ih =>
    intro e m r h a w hs
    unfold code at h
    refine wp_block ?_
    split at h
    · rename_i q e' m' h1
      refine wp_mono (ih e m _ h1 a w hs) fun x a' w' hp => ?_
      obtain ⟨rfl, hs'⟩ := hp
      show (if q = id then _ else _)
      split at h
      · rename_i hq
        rw [if_pos hq]
        simp only [Option.some.injEq] at h
        subst h
        exact ⟨rfl, hs'⟩
      · rename_i hq
        rw [if_neg hq]
        simp only [Option.some.injEq] at h
        subst h
        exact ⟨rfl, hs'⟩
    · rename_i h1
      refine wp_mono (ih e m _ h a w hs) fun x a' w' hp => ?_
      obtain ⟨rfl, hs'⟩ := hp
      obtain ⟨x, e', m'⟩ := r
      cases x with
      | normal => exact ⟨rfl, hs'⟩
      | exit id => exact absurd h (h1 id e' m')
      | ret => exact ⟨rfl, hs'⟩
  | loop b ih =>
    intro e m r h a w hs
    unfold code at h
    exact wp_loop_rounds n (loop_sound ih n e m h a w hs)
  | exit id =>
    intro e m r h a w hs
    simp only [code, Option.some.injEq] at h
    subst h
    exact wp_exit ⟨rfl, hs⟩
  | ret =>
    intro e m r h a w hs
    simp only [code, Option.some.injEq] at h
    subst h
    exact wp_ret ⟨rfl, hs⟩
  | _ => intro e m r h; simp [code] at h
end
end Go.Proofs.YtojaokhkbmiidaaGreat.Ev
