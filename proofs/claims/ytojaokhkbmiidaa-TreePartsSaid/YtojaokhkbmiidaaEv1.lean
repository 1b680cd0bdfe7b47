/- The evaluator: abstract values, abstract memory, and what a function of the model's language comes to on them. Definitions alone; nothing of any program. -/
import Derived.Orders
import Derived.Below
namespace Go.Proofs.Ytojaokhkbmiidaa.Ev
open Go

/-- May a list be appended to: not known; its capacity is its length; it holds a token in a version. -/
inductive Grow where
  | no
  | full
  | here
  | tok (id ver : Nat)
  deriving DecidableEq

/-- Abstract values: trees. A slice is the list of its elements' rows of cells. -/
inductive AV where
  | junk
  | v (x : Value)
  | agg (cs : List AV)
  | tup (cs : List AV)
  | lst (g : Grow) (sz : Nat) (rows : List (List AV))
  | ptr (r off : Nat)
  | eptr (cs : List AV)
  | vs (r off sz n c : Nat)
  | fn (f : Fn) (first caps : List AV)

instance : Inhabited AV := ⟨.junk⟩

/-- Abstract memory: the variables' cells (a hole: not there yet), the tokens' versions. -/
structure Mem where
  vars : List (Option (List AV))
  toks : List Nat

def Mem.var (m : Mem) (r : Nat) : Option (List AV) := (m.vars[r]?).join

/-! ### types -/
def tSize (P : Program) (t : TypeId) : Option Nat := (P.info? t).map (·.size)
def tBytes (P : Program) (t : TypeId) : Option Nat := (P.info? t).map (·.bytes)
def tAgg (P : Program) (t : TypeId) : Option Bool :=
  match P.underlying t with
  | some (.struct _) => some true
  | some (.array _ _) => some true
  | some _ => some false
  | none => none
def tElem (P : Program) (t : TypeId) : Option TypeId :=
  match P.underlying t with
  | some (.slice e) => some e
  | _ => none
def tArr (P : Program) (t : TypeId) : Option (Nat × TypeId) :=
  match P.underlying t with
  | some (.array n e) => some (n, e)
  | _ => none
def tField (P : Program) (t : TypeId) (i : Nat) : Option (Nat × TypeId) :=
  match P.underlying t with
  | some (.struct fs) => (fs[i]?).map fun f => (f.offset, f.type)
  | _ => none
def tInt (P : Program) (t : TypeId) : Option IntKind :=
  match P.underlying t with
  | some (.int k) => some k
  | _ => none
def tStr (P : Program) (t : TypeId) : Bool :=
  match P.underlying t with
  | some .string => true
  | _ => false
def tBool (P : Program) (t : TypeId) : Bool :=
  match P.underlying t with
  | some .bool => true
  | _ => false
/-- The types of a type's cells. -/
def cellTys (P : Program) : Nat → TypeId → Option (List TypeId)
  | 0, _ => none
  | d + 1, t =>
    match P.underlying t with
    | some (.struct fs) => (fs.toList.mapM fun f => cellTys P d f.type).map List.flatten
    | some (.array n e) => (cellTys P d e).map fun l => (List.replicate n l).flatten
    | some _ => some [t]
    | none => none

/-! ### constants -/
def constCell (P : Program) (t : TypeId) (x : Value) : AV :=
  match x with
  | .slice none 0 0 =>
    match tElem P t with
    | some e => .lst .full ((tSize P e).getD 0) []
    | none => .v x
  | x => .v x
def constCells (P : Program) (t : TypeId) (vs : List Value) : List AV :=
  match cellTys P 16 t with
  | some ts => if ts.length = vs.length then List.zipWith (constCell P) ts vs else vs.map .v
  | none => vs.map .v
def constAV (P : Program) (t : TypeId) (x : Value) : AV :=
  match x with
  | .agg cs => .agg (constCells P t cs.toList)
  | x => constCell P t x
def zeroCells (P : Program) (t : TypeId) : Option (List AV) :=
  match P.info? t with
  | some i => i.zero.map fun z => constCells P t z.cells.toList
  | none => none

/-! ### environments -/
abbrev Env := List (Nat × AV)
def get : Env → Nat → AV
  | [], _ => .junk
  | (k, a) :: r, t => if k = t then a else get r t
def putAV (nt : Nat) (dst : Option Tmp) (a : AV) (e : Env) : Option Env :=
  match dst with
  | none => some e
  | some d => if d < nt then some ((d, a) :: e) else none
def restr (l : Option (List Nat)) (e : Env) : Env :=
  match l with
  | none => e
  | some l => l.map fun s => (s, get e s)
def opd (P : Program) (e : Env) (t : TypeId) : Operand → AV
  | .tmp s => get e s
  | .const x => constAV P t x
  | .func f => .fn (.func f) [] []
  | .global _ => .junk

/-! ### cells -/
def one : Value → Bool
  | .agg _ => false
  | .tuple _ => false
  | _ => true
def okCell : AV → Bool
  | .v x => one x
  | .lst _ _ _ => true
  | .ptr _ _ => true
  | .fn _ _ _ => true
  | .vs _ _ _ _ _ => true
  | _ => false
def flat : AV → List AV
  | .agg cs => cs
  | a => [a]
def cellsOf (a : AV) : Option (List AV) := if (flat a).all okCell then some (flat a) else none
def rowCell : AV → Option AV
  | .v x => if one x then some (.v x) else none
  | .lst _ sz rows => some (.lst .no sz rows)
  | _ => none
/-- What may stand in a list's row. -/
def isRow : AV → Bool
  | .v _ => true
  | .lst .no _ _ => true
  | _ => false
def rowOf (a : AV) : Option (List AV) := (flat a).mapM rowCell
/-- A cell may be kept in variable r: what it leads to is not younger. -/
def refLe (r : Nat) : AV → Bool
  | .ptr q _ => q ≤ r
  | .vs q _ _ _ _ => q ≤ r
  | .fn _ first caps => first.all okArg && caps.all okArg
  | _ => true
where okArg : AV → Bool
  | .ptr q _ => q ≤ r
  | .v _ => true
  | .lst _ _ _ => true
  | _ => false
def asList (k : Nat) : AV → Option (Grow × List (List AV))
  | .lst g sz rows => if sz = k then some (g, rows) else none
  | .v (.slice none 0 0) => some (.full, [])
  | _ => none
/-- What a callee is told: nobody grows what came in. -/
def argCell : AV → AV
  | .lst _ sz rows => .lst .no sz rows
  | a => a
def argAV : AV → AV
  | .agg cs => .agg (cs.map argCell)
  | a => argCell a

/-! ### memory -/
def newVar (m : Mem) (p : Nat) (cs : List AV) : Option Mem :=
  if cs.all (refLe p) then
    if p = m.vars.length then some { m with vars := m.vars ++ [some cs] }
    else match m.vars[p]? with
      | some none => some { m with vars := m.vars.set p (some cs) }
      | _ => none
  else none
def splice (old : List AV) (off : Nat) (cs : List AV) : List AV := old.take off ++ cs ++ old.drop (off + cs.length)
/-- The cells from a pointer on. -/
def ptrCells (m : Mem) (p : AV) : Option (List AV) :=
  match p with
  | .ptr r off => (m.var r).map fun l => l.drop off
  | .eptr cs => some cs
  | _ => none
def evLoad (P : Program) (m : Mem) (t : TypeId) (p : AV) : Option AV :=
  match ptrCells m p, tAgg P t, tSize P t with
  | some cs, some true, some k => if k ≤ cs.length then some (.agg (cs.take k)) else none
  | some cs, some false, some _ => cs.head?
  | _, _, _ => none
def evStore (P : Program) (m : Mem) (t : TypeId) (p x : AV) : Option Mem :=
  match p, cellsOf x, tSize P t with
  | .ptr r off, some cs, some k =>
    match m.var r with
    | some old => if cs.length = k ∧ off + k ≤ old.length ∧ cs.all (refLe r) = true then some { m with vars := m.vars.set r (some (splice old off cs)) } else none
    | none => none
  | _, _, _ => none
def evFieldAddr (P : Program) (t : TypeId) (x : AV) (i : Nat) : Option AV :=
  match tField P t i with
  | some (off, ft) =>
    match tSize P ft with
    | some (k + 1) =>
      match x with
      | .ptr r o => if off = 0 then some (.ptr r o) else some (.ptr r (o + off))
      | .eptr cs => if off + (k + 1) ≤ cs.length then some (.eptr (cs.drop off)) else none
      | _ => none
    | _ => none
  | none => none
def evPart (P : Program) (t : TypeId) (cs : List AV) (off : Nat) : Option AV :=
  match tAgg P t, tSize P t with
  | some true, some k => if off + k ≤ cs.length then some (.agg ((cs.drop off).take k)) else none
  | some false, some _ => cs[off]?
  | _, _ => none
def evField (P : Program) (t : TypeId) (x : AV) (i : Nat) : Option AV :=
  match tField P t i, x with
  | some (off, ft), .agg cs => evPart P ft cs off
  | _, _ => none
def evBuildFill (place : Nat → Option (Nat × Nat)) (cells : List AV) : List (Nat × AV) → Option (List AV)
  | [] => some cells
  | (i, x) :: rest =>
    match place i, cellsOf x with
    | some (off, k), some cs => if cs.length = k ∧ off + k ≤ cells.length then evBuildFill place (splice cells off cs) rest else none
    | _, _ => none
def fieldTy (P : Program) (t : TypeId) (i : Nat) : TypeId :=
  match P.underlying t with
  | some (.struct fs) => ((fs[i]?).map (·.type)).getD 0
  | some (.array _ e) => e
  | some (.slice e) => e
  | _ => 0
def evBuild (P : Program) (t : TypeId) (parts : List (Nat × AV)) : Option AV :=
  match P.underlying t, zeroCells P t with
  | some (.struct fs), some z =>
    if fs.toList.all (fun f => (tSize P f.type).isSome) then
      (evBuildFill (fun i => (fs[i]?).bind fun f => (tSize P f.type).map fun k => (f.offset, k)) z parts).map .agg
    else none
  | some (.array _ e), some z =>
    match tSize P e with
    | some k => (evBuildFill (fun i => some (i * k, k)) z parts).map .agg
    | none => none
  | _, _ => none
/-- The rows of a literal: each of them is given, in order. -/
def evRows (k : Nat) : Nat → List (Nat × AV) → Option (List (List AV))
  | _, [] => some []
  | j, (i, x) :: rest =>
    match rowOf x with
    | some row => if i = j ∧ row.length = k then (evRows k (j + 1) rest).map (row :: ·) else none
    | none => none
def evBuildSlice (P : Program) (t : TypeId) (len : Nat) (parts : List (Nat × AV)) : Option AV :=
  match tElem P t with
  | some e =>
    match tSize P e, zeroCells P e with
    | some k, some z =>
      match evRows k 0 parts with
      | some rows => if rows.length = len ∧ len * k ≤ 16777216 ∧ z.length = k then some (.lst .full k rows) else none
      | none => none
    | _, _ => none
  | none => none
def evIndexAddr (P : Program) (t : TypeId) (x i : AV) : Option AV :=
  match i with
  | .v (.int _ i) =>
    match tArr P t with
    | some (n, e) =>
      match x, tSize P e with
      | .ptr r off, some k => if 0 ≤ i ∧ i < n then (if i.toNat * k = 0 then some (.ptr r off) else some (.ptr r (off + i.toNat * k))) else none
      | _, _ => none
    | none =>
      match tElem P t with
      | some e =>
        match tSize P e, x with
        | some k, .lst _ sz rows =>
          if sz = k ∧ 0 ≤ i ∧ i < rows.length then (rows[i.toNat]?).map .eptr else none
        | some k, .vs r off sz n _ =>
          if sz = k ∧ 0 ≤ i ∧ i < n then some (.ptr r (off + i.toNat * k)) else none
        | _, _ => none
      | none => none
  | _ => none
def evIndex (P : Program) (t : TypeId) (x i : AV) : Option AV :=
  match i with
  | .v (.int _ i) =>
    match x with
    | .v (.string s) => if tStr P t = true ∧ 0 ≤ i ∧ i < s.size then some (.v (.int .u8 (s.get! i.toNat).toNat)) else none
    | .agg cs =>
      match tArr P t with
      | some (n, e) =>
        match tSize P e with
        | some k => if 0 ≤ i ∧ i < n then evPart P e cs (i.toNat * k) else none
        | none => none
      | none => none
    | _ => none
  | _ => none
/-- A bound of a cut. -/
def evBound (x : Option AV) (d : Nat) : Option Nat :=
  match x with
  | none => some d
  | some (.v (.int _ i)) => if 0 ≤ i then some i.toNat else none
  | _ => none
def evSlice (P : Program) (m : Mem) (t : TypeId) (x : AV) (lo hi mx : Option AV) : Option AV :=
  match x with
  | .v (.string s) =>
    match evBound lo 0, evBound hi s.size, mx with
    | some l, some h, none => if tStr P t = true ∧ l ≤ h ∧ h ≤ s.size then some (.v (.string (s.extract l h))) else none
    | _, _, _ => none
  | .lst _ sz rows =>
    match tElem P t with
    | some e =>
      match tSize P e, evBound lo 0, evBound hi rows.length, mx with
      | some k, some l, some h, none => if sz = k ∧ l ≤ h ∧ h ≤ rows.length then some (.lst .no sz ((rows.take h).drop l)) else none
      | _, _, _, _ => none
    | none => none
  | .ptr r off =>
    match tArr P t, mx with
    | some (n, e), none =>
      match tSize P e, evBound lo 0, evBound hi n, m.var r with
      | some k, some l, some h, some cs => if l = 0 ∧ h ≤ n ∧ off + n * k ≤ cs.length then some (.vs r off k h n) else none
      | _, _, _, _ => none
    | _, _ => none
  | _ => none
def evMakeSlice (P : Program) (t : TypeId) (n c : AV) : Option (List AV × Nat × Nat) :=
  match tElem P t, n, c with
  | some e, .v (.int _ n), .v (.int _ c) =>
    match tSize P e, tBytes P e, zeroCells P e with
    | some 1, some b, some [z] => if okCell z = true ∧ n = c ∧ 0 ≤ n ∧ n * b ≤ 140737488355328 ∧ n ≤ 9223372036854775807 then some (List.replicate n.toNat z, 1, n.toNat) else none
    | _, _, _ => none
  | _, _, _ => none

/-! ### arithmetic -/
def evInt (op : BinOp) (k : IntKind) (a : Int) (k' : IntKind) (b : Int) : Option AV :=
  match op with
  | .shl => if b < 0 then none else some (.v (.int k (k.wrap (a * 2 ^ min b.toNat k.bits))))
  | .shr => if b < 0 then none else some (.v (.int k (a.fdiv (2 ^ min b.toNat k.bits))))
  | .add => if k = k' then some (.v (.int k (k.wrap (a + b)))) else none
  | .sub => if k = k' then some (.v (.int k (k.wrap (a - b)))) else none
  | .mul => if k = k' then some (.v (.int k (k.wrap (a * b)))) else none
  | .quo => if k = k' ∧ b ≠ 0 then some (.v (.int k (k.wrap (a.tdiv b)))) else none
  | .rem => if k = k' ∧ b ≠ 0 then some (.v (.int k (a.tmod b))) else none
  | .and => if k = k' then some (.v (.int k (k.wrap (BitVec.ofInt k.bits a &&& BitVec.ofInt k.bits b).toNat))) else none
  | .or => if k = k' then some (.v (.int k (k.wrap (BitVec.ofInt k.bits a ||| BitVec.ofInt k.bits b).toNat))) else none
  | .xor => if k = k' then some (.v (.int k (k.wrap (BitVec.ofInt k.bits a ^^^ BitVec.ofInt k.bits b).toNat))) else none
  | .andNot => if k = k' then some (.v (.int k (k.wrap (BitVec.ofInt k.bits a &&& ~~~(BitVec.ofInt k.bits b)).toNat))) else none
  | .eql => if k = k' then some (.v (.bool (a == b))) else none
  | .neq => if k = k' then some (.v (.bool (a != b))) else none
  | .lss => if k = k' then some (.v (.bool (decide (a < b)))) else none
  | .leq => if k = k' then some (.v (.bool (decide (a ≤ b)))) else none
  | .gtr => if k = k' then some (.v (.bool (decide (a > b)))) else none
  | .geq => if k = k' then some (.v (.bool (decide (a ≥ b)))) else none
def evStr (op : BinOp) (a b : ByteArray) : Option AV :=
  match op with
  | .add => if a.size + b.size ≤ 9223372036854775807 then some (.v (.string (a ++ b))) else none
  | .eql => some (.v (.bool (a == b)))
  | .neq => some (.v (.bool (a != b)))
  | _ => none
/-- Are two values of a type of numbers, bools and texts the same? Part by part. -/
def eqFieldsAV (P : Program) (eq : TypeId → AV → AV → Option Bool) (xs ys : List AV) : List Field → Option Bool
  | [] => some true
  | f :: r =>
    if f.name = "_" then none else
    match evPart P f.type xs f.offset, evPart P f.type ys f.offset with
    | some a, some b =>
      match eq f.type a b, eqFieldsAV P eq xs ys r with
      | some p, some q => some (p && q)
      | _, _ => none
    | _, _ => none
def eqElemsAV (P : Program) (eq : TypeId → AV → AV → Option Bool) (e : TypeId) (k : Nat) (xs ys : List AV) : List Nat → Option Bool
  | [] => some true
  | i :: r =>
    match evPart P e xs (i * k), evPart P e ys (i * k) with
    | some a, some b =>
      match eq e a b, eqElemsAV P eq e k xs ys r with
      | some p, some q => some (p && q)
      | _, _ => none
    | _, _ => none
def eqTy (P : Program) : Nat → TypeId → AV → AV → Option Bool
  | 0, _, _, _ => none
  | d + 1, t, x, y =>
    match P.underlying t, x, y with
    | some .bool, .v (.bool a), .v (.bool b) => some (a == b)
    | some (.int _), .v (.int k a), .v (.int k' b) => if k = k' then some (a == b) else none
    | some .string, .v (.string a), .v (.string b) => some (a == b)
    | some (.struct fs), .agg xs, .agg ys => if P.stoodInHeld t = true then none else eqFieldsAV P (eqTy P d) xs ys fs.toList
    | some (.array n e), .agg xs, .agg ys => (tSize P e).bind fun k => eqElemsAV P (eqTy P d) e k xs ys (List.range n)
    | _, _, _ => none
/-- A type in which there is no interface. -/
def noIface (P : Program) : Nat → TypeId → Bool
  | 0, _ => false
  | d + 1, t =>
    match P.underlying t with
    | some (.interface _) => false
    | some (.struct fs) => fs.toList.all fun f => noIface P d f.type
    | some (.array _ e) => noIface P d e
    | some _ => true
    | none => true
def evBin (P : Program) (op : BinOp) (t : TypeId) (x y : AV) : Option AV :=
  match x, y with
  | .v (.int k a), .v (.int k' b) => evInt op k a k' b
  | .v (.string a), .v (.string b) => evStr op a b
  | .v (.bool a), .v (.bool b) =>
    if tBool P t then
      match op with
      | .eql => some (.v (.bool (a == b)))
      | .neq => some (.v (.bool (a != b)))
      | _ => none
    else none
  | .agg xs, .agg ys =>
    if noIface P 8 t then
      match op with
      | .eql => (eqTy P 8 t (.agg xs) (.agg ys)).map fun b => .v (.bool b)
      | .neq => (eqTy P 8 t (.agg xs) (.agg ys)).map fun b => .v (.bool (!b))
      | _ => none
    else none
  | _, _ => none
/-- Is a slice nil? -/
def isNil : AV → Option Bool
  | .v (.slice none 0 0) => some true
  | .lst .here _ _ => some false
  | .lst _ _ (_ :: _) => some false
  | _ => none
/-- A slice held against nil. -/
def nilCmp (P : Program) (op : BinOp) (t : TypeId) (a : AV) (y : Operand) : Option Bool :=
  match y with
  | .const (.slice none 0 0) =>
    match tElem P t, op with
    | some _, .eql => isNil a
    | some _, .neq => (isNil a).map (!·)
    | _, _ => none
  | _ => none
def evBinN (P : Program) (op : BinOp) (t : TypeId) (a : AV) (y : Operand) (b : AV) : Option AV :=
  match nilCmp P op t a y with
  | some r => some (.v (.bool r))
  | none => evBin P op t a b
def evUn (op : UnOp) (x : AV) : Option AV :=
  match op, x with
  | .neg, .v (.int k n) => some (.v (.int k (k.wrap (0 - n))))
  | .xor, .v (.int k n) => some (.v (.int k (k.wrap (BitVec.ofInt k.bits (if k.signed then -1 else k.max) ^^^ BitVec.ofInt k.bits n).toNat)))
  | .not, .v (.bool b) => some (.v (.bool (!b)))
  | _, _ => none
/-- The text of a row of bytes. -/
def bytesOfCells : List AV → Option (List UInt8)
  | [] => some []
  | .v (.int .u8 n) :: rest => (bytesOfCells rest).map fun l => UInt8.ofNat n.toNat :: l
  | _ => none
def evConvert (P : Program) (m : Mem) (src dst : TypeId) (x : AV) : Option AV :=
  match x with
  | .v (.int _ n) => match P.underlying src, tInt P dst with
    | some _, some k => some (.v (.int k (k.wrap n)))
    | _, _ => none
  | .v (.string s) => match P.underlying src with
    | some _ => if tStr P dst then some (.v (.string s)) else none
    | none => none
  | .vs r off 1 n _ =>
    match tElem P src, m.var r with
    | some e, some cs => if tStr P dst = true ∧ tInt P e = some .u8 ∧ off + n ≤ cs.length then (bytesOfCells ((cs.drop off).take n)).map fun l => .v (.string ⟨l.toArray⟩) else none
    | _, _ => none
  | _ => none

/-! ### builtins -/
def mx (a b : Int) : Int := if b > a then b else a
def mn (a b : Int) : Int := if b < a then b else a
def evFoldI (f : Int → Int → Int) (k : IntKind) : Int → List AV → Option AV
  | x, [] => some (.v (.int k x))
  | x, .v (.int k' y) :: rest => if k = k' then evFoldI f k (f x y) rest else none
  | _, _ => none
def evMinMax (f : Int → Int → Int) : List AV → Option AV
  | .v (.int k x) :: rest => evFoldI f k x rest
  | _ => none
def evLen (P : Program) (t : TypeId) (x : AV) : Option AV :=
  match x with
  | .v (.string s) => if tStr P t then some (.v (.int .i64 s.size)) else none
  | .lst _ _ rows => (tElem P t).map fun _ => .v (.int .i64 rows.length)
  | .v (.slice none 0 0) => (tElem P t).map fun _ => .v (.int .i64 0)
  | .vs _ _ _ n _ => (tElem P t).map fun _ => .v (.int .i64 n)
  | _ => (tArr P t).map fun (n, _) => .v (.int .i64 n)
/-- A bound of what may be appended: far from any limit. -/
def lim : Nat := 4294967296
def evAppend (P : Program) (t t2 : TypeId) (m : Mem) (x y : AV) : Option (AV × Mem) :=
  match tElem P t with
  | some e =>
    match tSize P e, tBytes P e, zeroCells P e with
    | some k, some b, some z =>
      match asList k x, asList k y with
      | some (g, xs), some (_, ys) =>
        if xs.length + ys.length ≤ lim ∧ b ≤ 4096 ∧ z.length = k ∧ 0 < k ∧ z.all okCell = true ∧ tElem P t2 = some e then
          match g with
          | .no => none
          | .here => none
          | .full => some (.lst (.tok m.toks.length 0) k (xs ++ ys), { m with toks := m.toks ++ [0] })
          | .tok id ver => if m.toks[id]? = some ver then some (.lst (.tok id (ver + 1)) k (xs ++ ys), { m with toks := m.toks.set id (ver + 1) }) else none
        else none
      | _, _ => none
    | _, _, _ => none
  | none => none
def evBuiltin (P : Program) (m : Mem) (b : Builtin) (ts : List TypeId) (xs : List AV) : Option (AV × Mem) :=
  match b, ts, xs with
  | .len, [t], [x] => (evLen P t x).map (·, m)
  | .max, _, xs => (evMinMax mx xs).map (·, m)
  | .min, _, xs => (evMinMax mn xs).map (·, m)
  | .append, [t, t2], [x, y] => evAppend P t t2 m x y
  | _, _, _ => none
end Go.Proofs.Ytojaokhkbmiidaa.Ev
