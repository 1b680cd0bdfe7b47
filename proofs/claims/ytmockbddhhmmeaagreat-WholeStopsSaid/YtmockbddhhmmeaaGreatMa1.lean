/- The evaluator: abstract values, abstract memory, and what a function of the model's language comes to on them. Definitions alone; nothing of any program. -/
import Derived.Orders
import Derived.Below
import Derived.Laws.Sem
import Derived.Laws.Cells
import Derived.Laws.Append
import Derived.Laws.CopyRow
import Derived.Laws.StructEq
namespace Go.Proofs.YtmockbddhhmmeaaGreat.Ev
open Go Go.Proofs
set_option maxRecDepth 10000
set_option maxHeartbeats 8000000
set_option linter.unusedVariables false
set_option linter.unusedSimpArgs false
section

/-- May a list be appended to: not known; its capacity is its length; it holds a token in a version. -/
inductive Grow where
 | no
 | full
 | here
 | tok (id ver : Nat)
 deriving DecidableEq

/-- Abstract values: trees. A slice is the list of its elements' rows of cells. -/
inductive AV where
 | junk
 | v (x : Value)
 | agg (cs : List AV)
 | tup (cs : List AV)
 | lst (g : Grow) (sz : Nat) (rows : List (List AV))
 | ptr (r off : Nat)
 | eptr (cs : List AV)
 | vs (r off sz n c : Nat)
 | fn (f : Fn) (first caps : List AV)

instance : Inhabited AV := ⟨.junk⟩

/-- Abstract memory: the variables' cells (a hole: not there yet), the tokens' versions. -/
structure Mem where
 vars : List (Option (List AV))
 toks : List Nat

def Mem.var (m : Mem) (r : Nat) : Option (List AV) := (m.vars[r]?).join

/-! ### types -/
def cA (P : Program) (t : TypeId) : Option Nat := (P.info? t).map (·.size)
def lA (P : Program) (t : TypeId) : Option Nat := (P.info? t).map (·.bytes)
def oP (P : Program) (t : TypeId) : Option Bool :=
 match P.underlying t with
 | some (.struct _) => some true
 | some (.array _ _) => some true
 | some _ => some false
 | none => none
def dB (P : Program) (t : TypeId) : Option TypeId :=
 match P.underlying t with
 | some (.slice e) => some e
 | _ => none
def mM (P : Program) (t : TypeId) : Option (Nat × TypeId) :=
 match P.underlying t with
 | some (.array n e) => some (n, e)
 | _ => none
def aMz (P : Program) (t : TypeId) (i : Nat) : Option (Nat × TypeId) :=
 match P.underlying t with
 | some (.struct fs) => (fs[i]?).map fun f => (f.offset, f.type)
 | _ => none
def bL9 (P : Program) (t : TypeId) : Option IntKind :=
 match P.underlying t with
 | some (.int k) => some k
 | _ => none
def aYi (P : Program) (t : TypeId) : Bool :=
 match P.underlying t with
 | some .string => true
 | _ => false
def bFk (P : Program) (t : TypeId) : Bool :=
 match P.underlying t with
 | some .bool => true
 | _ => false
/-- The types of a type's cells. -/
def aTf (P : Program) : Nat → TypeId → Option (List TypeId)
 | 0, _ => none
 | d + 1, t =>
  match P.underlying t with
  | some (.struct fs) => (fs.toList.mapM fun f => aTf P d f.type).map List.flatten
  | some (.array n e) => (aTf P d e).map fun l => (List.replicate n l).flatten
  | some _ => some [t]
  | none => none

/-! ### constants -/
def uJ (P : Program) (t : TypeId) (x : Value) : AV :=
 match x with
 | .slice none 0 0 =>
  match dB P t with
  | some e => .lst .full ((cA P e).getD 0) []
  | none => .v x
 | x => .v x
def qY (P : Program) (t : TypeId) (vs : List Value) : List AV :=
 match aTf P 16 t with
 | some ts => if ts.length = vs.length then List.zipWith (uJ P) ts vs else vs.map .v
 | none => vs.map .v
def aKl (P : Program) (t : TypeId) (x : Value) : AV :=
 match x with
 | .agg cs => .agg (qY P t cs.toList)
 | x => uJ P t x
def zeroCells (P : Program) (t : TypeId) : Option (List AV) :=
 match P.info? t with
 | some i => i.zero.map fun z => qY P t z.cells.toList
 | none => none

/-! ### environments -/
abbrev Env := List (Nat × AV)
def get : Env → Nat → AV
 | [], _ => .junk
 | (k, a) :: r, t => if k = t then a else get r t
def putAV (nt : Nat) (dst : Option Tmp) (a : AV) (e : Env) : Option Env :=
 match dst with
 | none => some e
 | some d => if d < nt then some ((d, a) :: e) else none
def restr (l : Option (List Nat)) (e : Env) : Env :=
 match l with
 | none => e
 | some l => l.map fun s => (s, get e s)
def opd (P : Program) (e : Env) (t : TypeId) : Operand → AV
 | .tmp s => get e s
 | .const x => aKl P t x
 | .func f => .fn (.func f) [] []
 | .global _ => .junk

/-! ### cells -/
def one : Value → Bool
 | .agg _ => false
 | .tuple _ => false
 | _ => true
def okCell : AV → Bool
 | .v x => one x
 | .lst _ _ _ => true
 | .ptr _ _ => true
 | .fn _ _ _ => true
 | .vs _ _ _ _ _ => true
 | _ => false
def aEc : AV → List AV
 | .agg cs => cs
 | a => [a]
def cellsOf (a : AV) : Option (List AV) := if (aEc a).all okCell then some (aEc a) else none
def gF : AV → Option AV
 | .v x => if one x then some (.v x) else none
 | .lst _ sz rows => some (.lst .no sz rows)
 | _ => none
/-- What may stand in a list's row. -/
def kD : AV → Bool
 | .v _ => true
 | .lst .no _ _ => true
 | _ => false
def aJm (a : AV) : Option (List AV) := (aEc a).mapM gF
def isV : AV → Bool
 | .v _ => true
 | _ => false
/-- A cell may be kept in variable r: what it leads to is not younger. -/
def refLe (r : Nat) : AV → Bool
 | .ptr q _ => q ≤ r
 | .vs q _ _ _ _ => q ≤ r
 | .fn _ first caps => first.all okArg && caps.all okArg
 | _ => true
where okArg : AV → Bool
 | .ptr q _ => q ≤ r
 | .v _ => true
 | .lst _ _ _ => true
 | .eptr cs => cs.all isV
 | _ => false
def tS (k : Nat) : AV → Option (Grow × List (List AV))
 | .lst g sz rows => if sz = k then some (g, rows) else none
 | .v (.slice none 0 0) => some (.full, [])
 | _ => none
/-- What a callee is told: nobody grows what came in. -/
def eR : AV → AV
 | .lst _ sz rows => .lst .no sz rows
 | a => a
def lI : AV → AV
 | .agg cs => .agg (cs.map eR)
 | a => eR a

/-! ### memory -/
def newVar (m : Mem) (p : Nat) (cs : List AV) : Option Mem :=
 if cs.all (refLe p) then
  if p = m.vars.length then some { m with vars := m.vars ++ [some cs] }
  else match m.vars[p]? with
   | some none => some { m with vars := m.vars.set p (some cs) }
   | _ => none
 else none
def cB (old : List AV) (off : Nat) (cs : List AV) : List AV := old.take off ++ cs ++ old.drop (off + cs.length)
/-- The cells from a pointer on. -/
def mG (m : Mem) (p : AV) : Option (List AV) :=
 match p with
 | .ptr r off => (m.var r).map fun l => l.drop off
 | .eptr cs => some cs
 | _ => none
def aL (P : Program) (m : Mem) (t : TypeId) (p : AV) : Option AV :=
 match mG m p, oP P t, cA P t with
 | some cs, some true, some k => if k ≤ cs.length then some (.agg (cs.take k)) else none
 | some cs, some false, some _ => cs.head?
 | _, _, _ => none
def aR (P : Program) (m : Mem) (t : TypeId) (p x : AV) : Option Mem :=
 match p, cellsOf x, cA P t with
 | .ptr r off, some cs, some k =>
  match m.var r with
  | some old => if cs.length = k ∧ off + k ≤ old.length ∧ cs.all (refLe r) = true then some { m with vars := m.vars.set r (some (cB old off cs)) } else none
  | none => none
 | _, _, _ => none
def aD (P : Program) (t : TypeId) (x : AV) (i : Nat) : Option AV :=
 match aMz P t i with
 | some (off, ft) =>
  match cA P ft with
  | some (k + 1) =>
   match x with
   | .ptr r o => if off = 0 then some (.ptr r o) else some (.ptr r (o + off))
   | .eptr cs => if off + (k + 1) ≤ cs.length then some (.eptr (cs.drop off)) else none
   | _ => none
  | _ => none
 | none => none
def mK (P : Program) (t : TypeId) (cs : List AV) (off : Nat) : Option AV :=
 match oP P t, cA P t with
 | some true, some k => if off + k ≤ cs.length then some (.agg ((cs.drop off).take k)) else none
 | some false, some _ => cs[off]?
 | _, _ => none
def aKv (P : Program) (t : TypeId) (x : AV) (i : Nat) : Option AV :=
 match aMz P t i, x with
 | some (off, ft), .agg cs => mK P ft cs off
 | _, _ => none
def iB (place : Nat → Option (Nat × Nat)) (cells : List AV) : List (Nat × AV) → Option (List AV)
 | [] => some cells
 | (i, x) :: rest =>
  match place i, cellsOf x with
  | some (off, k), some cs => if cs.length = k ∧ off + k ≤ cells.length then iB place (cB cells off cs) rest else none
  | _, _ => none
def pL (P : Program) (t : TypeId) (i : Nat) : TypeId :=
 match P.underlying t with
 | some (.struct fs) => ((fs[i]?).map (·.type)).getD 0
 | some (.array _ e) => e
 | some (.slice e) => e
 | _ => 0
def cN (P : Program) (t : TypeId) (parts : List (Nat × AV)) : Option AV :=
 match P.underlying t, zeroCells P t with
 | some (.struct fs), some z =>
  if fs.toList.all (fun f => (cA P f.type).isSome) then
   (iB (fun i => (fs[i]?).bind fun f => (cA P f.type).map fun k => (f.offset, k)) z parts).map .agg
  else none
 | some (.array _ e), some z =>
  match cA P e with
  | some k => (iB (fun i => some (i * k, k)) z parts).map .agg
  | none => none
 | _, _ => none
/-- The rows of a literal: each of them is given, in order. -/
def mI (k : Nat) : Nat → List (Nat × AV) → Option (List (List AV))
 | _, [] => some []
 | j, (i, x) :: rest =>
  match aJm x with
  | some row => if i = j ∧ row.length = k then (mI k (j + 1) rest).map (row :: ·) else none
  | none => none
def bG (P : Program) (t : TypeId) (len : Nat) (parts : List (Nat × AV)) : Option AV :=
 match dB P t with
 | some e =>
  match cA P e, zeroCells P e with
  | some k, some z =>
   match mI k 0 parts with
   | some rows => if rows.length = len ∧ len * k ≤ 16777216 ∧ z.length = k then some (.lst .full k rows) else none
   | none => none
  | _, _ => none
 | none => none
def cI (P : Program) (t : TypeId) (x i : AV) : Option AV :=
 match i with
 | .v (.int _ i) =>
  match mM P t with
  | some (n, e) =>
   match x, cA P e with
   | .ptr r off, some k => if 0 ≤ i ∧ i < n then (if i.toNat * k = 0 then some (.ptr r off) else some (.ptr r (off + i.toNat * k))) else none
   | _, _ => none
  | none =>
   match dB P t with
   | some e =>
    match cA P e, x with
    | some k, .lst _ sz rows =>
     if sz = k ∧ 0 ≤ i ∧ i < rows.length then (rows[i.toNat]?).map .eptr else none
    | some k, .vs r off sz n _ =>
     if sz = k ∧ 0 ≤ i ∧ i < n then some (.ptr r (off + i.toNat * k)) else none
    | _, _ => none
   | none => none
 | _ => none
def lZ (P : Program) (t : TypeId) (x i : AV) : Option AV :=
 match i with
 | .v (.int _ i) =>
  match x with
  | .v (.string s) => if aYi P t = true ∧ 0 ≤ i ∧ i < s.size then some (.v (.int .u8 (s.get! i.toNat).toNat)) else none
  | .agg cs =>
   match mM P t with
   | some (n, e) =>
    match cA P e with
    | some k => if 0 ≤ i ∧ i < n then mK P e cs (i.toNat * k) else none
    | none => none
   | none => none
  | _ => none
 | _ => none
/-- A bound of a cut. -/
def fH (x : Option AV) (d : Nat) : Option Nat :=
 match x with
 | none => some d
 | some (.v (.int _ i)) => if 0 ≤ i then some i.toNat else none
 | _ => none
def sT (P : Program) (m : Mem) (t : TypeId) (x : AV) (lo hi mx : Option AV) : Option AV :=
 match x with
 | .v (.string s) =>
  match fH lo 0, fH hi s.size, mx with
  | some l, some h, none => if aYi P t = true ∧ l ≤ h ∧ h ≤ s.size then some (.v (.string (s.extract l h))) else none
  | _, _, _ => none
 | .lst _ sz rows =>
  match dB P t with
  | some e =>
   match cA P e, fH lo 0, fH hi rows.length, mx with
   | some k, some l, some h, none => if sz = k ∧ l ≤ h ∧ h ≤ rows.length then some (.lst .no sz ((rows.take h).drop l)) else none
   | _, _, _, _ => none
  | none => none
 | .ptr r off =>
  match mM P t, mx with
  | some (n, e), none =>
   match cA P e, fH lo 0, fH hi n, m.var r with
   | some k, some l, some h, some cs =>
    if l = 0 ∧ h ≤ n ∧ off + n * k ≤ cs.length then some (.vs r off k h n)
    else if l < n ∧ l ≤ h ∧ h ≤ n ∧ off + n * k ≤ cs.length then some (.vs r (off + l * k) k (h - l) (n - l)) else none
   | _, _, _, _ => none
  | _, _ => none
 | _ => none
def gE (P : Program) (t : TypeId) (n c : AV) : Option (List AV × Nat × Nat) :=
 match dB P t, n, c with
 | some e, .v (.int _ n), .v (.int _ c) =>
  match cA P e, lA P e, zeroCells P e with
  | some 1, some b, some [z] => if okCell z = true ∧ n = c ∧ 0 ≤ n ∧ n * b ≤ 140737488355328 ∧ n ≤ 9223372036854775807 then some (List.replicate n.toNat z, 1, n.toNat) else none
  | _, _, _ => none
 | _, _, _ => none

/-! ### arithmetic -/
def mO (op : BinOp) (k : IntKind) (a : Int) (k' : IntKind) (b : Int) : Option AV :=
 match op with
 | .shl => if b < 0 then none else some (.v (.int k (k.wrap (a * 2 ^ min b.toNat k.bits))))
 | .shr => if b < 0 then none else some (.v (.int k (a.fdiv (2 ^ min b.toNat k.bits))))
 | .add => if k = k' then some (.v (.int k (k.wrap (a + b)))) else none
 | .sub => if k = k' then some (.v (.int k (k.wrap (a - b)))) else none
 | .mul => if k = k' then some (.v (.int k (k.wrap (a * b)))) else none
 | .quo => if k = k' ∧ b ≠ 0 then some (.v (.int k (k.wrap (a.tdiv b)))) else none
 | .rem => if k = k' ∧ b ≠ 0 then some (.v (.int k (a.tmod b))) else none
 | .and => if k = k' then some (.v (.int k (k.wrap (BitVec.ofInt k.bits a &&& BitVec.ofInt k.bits b).toNat))) else none
 | .or => if k = k' then some (.v (.int k (k.wrap (BitVec.ofInt k.bits a ||| BitVec.ofInt k.bits b).toNat))) else none
 | .xor => if k = k' then some (.v (.int k (k.wrap (BitVec.ofInt k.bits a ^^^ BitVec.ofInt k.bits b).toNat))) else none
 | .andNot => if k = k' then some (.v (.int k (k.wrap (BitVec.ofInt k.bits a &&& ~~~(BitVec.ofInt k.bits b)).toNat))) else none
 | .eql => if k = k' then some (.v (.bool (a == b))) else none
 | .neq => if k = k' then some (.v (.bool (a != b))) else none
 | .lss => if k = k' then some (.v (.bool (decide (a < b)))) else none
 | .leq => if k = k' then some (.v (.bool (decide (a ≤ b)))) else none
 | .gtr => if k = k' then some (.v (.bool (decide (a > b)))) else none
 | .geq => if k = k' then some (.v (.bool (decide (a ≥ b)))) else none
def aMb (op : BinOp) (a b : ByteArray) : Option AV :=
 match op with
 | .add => if a.size + b.size ≤ 9223372036854775807 then some (.v (.string (a ++ b))) else none
 | .eql => some (.v (.bool (a == b)))
 | .neq => some (.v (.bool (a != b)))
 | _ => none
/-- Are two values of a type of numbers, bools and texts the same? Part by part. -/
def rE (P : Program) (eq : TypeId → AV → AV → Option Bool) (xs ys : List AV) : List Field → Option Bool
 | [] => some true
 | f :: r =>
  if f.name = "_" then none else
  match mK P f.type xs f.offset, mK P f.type ys f.offset with
  | some a, some b =>
   match eq f.type a b, rE P eq xs ys r with
   | some p, some q => some (p && q)
   | _, _ => none
  | _, _ => none
def vQ (P : Program) (eq : TypeId → AV → AV → Option Bool) (e : TypeId) (k : Nat) (xs ys : List AV) : List Nat → Option Bool
 | [] => some true
 | i :: r =>
  match mK P e xs (i * k), mK P e ys (i * k) with
  | some a, some b =>
   match eq e a b, vQ P eq e k xs ys r with
   | some p, some q => some (p && q)
   | _, _ => none
  | _, _ => none
def lS (P : Program) : Nat → TypeId → AV → AV → Option Bool
 | 0, _, _, _ => none
 | d + 1, t, x, y =>
  match P.underlying t, x, y with
  | some .bool, .v (.bool a), .v (.bool b) => some (a == b)
  | some (.int _), .v (.int k a), .v (.int k' b) => if k = k' then some (a == b) else none
  | some .string, .v (.string a), .v (.string b) => some (a == b)
  | some (.struct fs), .agg xs, .agg ys => if P.stoodInHeld t = true then none else rE P (lS P d) xs ys fs.toList
  | some (.array n e), .agg xs, .agg ys => (cA P e).bind fun k => vQ P (lS P d) e k xs ys (List.range n)
  | _, _, _ => none
/-- A type in which there is no interface. -/
def iM (P : Program) : Nat → TypeId → Bool
 | 0, _ => false
 | d + 1, t =>
  match P.underlying t with
  | some (.interface _) => false
  | some (.struct fs) => fs.toList.all fun f => iM P d f.type
  | some (.array _ e) => iM P d e
  | some _ => true
  | none => true
def bHe (P : Program) (op : BinOp) (t : TypeId) (x y : AV) : Option AV :=
 match x, y with
 | .v (.int k a), .v (.int k' b) => mO op k a k' b
 | .v (.string a), .v (.string b) => aMb op a b
 | .v (.bool a), .v (.bool b) =>
  if bFk P t then
   match op with
   | .eql => some (.v (.bool (a == b)))
   | .neq => some (.v (.bool (a != b)))
   | _ => none
  else none
 | .agg xs, .agg ys =>
  if iM P 8 t then
   match op with
   | .eql => (lS P 8 t (.agg xs) (.agg ys)).map fun b => .v (.bool b)
   | .neq => (lS P 8 t (.agg xs) (.agg ys)).map fun b => .v (.bool (!b))
   | _ => none
  else none
 | _, _ => none
/-- Is a slice nil? -/
def cJ : AV → Option Bool
 | .v (.slice none 0 0) => some true
 | .lst .here _ _ => some false
 | .lst _ _ (_ :: _) => some false
 | _ => none
/-- A slice held against nil. -/
def bDp (P : Program) (op : BinOp) (t : TypeId) (a : AV) (y : Operand) : Option Bool :=
 match y with
 | .const (.slice none 0 0) =>
  match dB P t, op with
  | some _, .eql => cJ a
  | some _, .neq => (cJ a).map (!·)
  | _, _ => none
 | _ => none
def aUb (P : Program) (op : BinOp) (t : TypeId) (a : AV) (y : Operand) (b : AV) : Option AV :=
 match bDp P op t a y with
 | some r => some (.v (.bool r))
 | none => bHe P op t a b
def bTl (op : UnOp) (x : AV) : Option AV :=
 match op, x with
 | .neg, .v (.int k n) => some (.v (.int k (k.wrap (0 - n))))
 | .xor, .v (.int k n) => some (.v (.int k (k.wrap (BitVec.ofInt k.bits (if k.signed then -1 else k.max) ^^^ BitVec.ofInt k.bits n).toNat)))
 | .not, .v (.bool b) => some (.v (.bool (!b)))
 | _, _ => none
/-- The text of a row of bytes. -/
def iI : List AV → Option (List UInt8)
 | [] => some []
 | .v (.int .u8 n) :: rest => (iI rest).map fun l => UInt8.ofNat n.toNat :: l
 | _ => none
def aB0 (P : Program) (m : Mem) (src dst : TypeId) (x : AV) : Option AV :=
 match x with
 | .v (.int _ n) => match P.underlying src, bL9 P dst with
  | some _, some k => some (.v (.int k (k.wrap n)))
  | _, _ => none
 | .v (.string s) => match P.underlying src with
  | some _ => if aYi P dst then some (.v (.string s)) else none
  | none => none
 | .vs r off 1 n _ =>
  match dB P src, m.var r with
  | some e, some cs => if aYi P dst = true ∧ bL9 P e = some .u8 ∧ off + n ≤ cs.length then (iI ((cs.drop off).take n)).map fun l => .v (.string ⟨l.toArray⟩) else none
  | _, _ => none
 | _ => none

/-! ### builtins -/
def mx (a b : Int) : Int := if b > a then b else a
def mn (a b : Int) : Int := if b < a then b else a
def aV (f : Int → Int → Int) (k : IntKind) : Int → List AV → Option AV
 | x, [] => some (.v (.int k x))
 | x, .v (.int k' y) :: rest => if k = k' then aV f k (f x y) rest else none
 | _, _ => none
def aT (f : Int → Int → Int) : List AV → Option AV
 | .v (.int k x) :: rest => aV f k x rest
 | _ => none
def bEw (P : Program) (t : TypeId) (x : AV) : Option AV :=
 match x with
 | .v (.string s) => if aYi P t then some (.v (.int .i64 s.size)) else none
 | .lst _ _ rows => (dB P t).map fun _ => .v (.int .i64 rows.length)
 | .v (.slice none 0 0) => (dB P t).map fun _ => .v (.int .i64 0)
 | .vs _ _ _ n _ => (dB P t).map fun _ => .v (.int .i64 n)
 | _ => (mM P t).map fun (n, _) => .v (.int .i64 n)
/-- A bound of what may be appended: far from any limit. -/
def lim : Nat := 4294967296
def kE (P : Program) (t t2 : TypeId) (m : Mem) (x y : AV) : Option (AV × Mem) :=
 match dB P t with
 | some e =>
  match cA P e, lA P e, zeroCells P e with
  | some k, some b, some z =>
   match tS k x, tS k y with
   | some (g, xs), some (_, ys) =>
    if xs.length + ys.length ≤ lim ∧ b ≤ 4096 ∧ z.length = k ∧ 0 < k ∧ z.all okCell = true ∧ dB P t2 = some e then
     match g with
     | .no => none
     | .here => none
     | .full => some (.lst (.tok m.toks.length 0) k (xs ++ ys), { m with toks := m.toks ++ [0] })
     | .tok id ver => if m.toks[id]? = some ver then some (.lst (.tok id (ver + 1)) k (xs ++ ys), { m with toks := m.toks.set id (ver + 1) }) else none
    else none
   | _, _ => none
  | _, _, _ => none
 | none => none
def vJ (P : Program) (m : Mem) (b : Builtin) (ts : List TypeId) (xs : List AV) : Option (AV × Mem) :=
 match b, ts, xs with
 | .len, [t], [x] => (bEw P t x).map (·, m)
 | .max, _, xs => (aT mx xs).map (·, m)
 | .min, _, xs => (aT mn xs).map (·, m)
 | .append, [t, t2], [x, y] => kE P t t2 m x y
 | _, _, _ => none
end
noncomputable section

/-- What calls come to. -/
abbrev CallF := FuncId → List AV → Mem → Option (AV × Mem)

def aUx (call : CallF) (f : AV) (xs : List AV) (m : Mem) : Option (AV × Mem) :=
 match f with
 | .fn (.func g) first caps => call g ((first ++ xs ++ caps).map lI) m
 | _ => none
def evOp (P : Program) (call : CallF) (e : Env) (m : Mem) (o : Oper) : Option (AV × Mem) :=
 let O (t : TypeId) (x : Operand) : AV := opd P e t x
 match o.op with
 | .move x => some (O o.type x, m)
 | .assign x => some (O o.type x, m)
 | .pick c a b =>
  match O o.type c with
  | .v (.bool t) => some (if t then O o.type a else O o.type b, m)
  | _ => none
 | .alloc t =>
  match zeroCells P t with
  | some z => if z.all okCell = true then (newVar m m.vars.length z).map fun m' => (.ptr m.vars.length 0, m') else none
  | none => none
 | .box t x =>
  match cellsOf (O t x) with
  | some cs => (newVar m m.vars.length cs).map fun m' => (.ptr m.vars.length 0, m')
  | none => none
 | .build t ps => (cN P t (ps.toList.map fun (i, x) => (i, O (pL P t i) x))).map (·, m)
 | .buildSlice t n ps => (bG P t n (ps.toList.map fun (i, x) => (i, O (pL P t i) x))).map (·, m)
 | .load t a => (aL P m t (O t a)).map (·, m)
 | .store t a x => (aR P m t (O t a) (O t x)).map (.v (.tuple #[]), ·)
 | .nilCheck x =>
  match O o.type x with
  | .ptr r off => some (.ptr r off, m)
  | .eptr cs => some (.eptr cs, m)
  | .fn (.func f) first caps => some (.fn (.func f) first caps, m)
  | _ => none
 | .binOp op t x y _ => (aUb P op t (O t x) y (O t y)).map (·, m)
 | .unOp op t x => (bTl op (O t x)).map (·, m)
 | .convert src dst x => (aB0 P m src dst (O src x)).map (·, m)
 | .makeFunc f first caps => some (.fn f (first.toList.map (O o.type)) (caps.toList.map (O o.type)), m)
 | .makeSlice t n c =>
  match gE P t (O o.type n) (O o.type c) with
  | some (cs, sz, n) => (newVar m m.vars.length cs).map fun m' => (.vs m.vars.length 0 sz n n, m')
  | none => none
 | .slice t x lo hi mx => (sT P m t (O t x) (lo.map (O o.type)) (hi.map (O o.type)) (mx.map (O o.type))).map (·, m)
 | .fieldAddr t x i => (aD P t (O t x) i).map (·, m)
 | .field t x i => (aKv P t (O t x) i).map (·, m)
 | .indexAddr t x i => (cI P t (O t x) (O o.type i)).map (·, m)
 | .index t x i => (lZ P t (O t x) (O o.type i)).map (·, m)
 | .extract x i =>
  match O o.type x with
  | .tup cs => (cs[i]?).map (·, m)
  | _ => none
 | .call c =>
  let xs := List.zipWith O c.argTypes.toList c.args.toList
  if c.argTypes.size = c.args.size then
   match c.callee with
   | .builtin b => vJ P m b c.argTypes.toList xs
   | .value f => aUx call (O o.type f) xs m
   | .invoke _ _ => none
  else none
 | _ => none

/-- Is an operation carried out? -/
def wantedAV (ops : Array Oper) (e : Env) (o : Oper) : Option Bool :=
 match o.guard with
 | none => some true
 | some (j, want) =>
  match (ops[j]?).bind (·.dst) with
  | none => some false
  | some d =>
   match get e d with
   | .v (.bool b) => some (b == want)
   | .v (.tuple _) => some false
   | _ => none
/-- How an operation touches memory: not at all; reads; a call; changes. -/
inductive Cls where
 | n | rd | ca | wr
 deriving DecidableEq
def clsOf (P : Program) (o : Oper) : Cls :=
 match o.op with
 | .load _ _ => .rd
 | .convert _ _ _ => .rd
 | .slice t _ _ _ _ => if (mM P t).isSome then .rd else .n
 | .buildSlice _ _ _ => .n
 | .alloc _ => .wr
 | .box _ _ => .wr
 | .makeSlice _ _ _ => .wr
 | .store _ _ _ => .wr
 | .call c =>
  match c.callee with
  | .builtin .append => .wr
  | .builtin _ => .n
  | _ => .ca
 | _ => .n
/-- Calls must leave the memory as it is, where 'pu' holds. -/
def keeps (P : Program) (pu : Bool) (o : Oper) (m : Mem) (x : Option (AV × Mem)) : Option (AV × Mem) :=
 open Classical in
 match x with
 | some (a, m') => if (pu && clsOf P o == .ca) = true → m' = m then some (a, m') else none
 | none => none
def mW (P : Program) (call : CallF) (nt : Nat) (ops : Array Oper) (pu : Bool) : List Oper → Env → Mem → Option (Env × Mem)
 | [], e, m => some (e, m)
 | o :: rest, e, m =>
  match wantedAV ops e o with
  | none => none
  | some true =>
   match keeps P pu o m (evOp P call e m o) with
   | some (a, m') =>
    match putAV nt o.dst a e with
    | some e' => mW P call nt ops pu rest e' m'
    | none => none
   | none => none
  | some false =>
   match putAV nt o.dst (.v (.tuple #[])) e with
   | some e' => mW P call nt ops pu rest e' m
   | none => none

/-! ### regions that draw their order -/
/-- Of each operation, as a row of bits, which ones come ahead of it in every order. -/
def aAx (o : Oper) (acc : List Nat) : Nat :=
 o.after.toList.foldl (fun s e => if Region.binds .any e = true then s ||| (2 ^ e.on ||| acc.getD e.on 0) else s) 0
def masks : List Oper → List Nat → List Nat
 | [], acc => acc
 | o :: r, acc => masks r (acc ++ [aAx o acc])
/-- May two operations that do not wait for each other come in either order? -/
def bE3 (P : Program) (ops : Array Oper) (i j : Oper) : Bool :=
 i.apart ops j && match clsOf P i, clsOf P j with
  | .n, _ => true
  | _, .n => true
  | .rd, .rd => true
  | .rd, .ca => true
  | .ca, .rd => true
  | .ca, .ca => true
  | _, _ => false
/-- Is there a call that may change places with a read, or with a call? -/
def rL (P : Program) (l : List Oper) : Bool :=
 let ms := masks l []
 (List.range l.length).any fun j => (List.range j).any fun i =>
  !(ms.getD j 0).testBit i && clsOf P (l.getD i default) != .n && clsOf P (l.getD j default) != .n && (clsOf P (l.getD i default) == .ca || clsOf P (l.getD j default) == .ca)
def aBo (P : Program) (l : List Oper) : Bool :=
 let ms := masks l []
 (List.range l.length).all fun j =>
  ((l.getD j default).after.all fun e => !Region.binds .any e || decide (e.on < j)) &&
  (List.range j).all fun i =>
   ((l.getD i default).dst.isNone || (l.getD i default).dst != (l.getD j default).dst) &&
   ((ms.getD j 0).testBit i || bE3 P l.toArray (l.getD i default) (l.getD j default))
def aG2 (P : Program) (call : CallF) (nt : Nat) (ops : List Oper) (e : Env) (m : Mem) : Option (Env × Mem) :=
 if aBo P ops = true then mW P call nt ops.toArray (rL P ops) ops e m else none

/-! ### code -/
inductive Ex where
 | normal
 | exit (id : Nat)
 | ret
abbrev Res := Option (Ex × Env × Mem)
def zA (body : Env → Mem → Res) : Nat → Env → Mem → Res
 | 0, _, _ => none
 | n + 1, e, m =>
  match body e m with
  | some (.normal, e', m') => zA body n e' m'
  | x => x
def code (P : Program) (call : CallF) (nt : Nat) (kp : Nat → Option (List Nat)) (n : Nat) : Code → Env → Mem → Res
 | .skip, e, m => some (.normal, e, m)
 | .region id ops draw, e, m =>
  match (if draw then aG2 P call nt ops.toList e m else mW P call nt ops false ops.toList e m) with
  | some (e', m') => some (.normal, restr (kp id) e', m')
  | none => none
 | .seq a b, e, m =>
  match code P call nt kp n a e m with
  | some (.normal, e', m') => code P call nt kp n b e' m'
  | x => x
 | .cond c a b, e, m =>
  match opd P e 0 c with
  | .v (.bool t) => if t then code P call nt kp n a e m else code P call nt kp n b e m
  | _ => none
 | .block id b, e, m =>
  match code P call nt kp n b e m with
  | some (.exit q, e', m') => if q = id then some (.normal, e', m') else some (.exit q, e', m')
  | x => x
 | .loop b, e, m => zA (code P call nt kp n b) n e m
 | .exit id, e, m => some (.exit id, e, m)
 | .ret, e, m => some (.ret, e, m)
 | _, _, _ => none

/-! ### functions -/
def vP (args : List AV) : Env := (List.range args.length).zip args
/-- What leads into the callee's own memory isn't handed back. -/
def tV (cs : List AV) : List (List AV) := cs.map fun c => [c]
/-- A result's cell: its growth is lost. -/
def bEu : AV → Bool
 | .v _ => true
 | .eptr cs => cs.all isV
 | _ => false
def pV (n0 : Nat) : AV → Option AV
 | .v x => some (.v x)
 | .lst _ sz rows => some (.lst .no sz rows)
 | .ptr r off => if r < n0 then some (.ptr r off) else none
 | .fn f first caps => if first.all bEu = true ∧ caps.all bEu = true then some (.fn f first caps) else none
 | _ => none
def fP (n0 : Nat) (m : Mem) : AV → Option AV
 | .agg cs => (cs.mapM (pV n0)).map .agg
 | .vs r off sz n c =>
  if r < n0 then none else
  match m.var r with
  | some cs => if sz = 1 ∧ off = 0 ∧ n = cs.length ∧ c = n then ((cs.mapM gF).map fun cs => .lst .no 1 (tV cs)) else none
  | none => none
 | a => pV n0 a
def dP (P : Program) (e : Env) (m : Mem) : ResultVar → Option AV
 | .tmp t => some (get e t)
 | .cell a t => aL P m t (get e a)
/-- The memory behind a call: the callee's own variables have gone. -/
def bI (m0 m : Mem) : Mem :=
 open Classical in
 if m.vars.take m0.vars.length = m0.vars then { vars := m0.vars, toks := m.toks.take m0.toks.length }
 else { vars := m.vars.take m0.vars.length, toks := m.toks }
/-- A list whose growth is handed on (where 'gr' holds): it holds a token anew. -/
def kJ (gr : Bool) (m0 m : Mem) (a : AV) : Option (AV × Mem) :=
 match gr, a with
 | true, .lst .full sz rows => some (.lst (.tok (bI m0 m).toks.length 0) sz rows, { bI m0 m with toks := (bI m0 m).toks ++ [0] })
 | true, .lst (.tok id ver) sz rows =>
  if m.toks[id]? = some ver ∧ m0.toks.length ≤ id then some (.lst (.tok (bI m0 m).toks.length 0) sz rows, { bI m0 m with toks := (bI m0 m).toks.set id (ver + 1) ++ [0] }) else none
 | true, _ => none
 | false, a => (fP m0.vars.length m a).map (·, bI m0 m)
def dL (P : Program) (gr : Bool) (fn : Func) (m0 : Mem) (e : Env) (m : Mem) : Option (AV × Mem) :=
 match fn.results.toList with
 | [r] => (dP P e m r).bind (kJ gr m0 m)
 | rs => ((rs.mapM (dP P e m)).bind fun vs => vs.mapM (fP m0.vars.length m)).map fun vs => (.tup vs, bI m0 m)

/-- What is told of functions from outside: which slots are kept behind a region; whose result may grow; what some functions come to. -/
structure Ctx where
 kp : FuncId → Nat → Option (List Nat)
 gr : FuncId → Bool
 ext : FuncId → Option (List AV → Mem → Option (AV × Mem))
def aTy (P : Program) (C : Ctx) (call : CallF) (n : Nat) (f : FuncId) (fn : Func) (c : Code) (args : List AV) (m : Mem) : Option (AV × Mem) :=
 if args.length ≤ fn.ntmps ∧ (fn.name == "runtime.NumGoroutine") = false then
  match code P call fn.ntmps (C.kp f) n c (vP args) m with
  | some (.normal, e, m') => dL P (C.gr f) fn m e m'
  | some (.ret, e, m') => dL P (C.gr f) fn m e m'
  | _ => none
 else none
def run (P : Program) (C : Ctx) : Nat → CallF
 | 0, _, _, _ => none
 | n + 1, f, args, m =>
  match C.ext f with
  | some g => g args m
  | none =>
   match P.funcs[f]? with
   | some fn =>
    match fn.body with
    | some c => aTy P C (run P C n) n f fn c args m
    | none => none
   | none => none
end
section

/-- Where things lie: a variable's block; which cells nobody writes any more; a token's free cells. -/
structure Phi where
 vb : Nat → Nat
 im : Nat → Nat → Prop
 tk : Nat → Nat × Nat × Nat

def aAk (φ : Phi) (m : Mem) (g : Grow) (a : Option Addr) (n c sz : Nat) : Prop :=
 match g with
 | .no => True
 | .full => n = c
 | .here => a ≠ none
 | .tok id ver => ∃ v, m.toks[id]? = some v ∧ ver ≤ v ∧ (v = ver → match a with
  | none => n = c
  | some ad => φ.tk id = (ad.block, ad.off + n * sz, ad.off + c * sz))

inductive Rep (φ : Phi) (m : Mem) (w : World) : AV → Value → Prop
 | junk (x : Value) : Rep φ m w .junk x
 | v (x : Value) : Rep φ m w (.v x) x
 | agg (cs : List AV) (arr : Array Value) (hn : arr.size = cs.length) (h : ∀ (i : Nat) a u, cs[i]? = some a → arr[i]? = some u → Rep φ m w a u) : Rep φ m w (.agg cs) (.agg arr)
 | tup (cs : List AV) (arr : Array Value) (hn : arr.size = cs.length) (h : ∀ (i : Nat) a u, cs[i]? = some a → arr[i]? = some u → Rep φ m w a u) : Rep φ m w (.tup cs) (.tuple arr)
 | lst (g : Grow) (sz : Nat) (rows : List (List AV)) (a : Option Addr) (c : Nat) (val : Nat → Nat → Value) (hc : rows.length ≤ c)
   (hr : ∀ (i : Nat) row, rows[i]? = some row → row.length = sz ∧ row.all kD = true) (ha : a = none → c = 0) (hs : ∀ ad, a = some ad → 0 < c → ad.spot = none)
   (hcell : ∀ ad (i : Nat) row (j : Nat) x, a = some ad → rows[i]? = some row → row[j]? = some x →
    φ.im ad.block (ad.off + i * sz + j) ∧ w.cell? ⟨ad.block, ad.off + i * sz + j, none⟩ = some (val i j) ∧ one (val i j) = true)
   (hrep : ∀ (i : Nat) row (j : Nat) x, rows[i]? = some row → row[j]? = some x → Rep φ m w x (val i j))
   (hg : aAk φ m g a rows.length c sz) : Rep φ m w (.lst g sz rows) (.slice a rows.length c)
 | ptr (r off : Nat) (cs : List AV) (h : m.var r = some cs) : Rep φ m w (.ptr r off) (.pointer (some ⟨φ.vb r, off, none⟩))
 | eptr (cs : List AV) (ad : Addr) (val : Nat → Value) (hs : ad.spot = none)
   (hcell : ∀ (j : Nat) x, cs[j]? = some x → φ.im ad.block (ad.off + j) ∧ w.cell? ⟨ad.block, ad.off + j, none⟩ = some (val j))
   (hrep : ∀ (j : Nat) x, cs[j]? = some x → Rep φ m w x (val j)) : Rep φ m w (.eptr cs) (.pointer (some ad))
 | vs (r off sz n c : Nat) (cs : List AV) (h : m.var r = some cs) (hb : off + c * sz ≤ cs.length) (hn : n ≤ c) : Rep φ m w (.vs r off sz n c) (.slice (some ⟨φ.vb r, off, none⟩) n c)
 | fn (f : Fn) (first caps : List AV) (fv cv : Array Value) (h1 : fv.size = first.length) (h2 : cv.size = caps.length)
   (r1 : ∀ (i : Nat) a u, first[i]? = some a → fv[i]? = some u → Rep φ m w a u) (r2 : ∀ (i : Nat) a u, caps[i]? = some a → cv[i]? = some u → Rep φ m w a u) : Rep φ m w (.fn f first caps) (.func f fv cv)

/-- Values one by one. -/
def Reps (φ : Phi) (m : Mem) (w : World) (cs : List AV) (arr : Array Value) : Prop :=
 arr.size = cs.length ∧ ∀ (i : Nat) a u, cs[i]? = some a → arr[i]? = some u → Rep φ m w a u
def cX (φ : Phi) (m : Mem) (w : World) (e : Env) (tmps : Array Value) : Prop := ∀ t, Rep φ m w (get e t) (tmps.getD t undef)

/-- What the abstract memory owns: its variables' blocks, and the blocks that may still grow in place. -/
def Own (φ : Phi) (m : Mem) (b : Nat) : Prop :=
 (∃ r cs, m.var r = some cs ∧ φ.vb r = b) ∨ (∃ id s e, id < m.toks.length ∧ φ.tk id = (b, s, e) ∧ s < e)

structure RM (φ : Phi) (m : Mem) (w : World) : Prop where
 var : ∀ r cs, m.var r = some cs → ∃ arr T, w.heap[φ.vb r]? = some (.cells arr T (0, 0)) ∧ Reps φ m w cs arr ∧ cs.all okCell = true ∧ cs.all (refLe r) = true
 inj : ∀ r r' cs cs', m.var r = some cs → m.var r' = some cs' → φ.vb r = φ.vb r' → r = r'
 vim : ∀ r cs o, m.var r = some cs → ¬ φ.im (φ.vb r) o
 tok : ∀ id b s e, id < m.toks.length → φ.tk id = (b, s, e) → s < e →
  ∃ arr T, w.heap[b]? = some (.cells arr T (0, 0)) ∧ e ≤ arr.size ∧ (∀ o, s ≤ o → o < e → ¬ φ.im b o) ∧ (∀ r cs, m.var r = some cs → φ.vb r ≠ b) ∧ (∀ (o : Nat) u, arr[o]? = some u → one u = true)
 tinj : ∀ id id' b s e s' e', id < m.toks.length → id' < m.toks.length → φ.tk id = (b, s, e) → φ.tk id' = (b, s', e') → s < e → s' < e' → id = id'
 imlt : ∀ b o, φ.im b o → b < w.heap.size

structure Ext (φ : Phi) (m : Mem) (w : World) (φ' : Phi) (m' : Mem) (w' : World) : Prop where
 os : w'.os = w.os
 tape : w'.tape = w.tape
 output : w'.output = w.output
 size : w.heap.size ≤ w'.heap.size
 im : ∀ b o, φ.im b o → φ'.im b o ∧ w'.cell? ⟨b, o, none⟩ = w.cell? ⟨b, o, none⟩
 vb : ∀ r cs, m.var r = some cs → φ'.vb r = φ.vb r ∧ ∃ cs', m'.var r = some cs' ∧ cs'.length = cs.length
 tk : ∀ id v, m.toks[id]? = some v → ∃ v', m'.toks[id]? = some v' ∧ v ≤ v' ∧ (v' = v → φ'.tk id = φ.tk id)
 blk : ∀ b, b < w.heap.size → ¬ Own φ m b → w'.heap[b]? = w.heap[b]?
 own : ∀ b, Own φ' m' b → Own φ m b ∨ w.heap.size ≤ b
 imn : ∀ b o, φ'.im b o → φ.im b o ∨ Own φ m b ∨ w.heap.size ≤ b

theorem Ext.refl (φ : Phi) (m : Mem) (w : World) : Ext φ m w φ m w :=
 ⟨rfl, rfl, rfl, Nat.le_refl _, fun _ _ h => ⟨h, rfl⟩, fun _ cs h => ⟨rfl, cs, h, rfl⟩, fun _ v h => ⟨v, h, Nat.le_refl _, fun _ => rfl⟩, fun _ _ _ => rfl, fun _ h => .inl h, fun _ _ h => .inl h⟩

theorem Ext.trans {φ m w φ₁ m₁ w₁ φ₂ m₂ w₂} (h : Ext φ m w φ₁ m₁ w₁) (k : Ext φ₁ m₁ w₁ φ₂ m₂ w₂) : Ext φ m w φ₂ m₂ w₂ where
 os := k.os.trans h.os
 tape := k.tape.trans h.tape
 output := k.output.trans h.output
 size := Nat.le_trans h.size k.size
 im b o hi := ⟨(k.im b o (h.im b o hi).1).1, (k.im b o (h.im b o hi).1).2.trans (h.im b o hi).2⟩
 vb r cs hv := by
  obtain ⟨e1, cs1, hv1, l1⟩ := h.vb r cs hv
  obtain ⟨e2, cs2, hv2, l2⟩ := k.vb r cs1 hv1
  exact ⟨e2.trans e1, cs2, hv2, l2.trans l1⟩
 tk id v hv := by
  obtain ⟨v1, hv1, le1, e1⟩ := h.tk id v hv
  obtain ⟨v2, hv2, le2, e2⟩ := k.tk id v1 hv1
  refine ⟨v2, hv2, Nat.le_trans le1 le2, fun he => ?_⟩
  have : v1 = v := by omega
  subst this
  exact (e2 he).trans (e1 rfl)
 blk b hb ho := by
  rw [k.blk b (Nat.lt_of_lt_of_le hb h.size) (fun h1 => ?_), h.blk b hb ho]
  rcases h.own b h1 with h2 | h2
  ·exact ho h2
  ·omega
 own b hb := by
  rcases k.own b hb with h1 | h1
  ·exact h.own b h1
  ·exact .inr (Nat.le_trans h.size h1)
 imn b o hb := by
  rcases k.imn b o hb with h1 | h1 | h1
  ·exact h.imn b o h1
  ·exact .inr (h.own b h1)
  ·exact .inr (.inr (Nat.le_trans h.size h1))

theorem aAk.mono {φ m w φ' m' w' g a n c sz} (h : aAk φ m g a n c sz) (hx : Ext φ m w φ' m' w') : aAk φ' m' g a n c sz := by
 cases g with
 | no => exact trivial
 | full => exact h
 | here => exact h
 | tok id ver =>
  obtain ⟨v, hv, hle, hr⟩ := h
  obtain ⟨v', hv', hle', he⟩ := hx.tk id v hv
  refine ⟨v', hv', Nat.le_trans hle hle', fun e => ?_⟩
  have e1 : v' = v := by omega
  have := hr (by omega)
  rw [he e1]
  exact this

theorem Rep.mono {φ m w φ' m' w' a x} (h : Rep φ m w a x) (hx : Ext φ m w φ' m' w') : Rep φ' m' w' a x := by
 induction h with
 | junk x => exact .junk x
 | v x => exact .v x
 | agg cs arr hn _ ih => exact .agg cs arr hn ih
 | tup cs arr hn _ ih => exact .tup cs arr hn ih
 | lst g sz rows a c val hc hr ha hs hcell _ hg ih =>
  refine .lst g sz rows a c val hc hr ha hs (fun ad i row j x e1 e2 e3 => ?_) ih (hg.mono hx)
  obtain ⟨h1, h2, h5⟩ := hcell ad i row j x e1 e2 e3
  obtain ⟨h3, h4⟩ := hx.im _ _ h1
  exact ⟨h3, h4.trans h2, h5⟩
 | ptr r off cs h =>
  obtain ⟨e, cs', h', _⟩ := hx.vb r cs h
  rw [← e]
  exact .ptr r off cs' h'
 | eptr cs ad val hs hcell _ ih =>
  refine .eptr cs ad val hs (fun j x e => ?_) ih
  obtain ⟨h1, h2⟩ := hcell j x e
  obtain ⟨h3, h4⟩ := hx.im _ _ h1
  exact ⟨h3, h4.trans h2⟩
 | vs r off sz n c cs h hb hn =>
  obtain ⟨e, cs', h', hl⟩ := hx.vb r cs h
  rw [← e]
  exact .vs r off sz n c cs' h' (by omega) hn
 | fn f first caps fv cv h1 h2 _ _ ih1 ih2 => exact .fn f first caps fv cv h1 h2 ih1 ih2

theorem Reps.mono {φ m w φ' m' w' cs arr} (h : Reps φ m w cs arr) (hx : Ext φ m w φ' m' w') : Reps φ' m' w' cs arr := ⟨h.1, fun i a u h1 h2 => (h.2 i a u h1 h2).mono hx⟩
theorem cX.mono {φ m w φ' m' w' e tmps} (h : cX φ m w e tmps) (hx : Ext φ m w φ' m' w') : cX φ' m' w' e tmps := fun t => (h t).mono hx

theorem Reps.nil (φ : Phi) (m : Mem) (w : World) : Reps φ m w [] #[] := ⟨rfl, fun i a u h => by simp at h⟩

/-! ### an environment's slots -/
theorem cX.put {φ m w e} {tmps : Array Value} (h : cX φ m w e tmps) {nt : Nat} {dst : Option Tmp} {a : AV} {x : Value} {e' : Env} (hp : putAV nt dst a e = some e')
  (hn : nt ≤ tmps.size) (hr : Rep φ m w a x) (ds : List Deferred) : cX φ m w e' ((⟨tmps, ds⟩ : Act).put dst x).tmps := by
 cases dst with
 | none =>
  simp only [putAV, Option.some.injEq] at hp
  subst hp
  exact h
 | some d =>
  simp only [putAV] at hp
  split at hp
  ·rename_i hd
   simp only [Option.some.injEq] at hp
   subst hp
   intro t
   simp only [get, Act.put]
   by_cases he : d = t
   ·subst he
    rw [if_pos rfl]
    have : (tmps.setIfInBounds d x).getD d undef = x := by simp [Array.getD, Nat.lt_of_lt_of_le hd hn]
    rw [this]
    exact hr
   ·rw [if_neg he]
    have : (tmps.setIfInBounds d x).getD t undef = tmps.getD t undef := by
     simp only [Array.getD_eq_getD_getElem?, Array.getElem?_setIfInBounds_ne he]
    rw [this]
    exact h t
  ·exact absurd hp (by simp)
theorem gG (a : Act) (dst : Option Tmp) (x : Value) : (a.put dst x).tmps.size = a.tmps.size := by
 cases dst <;> simp [Act.put]
theorem nR {l : List Nat} {e : Env} (t : Nat) : get (l.map fun s => (s, get e s)) t = if t ∈ l then get e t else .junk := by
 induction l with
 | nil => simp [get]
 | cons s l ih =>
  simp only [List.map_cons, get, ih, List.mem_cons]
  by_cases he : s = t
  ·subst he; simp
  ·simp [he, Ne.symm he]
theorem cX.restr {φ m w e tmps} (h : cX φ m w e tmps) (l : Option (List Nat)) : cX φ m w (restr l e) tmps := by
 cases l with
 | none => exact h
 | some l =>
  intro t
  simp only [Ev.restr, nR]
  split
  ·exact h t
  ·exact .junk _
end
section
section
variable {P : Program} {φ : Phi} {m : Mem} {w : World}

theorem bL {t : TypeId} {k : Nat} (h : cA P t = some k) (w : World) : (sizeOf t).run P w = .ok k w := by
 unfold cA at h
 cases hi : P.info? t with
 | none => simp [hi] at h
 | some i => simp [hi] at h; simp [sizeOf, typeInfo, hi, h]
theorem aN {t : TypeId} {d : TypeDesc} (h : P.underlying t = some d) (w : World) : (underlying t).run P w = .ok d w := by
 simp [underlying, h]
theorem nN {t : TypeId} {b : Bool} (h : oP P t = some b) (w : World) : (isAgg t).run P w = .ok b w := by
 unfold oP at h
 cases hu : P.underlying t with
 | none => simp [hu] at h
 | some d =>
  simp only [isAgg, Sem.run_bind, aN hu, Result.andThen_ok]
  cases d <;> simp [hu] at h <;> subst h <;> rfl
theorem bH {t e : TypeId} (h : dB P t = some e) : P.underlying t = some (.slice e) := by
 unfold dB at h
 split at h
 ·rename_i e' hu; simp only [Option.some.injEq] at h; subst h; exact hu
 ·cases h
theorem uU {t : TypeId} {n : Nat} {e : TypeId} (h : mM P t = some (n, e)) : P.underlying t = some (.array n e) := by
 unfold mM at h
 split at h
 ·rename_i n' e' hu; simp only [Option.some.injEq, Prod.mk.injEq] at h; obtain ⟨rfl, rfl⟩ := h; exact hu
 ·cases h
theorem uE {t : TypeId} (h : aYi P t = true) : P.underlying t = some .string := by
 unfold aYi at h
 split at h
 ·assumption
 ·cases h
theorem bCi {t : TypeId} (h : bFk P t = true) : P.underlying t = some .bool := by
 unfold bFk at h
 split at h
 ·assumption
 ·cases h
theorem aSt {t : TypeId} {k : IntKind} (h : bL9 P t = some k) : P.underlying t = some (.int k) := by
 unfold bL9 at h
 split at h
 ·rename_i k' hu; simp only [Option.some.injEq] at h; subst h; exact hu
 ·cases h

/-! ### operands -/
theorem aCs (t : TypeId) (x : Value) : Rep φ m w (uJ P t x) x := by
 unfold uJ
 split
 ·split
  ·exact .lst .full _ [] none 0 (fun _ _ => undef) (Nat.le_refl _) (fun i row h => by simp at h) (fun _ => rfl) (fun ad h _ => by cases h) (fun ad i row j x h => by cases h) (fun i row j x h => by simp at h) rfl
  ·exact .v _
 ·exact .v _
theorem yB (t : TypeId) (vs : List Value) : (qY P t vs).length = vs.length ∧ ∀ (i : Nat) a u, (qY P t vs)[i]? = some a → vs[i]? = some u → Rep φ m w a u := by
 have plain : (vs.map AV.v).length = vs.length ∧ ∀ (i : Nat) a u, (vs.map AV.v)[i]? = some a → vs[i]? = some u → Rep φ m w a u := by
  refine ⟨by simp, fun i a u h1 h2 => ?_⟩
  simp [h2] at h1
  subst h1
  exact .v _
 unfold qY
 split
 ·split
  ·rename_i ts _ hl
   refine ⟨by simp [hl], fun i a u h1 h2 => ?_⟩
   rw [List.getElem?_zipWith] at h1
   split at h1
   ·rename_i t' u' e1 e2
    rw [h2] at e2
    simp only [Option.some.injEq] at h1 e2
    subst e2; subst h1
    exact aCs _ _
   ·cases h1
  ·exact plain
 ·exact plain
theorem aZw (t : TypeId) (x : Value) : Rep φ m w (aKl P t x) x := by
 unfold aKl
 split
 ·rename_i cs
  obtain ⟨h1, h2⟩ := yB (P := P) (φ := φ) (m := m) (w := w) t cs.toList
  exact .agg _ _ (by simp [h1]) (fun i a u e1 e2 => h2 i a u e1 (by simpa using e2))
 ·exact aCs _ _
theorem fU {e : Env} {a : Act} (h : cX φ m w e a.tmps) (t : TypeId) (x : Operand) : Rep φ m w (opd P e t x) (a.eval x) := by
 cases x with
 | tmp s => exact h s
 | const v => exact aZw t v
 | func f => exact .fn _ _ _ _ _ rfl rfl (fun i a u h => by simp at h) (fun i a u h => by simp at h)
 | global g => exact .junk _
theorem mC {t : TypeId} {z : List AV} (h : zeroCells P t = some z) : ∃ v, (zeroValue t).run P w = .ok v w ∧ Reps φ m w z v.cells := by
 unfold zeroCells at h
 cases hi : P.info? t with
 | none => simp [hi] at h
 | some i =>
  simp only [hi] at h
  cases hz : i.zero with
  | none => simp [hz] at h
  | some v =>
   simp only [hz, Option.map_some, Option.some.injEq] at h
   subst h
   refine ⟨v, by simp [zeroValue, typeInfo, hi, hz], ?_⟩
   obtain ⟨h1, h2⟩ := yB (P := P) (φ := φ) (m := m) (w := w) t v.cells.toList
   exact ⟨by simp [h1], fun i a u e1 e2 => h2 i a u e1 (by simpa using e2)⟩

/-! ### loads -/
/-- These cells lie from an address on. -/
def aKz (φ : Phi) (m : Mem) (w : World) (cs : List AV) (ad : Addr) : Prop :=
 ad.spot = none ∧ ∃ val : Nat → Value, ∀ (j : Nat) x, cs[j]? = some x → w.cell? ⟨ad.block, ad.off + j, none⟩ = some (val j) ∧ Rep φ m w x (val j)
theorem aI8 (hR : RM φ m w) {r : Nat} {cs : List AV} (h : m.var r = some cs) (off : Nat) : aKz φ m w (cs.drop off) ⟨φ.vb r, off, none⟩ := by
 obtain ⟨arr, T, hb, ⟨hn, hr⟩, _⟩ := hR.var r cs h
 refine ⟨rfl, fun j => arr.getD (off + j) undef, fun j x hx => ?_⟩
 rw [List.getElem?_drop] at hx
 have hlt : off + j < arr.size := by rw [hn]; exact (List.getElem?_eq_some_iff.1 hx).1
 have e : arr[off + j]? = some (arr.getD (off + j) undef) := by simp [Array.getD, hlt]
 exact ⟨by simp only [World.cell?, hb]; exact e, hr _ _ _ hx e⟩
theorem aLz {p : AV} {pv : Value} (hR : RM φ m w) (h : Rep φ m w p pv) {cs : List AV}
  (hp : mG m p = some cs) :
  ∃ ad, pv = .pointer (some ad) ∧ aKz φ m w cs ad := by
 unfold mG at hp
 cases h with
 | ptr r off cs' h =>
  simp only [h, Option.map_some, Option.some.injEq] at hp
  subst hp
  exact ⟨_, rfl, aI8 hR h off⟩
 | eptr cs' ad val hs hcell hrep =>
  simp only [Option.some.injEq] at hp
  subst hp
  exact ⟨ad, rfl, hs, val, fun j x hx => ⟨(hcell j x hx).2, hrep j x hx⟩⟩
 | _ => simp at hp
theorem eU {ad : Addr} (h : ad.spot = none) (n : Nat) : ad.add n = ⟨ad.block, ad.off + n, none⟩ := by
 unfold Addr.add
 split
 ·rename_i h0; subst h0; cases ad; simp_all
 ·rfl
theorem aC1 {cs : List AV} {ad : Addr} (h : aKz φ m w cs ad) {k : Nat} (hk : k ≤ cs.length) :
  ∃ arr, (loadCells ad k).run P w = .ok arr w ∧ Reps φ m w (cs.take k) arr := by
 obtain ⟨hs, val, hv⟩ := h
 refine ⟨((List.range k).map val).toArray, ?_, ?_⟩
 ·exact run_loadCells (P := P) w ad k val (fun j hj => by
   rw [eU hs]
   exact (hv j (cs[j]'(by omega)) (by simp [List.getElem?_eq_getElem (show j < cs.length by omega)])).1)
 ·refine ⟨by simp; omega, fun i a u h1 h2 => ?_⟩
  rw [List.getElem?_take] at h1
  split at h1
  ·rename_i hi
   simp [hi] at h2
   subst h2
   exact (hv i a h1).2
  ·cases h1
theorem aMc (hR : RM φ m w) {t : TypeId} {p a : AV} {pv : Value} (hp : Rep φ m w p pv) (h : aL P m t p = some a) :
  ∃ x, (Instr.loadAt t pv).run P w = .ok x w ∧ Rep φ m w a x := by
 unfold aL at h
 split at h
 ·rename_i cs k hcs hagg hsz
  obtain ⟨ad, rfl, hc⟩ := aLz hR hp hcs
  split at h
  ·rename_i hk
   simp only [Option.some.injEq] at h
   subst h
   obtain ⟨arr, hrun, hreps⟩ := aC1 (P := P) hc hk
   exact ⟨.agg arr, by simp [Instr.loadAt, Instr.sureAddr, loadVar, nN hagg, bL hsz, hrun], .agg _ _ hreps.1 hreps.2⟩
  ·cases h
 ·rename_i cs k hcs hagg hsz
  obtain ⟨ad, rfl, hc⟩ := aLz hR hp hcs
  obtain ⟨hs, val, hv⟩ := hc
  have h0 : cs[0]? = some a := by rw [← List.head?_eq_getElem?]; exact h
  obtain ⟨h1, h2⟩ := hv 0 a h0
  have e : ad = ⟨ad.block, ad.off + 0, none⟩ := by cases ad; simp_all
  rw [← e] at h1
  exact ⟨val 0, by simp [Instr.loadAt, Instr.sureAddr, loadVar, nN hagg, h1], h2⟩
 ·cases h

/-! ### parts -/
theorem nY {t : TypeId} {cs : List AV} {arr : Array Value} (hr : Reps φ m w cs arr) {off : Nat} {a : AV} (h : mK P t cs off = some a) :
  ∃ x, (part t arr off).run P w = .ok x w ∧ Rep φ m w a x := by
 unfold mK at h
 split at h
 ·rename_i k hagg hsz
  split at h
  ·rename_i hk
   simp only [Option.some.injEq] at h
   subst h
   refine ⟨_, by simp [part, nN hagg, bL hsz]; rfl, .agg _ _ (by have := hr.1; simp; omega) (fun i a u h1 h2 => ?_)⟩
   rw [List.getElem?_take] at h1
   split at h1
   ·rw [List.getElem?_drop] at h1
    rw [Array.getElem?_extract] at h2
    split at h2
    ·exact hr.2 _ _ _ h1 h2
    ·cases h2
   ·cases h1
  ·cases h
 ·rename_i k hagg hsz
  have hlt : off < arr.size := by rw [hr.1]; exact (List.getElem?_eq_some_iff.1 h).1
  have e : arr[off]? = some arr[off] := by simp [hlt]
  exact ⟨arr[off], by simp [part, nN hagg, e], hr.2 _ _ _ h e⟩
 ·cases h
theorem aY6 {t : TypeId} {x a : AV} {xv : Value} {i : Nat} (hx : Rep φ m w x xv) (h : aKv P t x i = some a) :
  ∃ y, (Instr.field t xv i).run P w = .ok y w ∧ Rep φ m w a y := by
 unfold aKv at h
 split at h
 ·rename_i off ft cs hf
  cases hx with
  | agg _ arr hn hr =>
   unfold aMz at hf
   cases hu : P.underlying t with
   | none => simp [hu] at hf
   | some d =>
    cases d <;> simp [hu] at hf
    rename_i fs
    obtain ⟨f, hf, rfl, rfl⟩ := hf
    obtain ⟨y, hy, hr⟩ := nY (P := P) ⟨hn, hr⟩ h
    exact ⟨y, by simp [Instr.field, aN hu, hf, asAgg, hy], hr⟩
 ·cases h
theorem aKd {t : TypeId} {x a : AV} {xv : Value} {i : Nat} (hx : Rep φ m w x xv) (h : aD P t x i = some a) :
  ∃ y, (Instr.fieldAt t xv i).run P w = .ok y w ∧ Rep φ m w a y := by
 unfold aD at h
 split at h
 ·rename_i off ft hf
  split at h
  ·rename_i k hsz
   unfold aMz at hf
   cases hu : P.underlying t with
   | none => simp [hu] at hf
   | some d =>
    cases d <;> simp [hu] at hf
    rename_i fs
    obtain ⟨f, hf, rfl, rfl⟩ := hf
    have hplace : ∀ ad : Addr, (fieldPlace ad f).run P w = .ok (ad.add f.offset) w := fun ad => by simp [fieldPlace, bL hsz]
    cases hx with
    | ptr r o cs hv =>
     simp only at h
     have key : ∀ b : AV, b = (if f.offset = 0 then AV.ptr r o else .ptr r (o + f.offset)) → Rep φ m w b (.pointer (some ((⟨φ.vb r, o, none⟩ : Addr).add f.offset))) := by
      intro b hb
      rw [eU rfl]
      split at hb
      ·rename_i h0; subst hb; rw [h0]; exact .ptr r o cs hv
      ·subst hb; exact .ptr r _ cs hv
     refine ⟨_, by simp [Instr.fieldAt, aN hu, hf, Instr.sureAddr, hplace]; rfl, ?_⟩
     refine key a ?_
     split at h <;> simp_all
    | eptr cs ad val hs hcell hrep =>
     simp only at h
     split at h
     ·simp only [Option.some.injEq] at h
      subst h
      refine ⟨_, by simp [Instr.fieldAt, aN hu, hf, Instr.sureAddr, hplace]; rfl, ?_⟩
      rw [eU hs]
      refine .eptr _ _ (fun j => val (f.offset + j)) rfl (fun j x hx => ?_) (fun j x hx => ?_)
      ·rw [List.getElem?_drop] at hx
       have := hcell _ _ hx
       simpa [Nat.add_assoc] using this
      ·rw [List.getElem?_drop] at hx
       exact hrep _ _ hx
     ·cases h
    | _ => simp at h
  ·cases h
 ·cases h
theorem bAm {t : TypeId} {x i a : AV} {xv iv : Value} (hx : Rep φ m w x xv) (hi : Rep φ m w i iv) (h : lZ P t x i = some a) :
  ∃ y, (Instr.index t xv iv).run P w = .ok y w ∧ Rep φ m w a y := by
 unfold lZ at h
 split at h
 ·rename_i k n
  cases hi
  split at h
  ·rename_i s
   cases hx
   split at h
   ·rename_i hc
    obtain ⟨hs, h0, h1⟩ := hc
    simp only [Option.some.injEq] at h
    subst h
    have hlt : n.toNat < s.size := by omega
    refine ⟨.int .u8 (s.get! n.toNat).toNat, ?_, .v _⟩
    have e : s[n.toNat]? = some (s.get! n.toNat) := by
     rw [getElem?_pos s n.toNat hlt]
     congr 1
     simp only [ByteArray.get!, getElem!_def]
     have : s.data[n.toNat]? = some s[n.toNat] := by simp [ByteArray.getElem_eq_getElem_data, hlt]
     rw [this]
    simp [Instr.index, asIntOf, aN (uE hs), h0, e]
   ·cases h
  ·rename_i cs
   cases hx with
   | agg _ arr hn hr =>
    split at h
    ·rename_i len e ha
     split at h
     ·rename_i sz hsz
      split at h
      ·rename_i hc
       obtain ⟨y, hy, hr⟩ := nY (P := P) ⟨hn, hr⟩ h
       exact ⟨y, by simp [Instr.index, asIntOf, aN (uU ha), hc, bL hsz, hy], hr⟩
      ·cases h
     ·cases h
    ·cases h
  ·cases h
 ·cases h
theorem aKe {t : TypeId} {x i a : AV} {xv iv : Value} (hx : Rep φ m w x xv) (hi : Rep φ m w i iv) (h : cI P t x i = some a) :
  ∃ y, (Instr.indexAt t xv iv).run P w = .ok y w ∧ Rep φ m w a y := by
 unfold cI at h
 split at h
 ·rename_i k n
  cases hi
  split at h
  ·rename_i len e ha
   split at h
   ·rename_i r off sz hsz
    split at h
    ·rename_i hc
     cases hx with
     | ptr _ _ cs hv =>
      refine ⟨_, by simp [Instr.indexAt, asIntOf, aN (uU ha), Instr.sureAddr, hc, bL hsz]; rfl, ?_⟩
      rw [eU rfl]
      split at h
      ·rename_i h0; simp only [Option.some.injEq] at h; subst h; rw [h0]; exact .ptr r off cs hv
      ·simp only [Option.some.injEq] at h; subst h; exact .ptr r _ cs hv
    ·cases h
   ·cases h
  ·rename_i hna
   split at h
   ·rename_i e he
    split at h
    ·rename_i sz g rows hsz
     split at h
     ·rename_i hc
      obtain ⟨rfl, h0, h1⟩ := hc
      cases hx with
      | lst _ _ _ ad c val hlen hr han hs hcell hrep hg =>
       have hlt : n.toNat < rows.length := by omega
       rw [List.getElem?_eq_getElem hlt] at h
       simp only [Option.map_some, Option.some.injEq] at h
       subst h
       cases ad with
       | none => have := han rfl; omega
       | some ad =>
        refine ⟨_, by simp [Instr.indexAt, asIntOf, aN (bH he), h0, h1, bL hsz]; rfl, ?_⟩
        rw [eU (hs ad rfl (by omega))]
        refine .eptr _ _ (val n.toNat) rfl (fun j x hx => ?_) (fun j x hx => hrep n.toNat _ j x (List.getElem?_eq_getElem hlt) hx)
        have := hcell ad n.toNat _ j x rfl (List.getElem?_eq_getElem hlt) hx
        exact ⟨this.1, this.2.1⟩
     ·cases h
    ·rename_i sz r off n' c' hsz
     split at h
     ·rename_i hc
      obtain ⟨rfl, h0, h1⟩ := hc
      cases hx with
      | vs _ _ _ _ _ cs hv hb hn =>
       simp only [Option.some.injEq] at h
       subst h
       refine ⟨_, by simp [Instr.indexAt, asIntOf, aN (bH he), h0, h1, bL hsz]; rfl, ?_⟩
       rw [eU rfl]
       exact .ptr _ _ cs hv
     ·cases h
    ·cases h
   ·cases h
 ·cases h
end
end
section
section
variable {P : Program} {φ : Phi} {m : Mem} {w : World}

/-! ### cuts -/
def aDv (φ : Phi) (m : Mem) (w : World) (x : Option AV) (v : Option Value) : Prop :=
 (x = none ∧ v = none) ∨ ∃ a u, x = some a ∧ v = some u ∧ Rep φ m w a u
theorem aSu {x : Option AV} {xv : Option Value} (hx : aDv φ m w x xv) {d l : Nat} (h : fH x d = some l) :
  (x = none ∧ xv = none ∧ l = d) ∨ ∃ k i, xv = some (.int k i) ∧ 0 ≤ i ∧ l = i.toNat := by
 rcases hx with ⟨rfl, rfl⟩ | ⟨a, u, rfl, rfl, hr⟩
 ·simp only [fH, Option.some.injEq] at h
  exact .inl ⟨rfl, rfl, h.symm⟩
 ·unfold fH at h
  split at h
  ·rename_i e; cases e
  ·rename_i k i e
   simp only [Option.some.injEq] at e
   subst e
   cases hr
   split at h
   ·rename_i h0
    simp only [Option.some.injEq] at h
    exact .inr ⟨_, _, rfl, h0, h.symm⟩
   ·cases h
  ·cases h

theorem nZ {lo hi : Option AV} {lov hiv : Option Value} (hlo : aDv φ m w lo lov) (hhi : aDv φ m w hi hiv) {len cap l h : Nat} {b : Bool}
  (el : fH lo 0 = some l) (eh : fH hi len = some h) (h1 : l ≤ h) (h2 : h ≤ cap) (h3 : hi = none → len ≤ cap) :
  (Instr.sliceBounds b len cap lov hiv none).run P w = .ok (l, h, cap) w := by
 rcases aSu hlo el with ⟨rfl, rfl, rfl⟩ | ⟨k, i, rfl, i0, rfl⟩ <;> rcases aSu hhi eh with ⟨rfl, rfl, rfl⟩ | ⟨k', i', rfl, i0', rfl⟩
 ·simp [Instr.sliceBounds]
 ·have : i' ≤ (cap : Int) := by omega
  simp [Instr.sliceBounds, Instr.sliceBound, asIntOf, i0', this]
 ·have : i ≤ (h : Int) := by omega
  simp [Instr.sliceBounds, Instr.sliceBound, asIntOf, i0, this]
 ·have : i' ≤ (cap : Int) := by omega
  have : i ≤ i' := by omega
  have e : max i' 0 = i' := by omega
  simp [Instr.sliceBounds, Instr.sliceBound, asIntOf, i0, i0', this, ‹i' ≤ (cap : Int)›, e]
theorem bAh (hR : RM φ m w) {t : TypeId} {x a : AV} {xv : Value} {lo hi mx : Option AV} {lov hiv mxv : Option Value} (hx : Rep φ m w x xv)
  (hlo : aDv φ m w lo lov) (hhi : aDv φ m w hi hiv) (hmx : aDv φ m w mx mxv) (h : sT P m t x lo hi mx = some a) :
  ∃ y, (Instr.sliceAt t xv lov hiv mxv).run P w = .ok y w ∧ Rep φ m w a y := by
 have hmn : mx = none → mxv = none := fun e => by
  rcases hmx with ⟨_, e2⟩ | ⟨a, u, e1, _, _⟩
  ·exact e2
  ·rw [e] at e1; cases e1
 unfold sT at h
 split at h
 ·rename_i s
  cases hx
  split at h
  ·rename_i l hh el eh
   obtain rfl := hmn rfl
   split at h
   ·rename_i hc
    obtain ⟨hs, c1, c2⟩ := hc
    simp only [Option.some.injEq] at h
    subst h
    exact ⟨_, by simp [Instr.sliceAt, Instr.slice, aN (uE hs), nZ hlo hhi el eh c1 c2 (fun _ => Nat.le_refl _)], .v _⟩
   ·cases h
  ·cases h
 ·rename_i g sz rows
  split at h
  ·rename_i e he
   split at h
   ·rename_i k l hh hsz el eh
    obtain rfl := hmn rfl
    split at h
    ·rename_i hc
     obtain ⟨rfl, c1, c2⟩ := hc
     simp only [Option.some.injEq] at h
     subst h
     cases hx with
     | lst _ _ _ ad c val hlen hr han hs hcell hrep hg =>
      have hb := nZ (P := P) (b := true) hlo hhi el eh c1 (Nat.le_trans c2 hlen) (fun _ => hlen)
      refine ⟨.slice (if c = l then ad else ad.map (·.add (l * sz))) (hh - l) (c - l), by simp [Instr.sliceAt, Instr.slice, aN (bH he), hb, bL hsz], ?_⟩
      have elen : ((rows.take hh).drop l).length = hh - l := by simp; omega
      have get' : ∀ (i : Nat) row, ((rows.take hh).drop l)[i]? = some row → rows[l + i]? = some row := fun i row hi => by
       rw [List.getElem?_drop, List.getElem?_take] at hi
       split at hi
       ·exact hi
       ·cases hi
      rw [← elen]
      refine .lst .no sz _ _ _ (fun i j => val (l + i) j) (by rw [elen]; omega) (fun i row hi => hr _ _ (get' i row hi)) (fun e1 => ?_) (fun ad' e1 hpos => ?_) (fun ad' i row j x e1 e2 e3 => ?_) (fun i row j x e2 e3 => hrep _ _ _ _ (get' i row e2) e3) trivial
      ·split at e1
       ·omega
       ·cases ad with
        | none => have := han rfl; omega
        | some ad => cases e1
      ·split at e1
       ·exact hs ad' e1 (by omega)
       ·cases ad with
        | none => cases e1
        | some ad0 =>
         simp only [Option.map_some, Option.some.injEq] at e1
         subst e1
         rw [eU (hs ad0 rfl (by omega))]
      ·have e4 := get' i row e2
       have hlt : i < hh - l := by rw [← elen]; exact (List.getElem?_eq_some_iff.1 e2).1
       rw [if_neg (by omega)] at e1
       cases ad with
       | none => cases e1
       | some ad0 =>
        simp only [Option.map_some, Option.some.injEq] at e1
        subst e1
        rw [eU (hs ad0 rfl (by omega))]
        have := hcell ad0 (l + i) row j x rfl e4 e3
        simpa [Nat.add_mul, Nat.add_assoc] using this
    ·cases h
   ·cases h
  ·cases h
 ·rename_i r off
  split at h
  ·rename_i n e ha
   obtain rfl := hmn rfl
   split at h
   ·rename_i k l hh cs hsz el eh hv
    split at h
    ·rename_i hc
     obtain ⟨rfl, c2, c3⟩ := hc
     simp only [Option.some.injEq] at h
     subst h
     cases hx with
     | ptr _ _ cs' hv' =>
      have hb := nZ (P := P) (b := false) hlo hhi el eh (Nat.zero_le _) c2 (fun _ => Nat.le_refl _)
      refine ⟨.slice (some ⟨φ.vb r, off, none⟩) hh n, ?_, .vs r off k hh n cs hv c3 c2⟩
      have e0 : (⟨φ.vb r, off, none⟩ : Addr).add 0 = ⟨φ.vb r, off, none⟩ := rfl
      simp [Instr.sliceAt, aN (uU ha), Instr.sureAddr, hb, bL hsz, e0]
    ·split at h
     ·rename_i hc
      obtain ⟨c0, c1, c2, c3⟩ := hc
      simp only [Option.some.injEq] at h
      subst h
      cases hx with
      | ptr _ _ cs' hv' =>
       have hb := nZ (P := P) (b := false) hlo hhi el eh c1 c2 (fun _ => Nat.le_refl _)
       have hle : off + l * k + (n - l) * k ≤ cs.length := by
        have e : l * k + (n - l) * k = n * k := by rw [← Nat.add_mul, Nat.add_sub_cancel' (Nat.le_of_lt c0)]
        omega
       refine ⟨.slice (some ⟨φ.vb r, off + l * k, none⟩) (hh - l) (n - l), ?_, .vs r (off + l * k) k (hh - l) (n - l) cs hv hle (by omega)⟩
       have e0 : (⟨φ.vb r, off, none⟩ : Addr).add (l * k) = ⟨φ.vb r, off + l * k, none⟩ := eU (ad := ⟨φ.vb r, off, none⟩) rfl _
       have e1 : ¬ n = l := by omega
       simp [Instr.sliceAt, aN (uU ha), Instr.sureAddr, hb, bL hsz, e0, e1]
     ·cases h
   ·cases h
  ·cases h
 ·cases h

/-! ### lengths -/
theorem bHm {t : TypeId} {x a : AV} {xv : Value} (ty : TypeId) (hx : Rep φ m w x xv) (h : bEw P t x = some a) :
  ∃ y, (Builtin.len_ #[t] ty #[xv]).run P w = .ok y w ∧ Rep φ m w a y := by
 have arr : ∀ a, ((mM P t).map fun (n, _) => AV.v (.int .i64 n)) = some a → ∃ y, (Builtin.len_ #[t] ty #[xv]).run P w = .ok y w ∧ Rep φ m w a y := by
  intro a h
  cases ha : mM P t with
  | none => simp [ha] at h
  | some p =>
   obtain ⟨n, e⟩ := p
   simp only [ha, Option.map_some, Option.some.injEq] at h
   subst h
   exact ⟨_, by simp [Builtin.len_, aN (uU ha), goInt], .v _⟩
 have sl : ∀ (n : Nat) c (ad : Option Addr), xv = .slice ad n c → ∀ a, ((dB P t).map fun _ => AV.v (.int .i64 n)) = some a → ∃ y, (Builtin.len_ #[t] ty #[xv]).run P w = .ok y w ∧ Rep φ m w a y := by
  intro n c ad hxv a h
  cases he : dB P t with
  | none => simp [he] at h
  | some e =>
   simp only [he, Option.map_some, Option.some.injEq] at h
   subst h
   subst hxv
   exact ⟨_, by simp [Builtin.len_, aN (bH he), goInt], .v _⟩
 unfold bEw at h
 split at h
 ·cases hx
  split at h
  ·rename_i hs
   simp only [Option.some.injEq] at h
   subst h
   exact ⟨_, by simp [Builtin.len_, aN (uE hs), goInt], .v _⟩
  ·cases h
 ·cases hx with
  | lst => exact sl _ _ _ rfl _ h
 ·cases hx
  exact sl 0 0 none rfl _ h
 ·cases hx with
  | vs => exact sl _ _ _ rfl _ h
 ·exact arr _ h

/-! ### arithmetic -/
theorem bAj {op : BinOp} {k k' : IntKind} {a b : Int} {r : AV} (t : TypeId) (h : mO op k a k' b = some r) :
  ∃ y, (binOp op t (.int k a) (.int k' b)).run P w = .ok y w ∧ Rep φ m w r y := by
 unfold mO at h
 split at h <;> (split at h <;> (first | (simp only [Option.some.injEq] at h; subst h) | cases h)) <;>
  first
  | (rename_i hk; subst hk; exact ⟨_, by simp [binOp, Op.intArith, Op.intBits, Op.intCmp], .v _⟩)
  | (rename_i hk; obtain ⟨rfl, hb⟩ := hk; exact ⟨_, by simp [binOp, Op.intDiv, hb], .v _⟩)
  | (rename_i hk; exact ⟨_, by simp [binOp, Op.shift, hk], .v _⟩)
theorem aXh {op : BinOp} {a b : ByteArray} {r : AV} (t : TypeId) (h : aMb op a b = some r) :
  ∃ y, (binOp op t (.string a) (.string b)).run P w = .ok y w ∧ Rep φ m w r y := by
 unfold aMb at h
 split at h
 ·split at h
  ·rename_i hs
   simp only [Option.some.injEq] at h
   subst h
   refine ⟨_, ?_, .v _⟩
   have : ¬ (((a.size + b.size : Nat) : Int) > IntKind.i64.max) := by
    show ¬ (((a.size + b.size : Nat) : Int) > 9223372036854775807)
    omega
   simp only [binOp, Op.stringOp]
   rw [if_neg this]
   rfl
  ·cases h
 ·simp only [Option.some.injEq] at h
  subst h
  exact ⟨_, by simp only [binOp, Op.stringOp]; rw [← beq_toListBytes]; rfl, .v _⟩
 ·simp only [Option.some.injEq] at h
  subst h
  refine ⟨_, ?_, .v _⟩
  simp only [binOp, Op.stringOp]
  rw [← beq_toListBytes]
  rfl
 ·cases h

/-! ### comparisons of structs -/
theorem yU {N d : Nat} (ih : ∀ t x y b xv yv, lS P d t x y = some b → Rep φ m w x xv → Rep φ m w y yv → (Op.equalIn (d + N) t xv yv).run P w = .ok b w)
  {xs ys : List AV} {xa ya : Array Value} (hx : Reps φ m w xs xa) (hy : Reps φ m w ys ya) :
  ∀ (fs : List Field) b, rE P (lS P d) xs ys fs = some b → (Op.eqFields (d + N) xa ya fs).run P w = .ok b w
 | [], b, h => by simp only [rE, Option.some.injEq] at h; subst h; rfl
 | f :: r, b, h => by
  simp only [rE] at h
  split at h
  ·cases h
  ·rename_i hn
   split at h
   ·rename_i p q hp hq
    split at h
    ·rename_i b1 b2 e1 e2
     simp only [Option.some.injEq] at h
     subst h
     obtain ⟨pv, hpr, rp⟩ := nY (P := P) hx hp
     obtain ⟨qv, hqr, rq⟩ := nY (P := P) hy hq
     have h1 := ih _ _ _ _ _ _ e1 rp rq
     have h2 := yU ih hx hy r b2 e2
     simp only [Op.eqFields]
     rw [if_pos hn]
     simp only [Sem.run_bind, hpr, hqr, h1, Result.andThen_ok]
     cases b1
     ·simp
     ·simp [h2]
    ·cases h
   ·cases h
theorem aCi {N d : Nat} (ih : ∀ t x y b xv yv, lS P d t x y = some b → Rep φ m w x xv → Rep φ m w y yv → (Op.equalIn (d + N) t xv yv).run P w = .ok b w)
  {xs ys : List AV} {xa ya : Array Value} (hx : Reps φ m w xs xa) (hy : Reps φ m w ys ya) {e : TypeId} {k : Nat} :
  ∀ (l : List Nat) b, vQ P (lS P d) e k xs ys l = some b →
   ∃ o : Option Bool, (forIn (m := Sem) l ((none, ()) : Option Bool × Unit) fun i _ => do
    if (!(← Op.equalIn (d + N) e (← part e xa (i * k)) (← part e ya (i * k)))) = true then pure (.done (some false, ())) else pure (.yield (none, ()))).run P w = .ok (o, ()) w ∧ (o = if b then none else some false)
 | [], b, h => by simp only [vQ, Option.some.injEq] at h; subst h; exact ⟨none, rfl, rfl⟩
 | i :: r, b, h => by
  simp only [vQ] at h
  split at h
  ·rename_i p q hp hq
   split at h
   ·rename_i b1 b2 e1 e2
    simp only [Option.some.injEq] at h
    subst h
    obtain ⟨pv, hpr, rp⟩ := nY (P := P) hx hp
    obtain ⟨qv, hqr, rq⟩ := nY (P := P) hy hq
    have h1 := ih _ _ _ _ _ _ e1 rp rq
    obtain ⟨o, ho, eo⟩ := aCi ih hx hy r b2 e2
    cases b1
    ·exact ⟨some false, by simp [List.forIn_cons, hpr, hqr, h1], rfl⟩
    ·refine ⟨o, ?_, by simpa using eo⟩
     simp only [List.forIn_cons, Sem.run_bind, hpr, hqr, h1, Result.andThen_ok]
     simpa using ho
   ·cases h
  ·cases h
theorem bBc (N d : Nat) : ∀ t x y b xv yv, lS P d t x y = some b → Rep φ m w x xv → Rep φ m w y yv → (Op.equalIn (d + N) t xv yv).run P w = .ok b w := by
 induction d with
 | zero => intro t x y b xv yv h; simp [lS] at h
 | succ d ih =>
  intro t x y b xv yv h hx hy
  rw [show d + 1 + N = d + N + 1 by omega]
  simp only [lS] at h
  split at h
  ·rename_i hu
   cases hx; cases hy
   simp only [Option.some.injEq] at h
   subst h
   exact run_equalIn_bool' w _ t _ _ hu
  ·rename_i hu
   cases hx; cases hy
   split at h
   ·rename_i hk
    subst hk
    simp only [Option.some.injEq] at h
    subst h
    exact run_equalIn_int w _ t _ _ _ _ hu
   ·cases h
  ·rename_i hu
   cases hx; cases hy
   simp only [Option.some.injEq] at h
   subst h
   rw [beq_toListBytes]
   exact run_equalIn_string w _ t _ _ hu
  ·rename_i fs xs ys hu
   split at h
   ·cases h
   ·rename_i hst
    cases hx with
    | agg _ xa hxn hxr =>
     cases hy with
     | agg _ ya hyn hyr =>
      have hf : P.fieldsOf t = fs := by unfold Program.fieldsOf; rw [hu]
      rw [run_equalIn_struct w (d + N) t xa ya (by rw [hf]; exact hu) (by simpa using hst), hf]
      exact yU (fun t x y b xv yv => ih t x y b xv yv) ⟨hxn, hxr⟩ ⟨hyn, hyr⟩ fs.toList b h
  ·rename_i n e xs ys hu
   cases hx with
   | agg _ xa hxn hxr =>
    cases hy with
    | agg _ ya hyn hyr =>
     cases hk : cA P e with
     | none => simp [hk] at h
     | some k =>
      simp only [hk, Option.bind_some] at h
      obtain ⟨o, ho, eo⟩ := aCi (fun t x y b xv yv => ih t x y b xv yv) ⟨hxn, hxr⟩ ⟨hyn, hyr⟩ (List.range n) b h
      simp only [Op.equalIn, Sem.run_bind, aN hu, Result.andThen_ok, bL hk]
      rw [Std.Legacy.Range.forIn_eq_forIn_range']
      have er : List.range' ([:n] : Std.Legacy.Range).start ([:n] : Std.Legacy.Range).size ([:n] : Std.Legacy.Range).step = List.range n := by
       simp [Std.Legacy.Range.size, List.range_eq_range']
      rw [er, ho]
      subst eo
      cases b <;> simp
  ·cases h
end
end
section
section
variable {P : Program} {φ : Phi} {m : Mem} {w : World}

theorem aOb (d : Nat) : ∀ t D, iM P d t = true → d ≤ D → P.eqGuardType D t = false := by
 induction d with
 | zero => intro t D h; simp [iM] at h
 | succ d ih =>
  intro t D h hD
  obtain ⟨D, rfl⟩ : ∃ x, D = x + 1 := ⟨D - 1, by omega⟩
  simp only [iM] at h
  simp only [Program.eqGuardType]
  cases hu : P.underlying t with
  | none => rfl
  | some d' =>
   cases d' with
   | interface ms => simp [hu] at h
   | struct fs =>
    simp only [hu] at h
    rw [List.all_eq_true] at h
    simp only
    rw [← Array.any_toList, List.any_eq_false]
    intro f hf
    simp [ih _ D (h f hf) (by omega)]
   | array n e =>
    simp only [hu] at h
    exact ih _ D h (by omega)
   | _ => rfl
theorem lP {op : BinOp} {t : TypeId} {x y : Operand} {a b : Value} (h1 : ∀ cs, a ≠ .agg cs) (h2 : a ≠ .nilIface) : (eqGuard op t x y a b).run P w = .ok () w := by
 unfold eqGuard
 split <;> simp <;> (split <;> simp_all)
theorem aR6 {op : BinOp} {t : TypeId} {x y : Operand} {a b : Array Value} (h : iM P 8 t = true) : (eqGuard op t x y (.agg a) (.agg b)).run P w = .ok () w := by
 unfold eqGuard
 have hd : 8 ≤ P.depth := by unfold Program.depth Made.depth; omega
 split <;> simp [aOb 8 t P.depth h hd]
theorem bJ7 {op : BinOp} {t : TypeId} {x y r : AV} {xv yv : Value} {ox oy : Operand} (hx : Rep φ m w x xv) (hy : Rep φ m w y yv) (h : bHe P op t x y = some r) :
  ∃ z, (do eqGuard op t ox oy xv yv; binOp op t xv yv : Sem Value).run P w = .ok z w ∧ Rep φ m w r z := by
 unfold bHe at h
 split at h
 ·cases hx; cases hy
  obtain ⟨z, hz, hr⟩ := bAj (P := P) (φ := φ) (m := m) (w := w) t h
  exact ⟨z, by simp [lP, hz], hr⟩
 ·cases hx; cases hy
  obtain ⟨z, hz, hr⟩ := aXh (P := P) (φ := φ) (m := m) (w := w) t h
  exact ⟨z, by simp [lP, hz], hr⟩
 ·cases hx; cases hy
  split at h
  ·rename_i hb
   have hu := bCi hb
   split at h
   ·simp only [Option.some.injEq] at h
    subst h
    exact ⟨_, by simp [lP, binOp, Op.equal, Op.maxDepth, run_equalIn_bool' w _ t _ _ hu], .v _⟩
   ·simp only [Option.some.injEq] at h
    subst h
    rename_i a b _
    refine ⟨.bool (!(a == b)), by simp only [Sem.run_bind, lP, ne_eq, reduceCtorEq, not_false_eq_true, implies_true, Result.andThen_ok, binOp, Op.equal, Op.maxDepth, run_equalIn_bool' w _ t _ _ hu, Sem.run_pure], ?_⟩
    exact .v _
   ·cases h
  ·cases h
 ·rename_i xs ys
  split at h
  ·rename_i hn
   cases hx with
   | agg _ xa hxn hxr =>
    cases hy with
    | agg _ ya hyn hyr =>
     have key : ∀ b, lS P 8 t (.agg xs) (.agg ys) = some b → (Op.equal t (.agg xa) (.agg ya)).run P w = .ok b w := fun b hb =>
      bBc (φ := φ) (m := m) 9992 8 t _ _ b _ _ hb (.agg _ _ hxn hxr) (.agg _ _ hyn hyr)
     split at h
     ·cases he : lS P 8 t (.agg xs) (.agg ys) with
      | none => simp [he] at h
      | some b =>
       simp only [he, Option.map_some, Option.some.injEq] at h
       subst h
       exact ⟨_, by simp [aR6 hn, binOp, key b he], .v _⟩
     ·cases he : lS P 8 t (.agg xs) (.agg ys) with
      | none => simp [he] at h
      | some b =>
       simp only [he, Option.map_some, Option.some.injEq] at h
       subst h
       exact ⟨_, by simp [aR6 hn, binOp, key b he], .v _⟩
     ·cases h
  ·cases h
 ·cases h
theorem bOs {op : UnOp} {x r : AV} {xv : Value} (hx : Rep φ m w x xv) (h : bTl op x = some r) : ∃ z, (Op.unary op xv).run P w = .ok z w ∧ Rep φ m w r z := by
 unfold bTl at h
 split at h <;> first | (cases hx; simp only [Option.some.injEq] at h; subst h; exact ⟨_, by simp [Op.unary, Op.intArith, Op.intBits]; done, .v _⟩) | (cases hx; simp only [Option.some.injEq] at h; subst h; exact ⟨_, rfl, .v _⟩) | cases h

theorem aJe {f : Int → Int → Int} {g : Value → Value → Sem Value} (hg : ∀ k a b w, (g (.int k a) (.int k b)).run P w = .ok (.int k (f a b)) w) {k : IntKind} :
  ∀ (xs : List AV) (vs : List Value) (x : Int) r, aV f k x xs = some r → vs.length = xs.length → (∀ (i : Nat) a u, xs[i]? = some a → vs[i]? = some u → Rep φ m w a u) →
   ∃ z, (vs.foldlM g (.int k x)).run P w = .ok z w ∧ Rep φ m w r z
 | [], [], x, r, h, _, _ => by simp only [aV, Option.some.injEq] at h; subst h; exact ⟨_, rfl, .v _⟩
 | a :: xs, u :: vs, x, r, h, hl, hr => by
  have h0 := hr 0 a u rfl rfl
  cases a with
  | v q =>
   cases q with
   | int k' y =>
    simp only [aV] at h
    split at h
    ·rename_i hk
     subst hk
     cases h0
     obtain ⟨z, hz, hzr⟩ := aJe hg xs vs (f x y) r h (by simpa using hl) (fun i a u h1 h2 => hr (i + 1) a u (by simpa using h1) (by simpa using h2))
     exact ⟨z, by simp [hg, hz], hzr⟩
    ·cases h
   | _ => simp [aV] at h
  | _ => simp [aV] at h
 | [], _ :: _, _, _, _, hl, _ => by simp at hl
 | _ :: _, [], _, _, _, hl, _ => by simp at hl
theorem aFr {f : Int → Int → Int} {g : Value → Value → Sem Value} (hg : ∀ k a b w, (g (.int k a) (.int k b)).run P w = .ok (.int k (f a b)) w)
  {xs : List AV} {vs : Array Value} {r : AV} (hr : Reps φ m w xs vs) (h : aT f xs = some r) :
  ∃ k x rest, vs.toList = .int k x :: rest ∧ ∃ z, (rest.foldlM g (.int k x)).run P w = .ok z w ∧ Rep φ m w r z := by
 obtain ⟨hn, hr⟩ := hr
 unfold aT at h
 split at h
 ·rename_i k x rest
  cases hv : vs.toList with
  | nil => have := congrArg List.length hv; simp at this; simp [this] at hn
  | cons u us =>
   have e : ∀ i : Nat, vs[i]? = (u :: us)[i]? := fun i => by rw [← hv]; simp
   have h0 := hr 0 _ u rfl (by rw [e]; rfl)
   cases h0
   have hlen : us.length = rest.length := by have := congrArg List.length hv; simp at this hn; omega
   obtain ⟨z, hz, hzr⟩ := aJe hg rest us x r h hlen (fun i a u' h1 h2 => hr (i + 1) a u' (by simpa using h1) (by rw [e]; simpa using h2))
   exact ⟨k, x, us, rfl, z, hz, hzr⟩
 ·cases h
theorem bMt (k : IntKind) (a b : Int) (w : World) : (Builtin.max2 (.int k a) (.int k b)).run P w = .ok (.int k (mx a b)) w := rfl
theorem bRe (k : IntKind) (a b : Int) (w : World) : (Builtin.min2 (.int k a) (.int k b)).run P w = .ok (.int k (mn a b)) w := rfl
end
end
end Go.Proofs.YtmockbddhhmmeaaGreat.Ev
