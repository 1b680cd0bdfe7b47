/- The evaluator: an operation, a region, a piece of code, a function, with so many rounds and calls below each other at most. Definitions alone. -/
import Derived.Test.YtojaokhkbmiidaaEv1
namespace Go.Proofs.Ytojaokhkbmiidaa.Ev
open Go
noncomputable section

/-- What calls come to. -/
abbrev CallF := FuncId → List AV → Mem → Option (AV × Mem)

def evCall (call : CallF) (f : AV) (xs : List AV) (m : Mem) : Option (AV × Mem) :=
  match f with
  | .fn (.func g) first caps => call g ((first ++ xs ++ caps).map argAV) m
  | _ => none
def okSlice : Option AV → Bool
  | none => true
  | some (.v (.int _ _)) => true
  | _ => false
def evOp (P : Program) (call : CallF) (e : Env) (m : Mem) (o : Oper) : Option (AV × Mem) :=
  let O (t : TypeId) (x : Operand) : AV := opd P e t x
  match o.op with
  | .move x => some (O o.type x, m)
  | .assign x => some (O o.type x, m)
  | .pick c a b =>
    match O o.type c with
    | .v (.bool t) => some (if t then O o.type a else O o.type b, m)
    | _ => none
  | .alloc t =>
    match zeroCells P t with
    | some z => if z.all okCell = true then (newVar m m.vars.length z).map fun m' => (.ptr m.vars.length 0, m') else none
    | none => none
  | .box t x =>
    match cellsOf (O t x) with
    | some cs => (newVar m m.vars.length cs).map fun m' => (.ptr m.vars.length 0, m')
    | none => none
  | .build t ps => (evBuild P t (ps.toList.map fun (i, x) => (i, O (fieldTy P t i) x))).map (·, m)
  | .buildSlice t n ps => (evBuildSlice P t n (ps.toList.map fun (i, x) => (i, O (fieldTy P t i) x))).map (·, m)
  | .load t a => (evLoad P m t (O t a)).map (·, m)
  | .store t a x => (evStore P m t (O t a) (O t x)).map (.v (.tuple #[]), ·)
  | .nilCheck x =>
    match O o.type x with
    | .ptr r off => some (.ptr r off, m)
    | .eptr cs => some (.eptr cs, m)
    | .fn (.func f) first caps => some (.fn (.func f) first caps, m)
    | _ => none
  | .binOp op t x y _ => (evBinN P op t (O t x) y (O t y)).map (·, m)
  | .unOp op t x => (evUn op (O t x)).map (·, m)
  | .convert src dst x => (evConvert P m src dst (O src x)).map (·, m)
  | .makeFunc f first caps => some (.fn f (first.toList.map (O o.type)) (caps.toList.map (O o.type)), m)
  | .makeSlice t n c =>
    match evMakeSlice P t (O o.type n) (O o.type c) with
    | some (cs, sz, n) => (newVar m m.vars.length cs).map fun m' => (.vs m.vars.length 0 sz n n, m')
    | none => none
  | .slice t x lo hi mx => (evSlice P m t (O t x) (lo.map (O o.type)) (hi.map (O o.type)) (mx.map (O o.type))).map (·, m)
  | .fieldAddr t x i => (evFieldAddr P t (O t x) i).map (·, m)
  | .field t x i => (evField P t (O t x) i).map (·, m)
  | .indexAddr t x i => (evIndexAddr P t (O t x) (O o.type i)).map (·, m)
  | .index t x i => (evIndex P t (O t x) (O o.type i)).map (·, m)
  | .extract x i =>
    match O o.type x with
    | .tup cs => (cs[i]?).map (·, m)
    | _ => none
  | .call c =>
    let xs := List.zipWith O c.argTypes.toList c.args.toList
    if c.argTypes.size = c.args.size then
      match c.callee with
      | .builtin b => evBuiltin P m b c.argTypes.toList xs
      | .value f => evCall call (O o.type f) xs m
      | .invoke _ _ => none
    else none
  | _ => none

/-- Is an operation carried out? -/
def wantedAV (ops : Array Oper) (e : Env) (o : Oper) : Option Bool :=
  match o.guard with
  | none => some true
  | some (j, want) =>
    match (ops[j]?).bind (·.dst) with
    | none => some false
    | some d =>
      match get e d with
      | .v (.bool b) => some (b == want)
      | .v (.tuple _) => some false
      | _ => none
/-- How an operation touches memory: not at all; reads; a call; changes. -/
inductive Cls where
  | n | rd | ca | wr
  deriving DecidableEq
def clsOf (P : Program) (o : Oper) : Cls :=
  match o.op with
  | .load _ _ => .rd
  | .convert _ _ _ => .rd
  | .slice t _ _ _ _ => if (tArr P t).isSome then .rd else .n
  | .buildSlice _ _ _ => .n
  | .alloc _ => .wr
  | .box _ _ => .wr
  | .makeSlice _ _ _ => .wr
  | .store _ _ _ => .wr
  | .call c =>
    match c.callee with
    | .builtin .append => .wr
    | .builtin _ => .n
    | _ => .ca
  | _ => .n
/-- Calls must leave the memory as it is, where 'pu' holds. -/
def keeps (P : Program) (pu : Bool) (o : Oper) (m : Mem) (x : Option (AV × Mem)) : Option (AV × Mem) :=
  open Classical in
  match x with
  | some (a, m') => if (pu && clsOf P o == .ca) = true → m' = m then some (a, m') else none
  | none => none
def evOps (P : Program) (call : CallF) (nt : Nat) (ops : Array Oper) (pu : Bool) : List Oper → Env → Mem → Option (Env × Mem)
  | [], e, m => some (e, m)
  | o :: rest, e, m =>
    match wantedAV ops e o with
    | none => none
    | some true =>
      match keeps P pu o m (evOp P call e m o) with
      | some (a, m') =>
        match putAV nt o.dst a e with
        | some e' => evOps P call nt ops pu rest e' m'
        | none => none
      | none => none
    | some false =>
      match putAV nt o.dst (.v (.tuple #[])) e with
      | some e' => evOps P call nt ops pu rest e' m
      | none => none

/-! ### regions that draw their order -/
/-- Of each operation, as a row of bits, which ones come ahead of it in every order. -/
def maskOf (o : Oper) (acc : List Nat) : Nat :=
  o.after.toList.foldl (fun s e => if Region.binds .any e = true then s ||| (2 ^ e.on ||| acc.getD e.on 0) else s) 0
def masks : List Oper → List Nat → List Nat
  | [], acc => acc
  | o :: r, acc => masks r (acc ++ [maskOf o acc])
/-- May two operations that do not wait for each other come in either order? -/
def looseOk (P : Program) (ops : Array Oper) (i j : Oper) : Bool :=
  i.apart ops j && match clsOf P i, clsOf P j with
    | .n, _ => true
    | _, .n => true
    | .rd, .rd => true
    | .rd, .ca => true
    | .ca, .rd => true
    | .ca, .ca => true
    | _, _ => false
/-- Is there a call that may change places with a read? -/
def anyLoose (P : Program) (l : List Oper) : Bool :=
  let ms := masks l []
  (List.range l.length).any fun j => (List.range j).any fun i =>
    !(ms.getD j 0).testBit i && clsOf P (l.getD i default) != .n && clsOf P (l.getD j default) != .n
def drawnOk (P : Program) (l : List Oper) : Bool :=
  let ms := masks l []
  (List.range l.length).all fun j =>
    ((l.getD j default).after.all fun e => !Region.binds .any e || decide (e.on < j)) &&
    (List.range j).all fun i =>
      ((l.getD i default).dst.isNone || (l.getD i default).dst != (l.getD j default).dst) &&
      ((ms.getD j 0).testBit i || looseOk P l.toArray (l.getD i default) (l.getD j default))
def evDrawn (P : Program) (call : CallF) (nt : Nat) (ops : List Oper) (e : Env) (m : Mem) : Option (Env × Mem) :=
  if drawnOk P ops = true then evOps P call nt ops.toArray (anyLoose P ops) ops e m else none

/-! ### code -/
inductive Ex where
  | normal
  | exit (id : Nat)
  | ret
abbrev Res := Option (Ex × Env × Mem)
def loopN (body : Env → Mem → Res) : Nat → Env → Mem → Res
  | 0, _, _ => none
  | n + 1, e, m =>
    match body e m with
    | some (.normal, e', m') => loopN body n e' m'
    | x => x
def code (P : Program) (call : CallF) (nt : Nat) (kp : Nat → Option (List Nat)) (n : Nat) : Code → Env → Mem → Res
  | .skip, e, m => some (.normal, e, m)
  | .region id ops draw, e, m =>
    match (if draw then evDrawn P call nt ops.toList e m else evOps P call nt ops false ops.toList e m) with
    | some (e', m') => some (.normal, restr (kp id) e', m')
    | none => none
  | .seq a b, e, m =>
    match code P call nt kp n a e m with
    | some (.normal, e', m') => code P call nt kp n b e' m'
    | x => x
  | .cond c a b, e, m =>
    match opd P e 0 c with
    | .v (.bool t) => if t then code P call nt kp n a e m else code P call nt kp n b e m
    | _ => none
  | .block id b, e, m =>
    match code P call nt kp n b e m with
    | some (.exit q, e', m') => if q = id then some (.normal, e', m') else some (.exit q, e', m')
    | x => x
  | .loop b, e, m => loopN (code P call nt kp n b) n e m
  | .exit id, e, m => some (.exit id, e, m)
  | .ret, e, m => some (.ret, e, m)
  | _, _, _ => none

/-! ### functions -/
def entry (args : List AV) : Env := (List.range args.length).zip args
/-- What leads into the callee's own memory isn't handed back. -/
def chunk1 (cs : List AV) : List (List AV) := cs.map fun c => [c]
/-- A result's cell: its growth is lost. -/
def resCell (n0 : Nat) : AV → Option AV
  | .v x => some (.v x)
  | .lst _ sz rows => some (.lst .no sz rows)
  | .ptr r off => if r < n0 then some (.ptr r off) else none
  | _ => none
def resAV (n0 : Nat) (m : Mem) : AV → Option AV
  | .agg cs => (cs.mapM (resCell n0)).map .agg
  | .vs r off sz n c =>
    if r < n0 then none else
    match m.var r with
    | some cs => if sz = 1 ∧ off = 0 ∧ n = cs.length ∧ c = n then ((cs.mapM rowCell).map fun cs => .lst .no 1 (chunk1 cs)) else none
    | none => none
  | a => resCell n0 a
def evResult (P : Program) (e : Env) (m : Mem) : ResultVar → Option AV
  | .tmp t => some (get e t)
  | .cell a t => evLoad P m t (get e a)
/-- The memory behind a call: the callee's own variables have gone. -/
def finMem (m0 m : Mem) : Mem :=
  open Classical in
  if m.vars.take m0.vars.length = m0.vars then { vars := m0.vars, toks := m.toks.take m0.toks.length }
  else { vars := m.vars.take m0.vars.length, toks := m.toks }
/-- A list whose growth is handed on (where 'gr' holds): it holds a token anew. -/
def growRes (gr : Bool) (m0 m : Mem) (a : AV) : Option (AV × Mem) :=
  match gr, a with
  | true, .lst .full sz rows => some (.lst (.tok (finMem m0 m).toks.length 0) sz rows, { finMem m0 m with toks := (finMem m0 m).toks ++ [0] })
  | true, .lst (.tok id ver) sz rows =>
    if m.toks[id]? = some ver ∧ m0.toks.length ≤ id then some (.lst (.tok (finMem m0 m).toks.length 0) sz rows, { finMem m0 m with toks := (finMem m0 m).toks.set id (ver + 1) ++ [0] }) else none
  | true, _ => none
  | false, a => (resAV m0.vars.length m a).map (·, finMem m0 m)
def evRet (P : Program) (gr : Bool) (fn : Func) (m0 : Mem) (e : Env) (m : Mem) : Option (AV × Mem) :=
  match fn.results.toList with
  | [r] => (evResult P e m r).bind (growRes gr m0 m)
  | rs => ((rs.mapM (evResult P e m)).bind fun vs => vs.mapM (resAV m0.vars.length m)).map fun vs => (.tup vs, finMem m0 m)

/-- What is told of functions from outside: which slots are kept behind a region; whose result may grow; what some functions come to. -/
structure Ctx where
  kp : FuncId → Nat → Option (List Nat)
  gr : FuncId → Bool
  ext : FuncId → Option (List AV → Mem → Option (AV × Mem))
def evBody (P : Program) (C : Ctx) (call : CallF) (n : Nat) (f : FuncId) (fn : Func) (c : Code) (args : List AV) (m : Mem) : Option (AV × Mem) :=
  if args.length ≤ fn.ntmps ∧ (fn.name == "runtime.NumGoroutine") = false then
    match code P call fn.ntmps (C.kp f) n c (entry args) m with
    | some (.normal, e, m') => evRet P (C.gr f) fn m e m'
    | some (.ret, e, m') => evRet P (C.gr f) fn m e m'
    | _ => none
  else none
def run (P : Program) (C : Ctx) : Nat → CallF
  | 0, _, _, _ => none
  | n + 1, f, args, m =>
    match C.ext f with
    | some g => g args m
    | none =>
      match P.funcs[f]? with
      | some fn =>
        match fn.body with
        | some c => evBody P C (run P C n) n f fn c args m
        | none => none
      | none => none
end
end Go.Proofs.Ytojaokhkbmiidaa.Ev
