/- Words of struct types: Wt, Ct, Kt, Sm, Rd, In, Ss, Evt, Ou, Ru. -/
import Derived.Test.YtmockbddhhmmeaaGreatMbgkd1
namespace Go.Proofs.YtmockbddhhmmeaaGreat.Ev
open Go Go.Proofs
set_option maxRecDepth 10000
set_option maxHeartbeats 8000000
set_option linter.unusedVariables false
set_option linter.unusedSimpArgs false
section
attribute [local irreducible] Next aW cF Ops bQ
/-! ### api.Watch -/
structure Wt where
 has : Bool
 best : Int
 bad : Int
def wt0 : Wt := ⟨false, 0, 0⟩
def Wt.row (x : Wt) : List AV := [.v (.bool x.has), iv x.best, iv x.bad]
def bIm : List AV → Option Wt
 | [.v (.bool c0), .v (.int .i64 c1), .v (.int .i64 c2)] => some ⟨c0, c1, c2⟩
 | _ => none
theorem aHh {cs : List AV} {x : Wt} (h : bIm cs = some x) : cs = x.row := by
 unfold bIm at h
 split at h
 ·cases h; rfl
 ·cases h
theorem aN8 (x : Wt) : bIm x.row = some x := by
 rfl
theorem bQm : cA Tryz.prog 38 = some 3 := by kernel_rfl
theorem cEa : oP Tryz.prog 38 = some true := by kernel_rfl
theorem aLo {x : Wt} : List.map eR x.row = x.row := rfl
theorem aEp {x : Wt} : cellsOf (.agg x.row) = some x.row := rfl
theorem aQn {m : Mem} {x : Wt} : newVar m m.vars.length x.row = some (m.push x.row) := bF rfl
theorem bVw {m : Mem} {r : Nat} {x : Wt} (hv : m.var r = some x.row) : aL Tryz.prog m 38 (.ptr r 0) = some (.agg x.row) := bY (off := 0) hv bQm cEa nbT rfl
def mD : List AV := [.v (.bool false), .v (.int .i64 0), .v (.int .i64 0)]
theorem cE6 : zeroCells Tryz.prog 38 = some mD := by kernel_rfl
theorem cEq : mD.all okCell = true := rfl
theorem cB0 {m : Mem} : newVar m m.vars.length mD = some (m.push mD) := bF rfl
theorem bQ1 : cN Tryz.prog 38 [] = some (.agg mD) := by kernel_rfl
theorem bZg : iM Tryz.prog 8 38 = true := by kernel_rfl
theorem bXl {x y : Wt} : lS Tryz.prog 8 38 (.agg x.row) (.agg y.row) = some ((x.has == y.has) && ((x.best == y.best) && ((x.bad == y.bad) && true))) := by kernel_rfl
theorem aTh {r : Nat} : aD Tryz.prog 38 (.ptr r 0) 0 = some (.ptr r 0) := by kernel_rfl
theorem bFm {m : Mem} {r : Nat} {x : Wt} (hv : m.var r = some x.row) : aL Tryz.prog m 4 (.ptr r 0) = some (.v (.bool x.has)) := aK (k := 1) hv (by kernel_rfl) (by kernel_rfl) rfl
theorem bSr {r : Nat} : aD Tryz.prog 38 (.ptr r 0) 1 = some (.ptr r 1) := by kernel_rfl
theorem bNd {m : Mem} {r : Nat} {x : Wt} (hv : m.var r = some x.row) : aL Tryz.prog m 3 (.ptr r 1) = some (iv x.best) := aK (k := 1) hv (by kernel_rfl) (by kernel_rfl) rfl
theorem aU3 {r : Nat} : aD Tryz.prog 38 (.ptr r 0) 2 = some (.ptr r 2) := by kernel_rfl
theorem aTx {m : Mem} {r : Nat} {x : Wt} (hv : m.var r = some x.row) : aL Tryz.prog m 3 (.ptr r 2) = some (iv x.bad) := aK (k := 1) hv (by kernel_rfl) (by kernel_rfl) rfl
/-! ### api.Cut -/
structure Ct where
 watch : Wt
 rest : Int
 scale : Int
def ct0 : Ct := ⟨wt0, 0, 0⟩
def Ct.row (x : Ct) : List AV := [.v (.bool x.watch.has), iv x.watch.best, iv x.watch.bad, iv x.rest, iv x.scale]
def bJp : List AV → Option Ct
 | [.v (.bool c0), .v (.int .i64 c1), .v (.int .i64 c2), .v (.int .i64 c3), .v (.int .i64 c4)] => some ⟨⟨c0, c1, c2⟩, c3, c4⟩
 | _ => none
theorem aIp {cs : List AV} {x : Ct} (h : bJp cs = some x) : cs = x.row := by
 unfold bJp at h
 split at h
 ·cases h; rfl
 ·cases h
theorem aM0 (x : Ct) : bJp x.row = some x := by
 rfl
theorem aYu : cA Tryz.prog 40 = some 5 := by kernel_rfl
theorem cDt : oP Tryz.prog 40 = some true := by kernel_rfl
theorem yO {x : Ct} : List.map eR x.row = x.row := rfl
theorem aBl {x : Ct} : cellsOf (.agg x.row) = some x.row := rfl
theorem aRc {m : Mem} {x : Ct} : newVar m m.vars.length x.row = some (m.push x.row) := bF rfl
theorem aZn {m : Mem} {r : Nat} {x : Ct} (hv : m.var r = some x.row) : aL Tryz.prog m 40 (.ptr r 0) = some (.agg x.row) := bY (off := 0) hv aYu cDt nbT rfl
def kZ : List AV := [.v (.bool false), .v (.int .i64 0), .v (.int .i64 0), .v (.int .i64 0), .v (.int .i64 0)]
theorem bRa : zeroCells Tryz.prog 40 = some kZ := by kernel_rfl
theorem bQ2 : kZ.all okCell = true := rfl
theorem bBo {m : Mem} : newVar m m.vars.length kZ = some (m.push kZ) := bF rfl
theorem cAc : iM Tryz.prog 8 40 = true := by kernel_rfl
theorem cD0 {x y : Ct} : lS Tryz.prog 8 40 (.agg x.row) (.agg y.row) = some (((x.watch.has == y.watch.has) && ((x.watch.best == y.watch.best) && ((x.watch.bad == y.watch.bad) && true))) && ((x.rest == y.rest) && ((x.scale == y.scale) && true))) := by kernel_rfl
theorem aSc {r : Nat} : aD Tryz.prog 40 (.ptr r 0) 0 = some (.ptr r 0) := by kernel_rfl
theorem aIm {m : Mem} {r : Nat} {x : Ct} (hv : m.var r = some x.row) : aL Tryz.prog m 38 (.ptr r 0) = some (.agg x.watch.row) := bY hv (k := 3) (by kernel_rfl) (by kernel_rfl) nbT rfl
theorem aEk {r : Nat} : aD Tryz.prog 38 (.ptr r 0) 0 = some (.ptr r 0) := by kernel_rfl
theorem aU1 {m : Mem} {r : Nat} {x : Ct} (hv : m.var r = some x.row) : aL Tryz.prog m 4 (.ptr r 0) = some (.v (.bool x.watch.has)) := aK (k := 1) hv (by kernel_rfl) (by kernel_rfl) rfl
theorem aEx {r : Nat} : aD Tryz.prog 38 (.ptr r 0) 2 = some (.ptr r 2) := by kernel_rfl
theorem aUu {m : Mem} {r : Nat} {x : Ct} (hv : m.var r = some x.row) : aL Tryz.prog m 3 (.ptr r 2) = some (iv x.watch.bad) := aK (k := 1) hv (by kernel_rfl) (by kernel_rfl) rfl
theorem bAq {r : Nat} : aD Tryz.prog 40 (.ptr r 0) 1 = some (.ptr r 3) := by kernel_rfl
theorem aV7 {m : Mem} {r : Nat} {x : Ct} (hv : m.var r = some x.row) : aL Tryz.prog m 3 (.ptr r 3) = some (iv x.rest) := aK (k := 1) hv (by kernel_rfl) (by kernel_rfl) rfl
theorem aRu {r : Nat} : aD Tryz.prog 40 (.ptr r 0) 2 = some (.ptr r 4) := by kernel_rfl
theorem aHl {m : Mem} {r : Nat} {x : Ct} (hv : m.var r = some x.row) : aL Tryz.prog m 3 (.ptr r 4) = some (iv x.scale) := aK (k := 1) hv (by kernel_rfl) (by kernel_rfl) rfl
/-! ### api.Kept -/
structure Kt where
 step : Int
 val : Int
def kt0 : Kt := ⟨0, 0⟩
def Kt.row (x : Kt) : List AV := [iv x.step, iv x.val]
def aNa : List AV → Option Kt
 | [.v (.int .i64 c0), .v (.int .i64 c1)] => some ⟨c0, c1⟩
 | _ => none
theorem lO {cs : List AV} {x : Kt} (h : aNa cs = some x) : cs = x.row := by
 unfold aNa at h
 split at h
 ·cases h; rfl
 ·cases h
theorem vE (x : Kt) : aNa x.row = some x := by
 rfl
def bR (l : List Kt) : List (List AV) := l.map Kt.row
theorem cV (l : List Kt) : (bR l).length = l.length := List.length_map ..
theorem bCk (l l2 : List Kt) : bR l ++ bR l2 = bR (l ++ l2) := List.map_append.symm
theorem aWb (l : List Kt) (i : Nat) : (bR l).take i = bR (l.take i) := List.map_take.symm
theorem bB6 {l : List Kt} {i : Nat} (hi : i < l.length) : (bR l)[i]? = some (l.getD i kt0).row := by
 simp [bR, List.getD, List.getElem?_eq_getElem hi]
def xZ : List (List AV) → Option (List Kt)
 | [] => some []
 | row :: r =>
  match aNa row, xZ r with
  | some x, some l => some (x :: l)
  | _, _ => none
theorem kY : ∀ {rs : List (List AV)} {l : List Kt}, xZ rs = some l → rs = bR l
 | [], l, h => by simp only [xZ, Option.some.injEq] at h; subst h; rfl
 | row :: r, l, h => by
  unfold xZ at h
  split at h
  ·rename_i x l' h1 h2
   cases h
   rw [lO h1, kY h2]
   rfl
  ·cases h
theorem iP : ∀ (l : List Kt), xZ (bR l) = some l
 | [] => rfl
 | x :: l => by
  have e : bR (x :: l) = x.row :: bR l := rfl
  rw [e, xZ, vE, iP l]
theorem pD : dB Tryz.prog 41 = some 54 := by simp only [dB, Tryz.underlying41]
theorem cE3 : mM Tryz.prog 41 = none := by simp only [mM, Tryz.underlying41]
theorem aYe : mS Tryz.prog 41 41 2 = true := by kernel_rfl
theorem cBy {x : Kt} : bG Tryz.prog 41 1 [(0, .agg x.row)] = some (.lst .full 2 (bR [x])) := iZ aYe (by decide) rfl rfl
theorem nO : cA Tryz.prog 54 = some 2 := by kernel_rfl
theorem cC3 : oP Tryz.prog 54 = some true := by kernel_rfl
theorem bK6 {g : Grow} {kk : IntKind} {l : List Kt} {i : Nat} (hi : i < l.length) : cI Tryz.prog 41 (.lst g 2 (bR l)) (.v (.int kk (i : Int))) = some (.eptr (l.getD i kt0).row) := oF pD cE3 nO (bB6 hi)
theorem aCc {x : Kt} : List.map eR x.row = x.row := rfl
theorem oD {x : Kt} : cellsOf (.agg x.row) = some x.row := rfl
theorem pF {m : Mem} {x : Kt} : newVar m m.vars.length x.row = some (m.push x.row) := bF rfl
theorem aUt {m : Mem} {x : Kt} : aL Tryz.prog m 54 (.eptr x.row) = some (.agg x.row) := by kernel_rfl
theorem aUe {m : Mem} {r : Nat} {x : Kt} (hv : m.var r = some x.row) : aL Tryz.prog m 54 (.ptr r 0) = some (.agg x.row) := bY (off := 0) hv nO cC3 nbT rfl
def gB : List AV := [.v (.int .i64 0), .v (.int .i64 0)]
theorem bBs : zeroCells Tryz.prog 54 = some gB := by kernel_rfl
theorem bPx : gB.all okCell = true := rfl
theorem aY3 {m : Mem} : newVar m m.vars.length gB = some (m.push gB) := bF rfl
theorem cBj : cN Tryz.prog 54 [] = some (.agg gB) := by kernel_rfl
theorem cDx : iM Tryz.prog 8 54 = true := by kernel_rfl
theorem cEr {x y : Kt} : lS Tryz.prog 8 54 (.agg x.row) (.agg y.row) = some ((x.step == y.step) && ((x.val == y.val) && true)) := by kernel_rfl
theorem aD8 {x : Kt} : aD Tryz.prog 54 (.eptr x.row) 0 = some (.eptr x.row) := by kernel_rfl
theorem aF2 {m : Mem} {x : Kt} : aL Tryz.prog m 3 (.eptr x.row) = some (iv x.step) := by kernel_rfl
theorem zF {r : Nat} : aD Tryz.prog 54 (.ptr r 0) 0 = some (.ptr r 0) := by kernel_rfl
theorem aF8 {m : Mem} {r : Nat} {x : Kt} (hv : m.var r = some x.row) : aL Tryz.prog m 3 (.ptr r 0) = some (iv x.step) := aK (k := 1) hv (by kernel_rfl) (by kernel_rfl) rfl
theorem aKy {x : Kt} : aD Tryz.prog 54 (.eptr x.row) 1 = some (.eptr (x.row.drop 1)) := by kernel_rfl
theorem aKx {m : Mem} {x : Kt} : aL Tryz.prog m 3 (.eptr (x.row.drop 1)) = some (iv x.val) := by kernel_rfl
theorem aKq {r : Nat} : aD Tryz.prog 54 (.ptr r 0) 1 = some (.ptr r 1) := by kernel_rfl
theorem aUo {m : Mem} {r : Nat} {x : Kt} (hv : m.var r = some x.row) : aL Tryz.prog m 3 (.ptr r 1) = some (iv x.val) := aK (k := 1) hv (by kernel_rfl) (by kernel_rfl) rfl
/-! ### api.Sum -/
structure Sm where
 count : Int
 sums : List Int
def sm0 : Sm := ⟨0, []⟩
def Sm.row (x : Sm) : List AV := [iv x.count, .lst .no 1 (cG x.sums)]
def bKn : List AV → Option Sm
 | [.v (.int .i64 c0), .lst .no 1 c1] =>
  match unJ c1 with
  | some l1 => some ⟨c0, l1⟩
  | _ => none
 | _ => none
theorem aRw {cs : List AV} {x : Sm} (h : bKn cs = some x) : cs = x.row := by
 unfold bKn at h
 split at h
 ·split at h
  ·rename_i h1
   cases h
   obtain rfl := iT h1
   rfl
  ·cases h
 ·cases h
theorem aWf (x : Sm) : bKn x.row = some x := by
 simp only [bKn, Sm.row, iv, jC]
theorem aJ8 : cA Tryz.prog 44 = some 2 := by kernel_rfl
theorem bUt : oP Tryz.prog 44 = some true := by kernel_rfl
theorem bQe {x : Sm} : List.map eR x.row = x.row := rfl
theorem aU4 {x : Sm} : cellsOf (.agg x.row) = some x.row := rfl
theorem bE2 {m : Mem} {x : Sm} : newVar m m.vars.length x.row = some (m.push x.row) := bF rfl
theorem cB1 {m : Mem} {r : Nat} {x : Sm} (hv : m.var r = some x.row) : aL Tryz.prog m 44 (.ptr r 0) = some (.agg x.row) := bY (off := 0) hv aJ8 bUt nbT rfl
def gP : List AV := [.v (.int .i64 0), .lst .full 1 []]
theorem bX3 : zeroCells Tryz.prog 44 = some gP := by kernel_rfl
theorem bXn : gP.all okCell = true := rfl
theorem bKg {m : Mem} : newVar m m.vars.length gP = some (m.push gP) := bF rfl
theorem aSx : cN Tryz.prog 44 [] = some (.agg gP) := by kernel_rfl
theorem aQd {r : Nat} : aD Tryz.prog 44 (.ptr r 0) 0 = some (.ptr r 0) := by kernel_rfl
theorem aR9 {m : Mem} {r : Nat} {x : Sm} (hv : m.var r = some x.row) : aL Tryz.prog m 3 (.ptr r 0) = some (iv x.count) := aK (k := 1) hv (by kernel_rfl) (by kernel_rfl) rfl
theorem aWy {r : Nat} : aD Tryz.prog 44 (.ptr r 0) 1 = some (.ptr r 1) := by kernel_rfl
theorem aLs {m : Mem} {r : Nat} {x : Sm} (hv : m.var r = some x.row) : aL Tryz.prog m 42 (.ptr r 1) = some (.lst .no 1 (cG x.sums)) := aK (k := 1) hv (by kernel_rfl) (by kernel_rfl) rfl
/-! ### api.Reading -/
structure Rd where
 has : Bool
 val : Int
def rd0 : Rd := ⟨false, 0⟩
def Rd.row (x : Rd) : List AV := [.v (.bool x.has), iv x.val]
def bSe : List AV → Option Rd
 | [.v (.bool c0), .v (.int .i64 c1)] => some ⟨c0, c1⟩
 | _ => none
theorem aQ0 {cs : List AV} {x : Rd} (h : bSe cs = some x) : cs = x.row := by
 unfold bSe at h
 split at h
 ·cases h; rfl
 ·cases h
theorem aZ5 (x : Rd) : bSe x.row = some x := by
 rfl
def gO (l : List Rd) : List (List AV) := l.map Rd.row
theorem xI (l : List Rd) : (gO l).length = l.length := List.length_map ..
theorem bCf {l : List Rd} {i : Nat} (hi : i < l.length) : (gO l)[i]? = some (l.getD i rd0).row := by
 simp [gO, List.getD, List.getElem?_eq_getElem hi]
def aF1 : List (List AV) → Option (List Rd)
 | [] => some []
 | row :: r =>
  match bSe row, aF1 r with
  | some x, some l => some (x :: l)
  | _, _ => none
theorem xH : ∀ {rs : List (List AV)} {l : List Rd}, aF1 rs = some l → rs = gO l
 | [], l, h => by simp only [aF1, Option.some.injEq] at h; subst h; rfl
 | row :: r, l, h => by
  unfold aF1 at h
  split at h
  ·rename_i x l' h1 h2
   cases h
   rw [aQ0 h1, xH h2]
   rfl
  ·cases h
theorem pY : ∀ (l : List Rd), aF1 (gO l) = some l
 | [] => rfl
 | x :: l => by
  have e : gO (x :: l) = x.row :: gO l := rfl
  rw [e, aF1, aZ5, pY l]
theorem cDz : dB Tryz.prog 80 = some 89 := by simp only [dB, Tryz.underlying80]
theorem cDy : mM Tryz.prog 80 = none := by simp only [mM, Tryz.underlying80]
theorem cAg : mS Tryz.prog 80 80 2 = true := by kernel_rfl
theorem cBc {x : Rd} : bG Tryz.prog 80 1 [(0, .agg x.row)] = some (.lst .full 2 (gO [x])) := iZ cAg (by decide) rfl rfl
theorem bXw : cA Tryz.prog 89 = some 2 := by kernel_rfl
theorem bV1 {g : Grow} {kk : IntKind} {l : List Rd} {i : Nat} (hi : i < l.length) : cI Tryz.prog 80 (.lst g 2 (gO l)) (.v (.int kk (i : Int))) = some (.eptr (l.getD i rd0).row) := oF cDz cDy bXw (bCf hi)
theorem bWi {x : Rd} : List.map eR x.row = x.row := rfl
theorem bEo {x : Rd} : cellsOf (.agg x.row) = some x.row := rfl
theorem bM3 {m : Mem} {x : Rd} : newVar m m.vars.length x.row = some (m.push x.row) := bF rfl
theorem cCt {m : Mem} {x : Rd} : aL Tryz.prog m 89 (.eptr x.row) = some (.agg x.row) := by kernel_rfl
def aOj : List AV := [.v (.bool false), .v (.int .i64 0)]
theorem cDi : zeroCells Tryz.prog 89 = some aOj := by kernel_rfl
theorem cEo : aOj.all okCell = true := rfl
theorem cC0 {m : Mem} : newVar m m.vars.length aOj = some (m.push aOj) := bF rfl
theorem bEh {x : Rd} : aD Tryz.prog 89 (.eptr x.row) 0 = some (.eptr x.row) := by kernel_rfl
theorem bGr {m : Mem} {x : Rd} : aL Tryz.prog m 4 (.eptr x.row) = some (.v (.bool x.has)) := by kernel_rfl
theorem bFg {r : Nat} : aD Tryz.prog 89 (.ptr r 0) 0 = some (.ptr r 0) := by kernel_rfl
theorem bF8 {m : Mem} {r : Nat} {x : Rd} (hv : m.var r = some x.row) : aL Tryz.prog m 4 (.ptr r 0) = some (.v (.bool x.has)) := aK (k := 1) hv (by kernel_rfl) (by kernel_rfl) rfl
theorem bE8 {x : Rd} : aD Tryz.prog 89 (.eptr x.row) 1 = some (.eptr (x.row.drop 1)) := by kernel_rfl
theorem bFn {m : Mem} {x : Rd} : aL Tryz.prog m 3 (.eptr (x.row.drop 1)) = some (iv x.val) := by kernel_rfl
theorem bTz {r : Nat} : aD Tryz.prog 89 (.ptr r 0) 1 = some (.ptr r 1) := by kernel_rfl
theorem bUu {m : Mem} {r : Nat} {x : Rd} (hv : m.var r = some x.row) : aL Tryz.prog m 3 (.ptr r 1) = some (iv x.val) := aK (k := 1) hv (by kernel_rfl) (by kernel_rfl) rfl
/-! ### api.Input -/
structure In where
 readings : List Rd
 weights : List Int
def in0 : In := ⟨[], []⟩
def In.row (x : In) : List AV := [.lst .no 2 (gO x.readings), .lst .no 1 (cG x.weights)]
def aL1 : List AV → Option In
 | [.lst .no 2 c0, .lst .no 1 c1] =>
  match aF1 c0, unJ c1 with
  | some l0, some l1 => some ⟨l0, l1⟩
  | _, _ => none
 | _ => none
theorem nE {cs : List AV} {x : In} (h : aL1 cs = some x) : cs = x.row := by
 unfold aL1 at h
 split at h
 ·split at h
  ·rename_i h0 h1
   cases h
   obtain rfl := xH h0
   obtain rfl := iT h1
   rfl
  ·cases h
 ·cases h
theorem sB (x : In) : aL1 x.row = some x := by
 simp only [aL1, In.row, iv, pY, jC]
def iQ (l : List In) : List (List AV) := l.map In.row
theorem kW (l : List In) : (iQ l).length = l.length := List.length_map ..
theorem bDs {l : List In} {i : Nat} (hi : i < l.length) : (iQ l)[i]? = some (l.getD i in0).row := by
 simp [iQ, List.getD, List.getElem?_eq_getElem hi]
def aAn : List (List AV) → Option (List In)
 | [] => some []
 | row :: r =>
  match aL1 row, aAn r with
  | some x, some l => some (x :: l)
  | _, _ => none
theorem oA : ∀ {rs : List (List AV)} {l : List In}, aAn rs = some l → rs = iQ l
 | [], l, h => by simp only [aAn, Option.some.injEq] at h; subst h; rfl
 | row :: r, l, h => by
  unfold aAn at h
  split at h
  ·rename_i x l' h1 h2
   cases h
   rw [nE h1, oA h2]
   rfl
  ·cases h
theorem unsIn_rowsIn : ∀ (l : List In), aAn (iQ l) = some l
 | [] => rfl
 | x :: l => by
  have e : iQ (x :: l) = x.row :: iQ l := rfl
  rw [e, aAn, sB, unsIn_rowsIn l]
theorem cEg : dB Tryz.prog 35 = some 82 := by simp only [dB, Tryz.underlying35]
theorem cEy : mM Tryz.prog 35 = none := by simp only [mM, Tryz.underlying35]
theorem bKk : cA Tryz.prog 82 = some 2 := by kernel_rfl
theorem cAr : oP Tryz.prog 82 = some true := by kernel_rfl
theorem bZ0 {g : Grow} {kk : IntKind} {l : List In} {i : Nat} (hi : i < l.length) : cI Tryz.prog 35 (.lst g 2 (iQ l)) (.v (.int kk (i : Int))) = some (.eptr (l.getD i in0).row) := oF cEg cEy bKk (bDs hi)
theorem aB9 {x : In} : List.map eR x.row = x.row := rfl
theorem tF {x : In} : cellsOf (.agg x.row) = some x.row := rfl
theorem aMx {m : Mem} {x : In} : newVar m m.vars.length x.row = some (m.push x.row) := bF rfl
theorem bXs {m : Mem} {x : In} : aL Tryz.prog m 82 (.eptr x.row) = some (.agg x.row) := by kernel_rfl
theorem bYv {m : Mem} {r : Nat} {x : In} (hv : m.var r = some x.row) : aL Tryz.prog m 82 (.ptr r 0) = some (.agg x.row) := bY (off := 0) hv bKk cAr nbT rfl
def xC : List AV := [.lst .full 2 [], .lst .full 1 []]
theorem bX2 : zeroCells Tryz.prog 82 = some xC := by kernel_rfl
theorem bYj : xC.all okCell = true := rfl
theorem bVk {m : Mem} : newVar m m.vars.length xC = some (m.push xC) := bF rfl
theorem aGx {x : In} : aD Tryz.prog 82 (.eptr x.row) 0 = some (.eptr x.row) := by kernel_rfl
theorem aEe {m : Mem} {x : In} : aL Tryz.prog m 80 (.eptr x.row) = some (.lst .no 2 (gO x.readings)) := by kernel_rfl
theorem aGl {r : Nat} : aD Tryz.prog 82 (.ptr r 0) 0 = some (.ptr r 0) := by kernel_rfl
theorem wT {m : Mem} {r : Nat} {x : In} (hv : m.var r = some x.row) : aL Tryz.prog m 80 (.ptr r 0) = some (.lst .no 2 (gO x.readings)) := aK (k := 1) hv (by kernel_rfl) (by kernel_rfl) rfl
theorem aWm {x : In} : aD Tryz.prog 82 (.eptr x.row) 1 = some (.eptr (x.row.drop 1)) := by kernel_rfl
theorem aXv {m : Mem} {x : In} : aL Tryz.prog m 42 (.eptr (x.row.drop 1)) = some (.lst .no 1 (cG x.weights)) := by kernel_rfl
theorem aYx {r : Nat} : aD Tryz.prog 82 (.ptr r 0) 1 = some (.ptr r 1) := by kernel_rfl
theorem aY0 {m : Mem} {r : Nat} {x : In} (hv : m.var r = some x.row) : aL Tryz.prog m 42 (.ptr r 1) = some (.lst .no 1 (cG x.weights)) := aK (k := 1) hv (by kernel_rfl) (by kernel_rfl) rfl
/-! ### api.State -/
structure Ss where
 step : Int
 status : Int
 ended : Int
 stop : Wt
 cut : Ct
 kept : List Kt
 ema : List Int
 swa : Sm
def ss0 : Ss := ⟨0, 0, 0, wt0, ct0, [], [], sm0⟩
def Ss.row (x : Ss) : List AV := [iv x.step, iv x.status, iv x.ended, .v (.bool x.stop.has), iv x.stop.best, iv x.stop.bad, .v (.bool x.cut.watch.has), iv x.cut.watch.best, iv x.cut.watch.bad, iv x.cut.rest, iv x.cut.scale, .lst .no 2 (bR x.kept), .lst .no 1 (cG x.ema), iv x.swa.count, .lst .no 1 (cG x.swa.sums)]
def sC : List AV → Option Ss
 | [.v (.int .i64 c0), .v (.int .i64 c1), .v (.int .i64 c2), .v (.bool c3), .v (.int .i64 c4), .v (.int .i64 c5), .v (.bool c6), .v (.int .i64 c7), .v (.int .i64 c8), .v (.int .i64 c9), .v (.int .i64 c10), .lst .no 2 c11, .lst .no 1 c12, .v (.int .i64 c13), .lst .no 1 c14] =>
  match xZ c11, unJ c12, unJ c14 with
  | some l11, some l12, some l14 => some ⟨c0, c1, c2, ⟨c3, c4, c5⟩, ⟨⟨c6, c7, c8⟩, c9, c10⟩, l11, l12, ⟨c13, l14⟩⟩
  | _, _, _ => none
 | _ => none
theorem dT {cs : List AV} {x : Ss} (h : sC cs = some x) : cs = x.row := by
 unfold sC at h
 split at h
 ·split at h
  ·rename_i h11 h12 h14
   cases h
   obtain rfl := kY h11
   obtain rfl := iT h12
   obtain rfl := iT h14
   rfl
  ·cases h
 ·cases h
theorem dZ (x : Ss) : sC x.row = some x := by
 simp only [sC, Ss.row, iv, iP, jC]
theorem tM : cA Tryz.prog 46 = some 15 := by kernel_rfl
theorem bPi : oP Tryz.prog 46 = some true := by kernel_rfl
theorem pJ {x : Ss} : List.map eR x.row = x.row := rfl
theorem iK {x : Ss} : cellsOf (.agg x.row) = some x.row := rfl
theorem iW {m : Mem} {x : Ss} : newVar m m.vars.length x.row = some (m.push x.row) := bF rfl
theorem yH {m : Mem} {r : Nat} {x : Ss} (hv : m.var r = some x.row) : aL Tryz.prog m 46 (.ptr r 0) = some (.agg x.row) := bY (off := 0) hv tM bPi nbT rfl
def cL : List AV := [.v (.int .i64 0), .v (.int .i64 0), .v (.int .i64 0), .v (.bool false), .v (.int .i64 0), .v (.int .i64 0), .v (.bool false), .v (.int .i64 0), .v (.int .i64 0), .v (.int .i64 0), .v (.int .i64 0), .lst .full 2 [], .lst .full 1 [], .v (.int .i64 0), .lst .full 1 []]
theorem aVs : zeroCells Tryz.prog 46 = some cL := by kernel_rfl
theorem aUj : cL.all okCell = true := rfl
theorem bDj {m : Mem} : newVar m m.vars.length cL = some (m.push cL) := bF rfl
theorem cCd : List.map eR cL = ss0.row := rfl
theorem aMw : cN Tryz.prog 46 [] = some (.agg cL) := by kernel_rfl
theorem vW {r : Nat} : aD Tryz.prog 46 (.ptr r 0) 0 = some (.ptr r 0) := by kernel_rfl
theorem vA {m : Mem} {r : Nat} {x : Ss} (hv : m.var r = some x.row) : aL Tryz.prog m 3 (.ptr r 0) = some (iv x.step) := aK (k := 1) hv (by kernel_rfl) (by kernel_rfl) rfl
theorem nF {r : Nat} : aD Tryz.prog 46 (.ptr r 0) 1 = some (.ptr r 1) := by kernel_rfl
theorem rY {m : Mem} {r : Nat} {x : Ss} (hv : m.var r = some x.row) : aL Tryz.prog m 3 (.ptr r 1) = some (iv x.status) := aK (k := 1) hv (by kernel_rfl) (by kernel_rfl) rfl
theorem aBc {r : Nat} : aD Tryz.prog 46 (.ptr r 0) 2 = some (.ptr r 2) := by kernel_rfl
theorem aHv {m : Mem} {r : Nat} {x : Ss} (hv : m.var r = some x.row) : aL Tryz.prog m 3 (.ptr r 2) = some (iv x.ended) := aK (k := 1) hv (by kernel_rfl) (by kernel_rfl) rfl
theorem aNy {r : Nat} : aD Tryz.prog 46 (.ptr r 0) 3 = some (.ptr r 3) := by kernel_rfl
theorem aZm {m : Mem} {r : Nat} {x : Ss} (hv : m.var r = some x.row) : aL Tryz.prog m 38 (.ptr r 3) = some (.agg x.stop.row) := bY hv (k := 3) (by kernel_rfl) (by kernel_rfl) nbT rfl
theorem aVl {r : Nat} : aD Tryz.prog 38 (.ptr r 3) 1 = some (.ptr r 4) := by kernel_rfl
theorem aUv {m : Mem} {r : Nat} {x : Ss} (hv : m.var r = some x.row) : aL Tryz.prog m 3 (.ptr r 4) = some (iv x.stop.best) := aK (k := 1) hv (by kernel_rfl) (by kernel_rfl) rfl
theorem aKj {r : Nat} : aD Tryz.prog 46 (.ptr r 0) 4 = some (.ptr r 6) := by kernel_rfl
theorem bGz {m : Mem} {r : Nat} {x : Ss} (hv : m.var r = some x.row) : aL Tryz.prog m 40 (.ptr r 6) = some (.agg x.cut.row) := bY hv (k := 5) (by kernel_rfl) (by kernel_rfl) nbT rfl
theorem aD7 {r : Nat} : aD Tryz.prog 40 (.ptr r 6) 0 = some (.ptr r 6) := by kernel_rfl
theorem aVi {m : Mem} {r : Nat} {x : Ss} (hv : m.var r = some x.row) : aL Tryz.prog m 38 (.ptr r 6) = some (.agg x.cut.watch.row) := bY hv (k := 3) (by kernel_rfl) (by kernel_rfl) nbT rfl
theorem yC {r : Nat} : aD Tryz.prog 38 (.ptr r 6) 2 = some (.ptr r 8) := by kernel_rfl
theorem aKc {m : Mem} {r : Nat} {x : Ss} (hv : m.var r = some x.row) : aL Tryz.prog m 3 (.ptr r 8) = some (iv x.cut.watch.bad) := aK (k := 1) hv (by kernel_rfl) (by kernel_rfl) rfl
theorem aJr {r : Nat} : aD Tryz.prog 40 (.ptr r 6) 1 = some (.ptr r 9) := by kernel_rfl
theorem aVt {m : Mem} {r : Nat} {x : Ss} (hv : m.var r = some x.row) : aL Tryz.prog m 3 (.ptr r 9) = some (iv x.cut.rest) := aK (k := 1) hv (by kernel_rfl) (by kernel_rfl) rfl
theorem yJ {r : Nat} : aD Tryz.prog 46 (.ptr r 0) 5 = some (.ptr r 11) := by kernel_rfl
theorem aZd {m : Mem} {r : Nat} {x : Ss} (hv : m.var r = some x.row) : aL Tryz.prog m 41 (.ptr r 11) = some (.lst .no 2 (bR x.kept)) := aK (k := 1) hv (by kernel_rfl) (by kernel_rfl) rfl
theorem aS9 {r : Nat} : aD Tryz.prog 46 (.ptr r 0) 6 = some (.ptr r 12) := by kernel_rfl
theorem bFe {m : Mem} {r : Nat} {x : Ss} (hv : m.var r = some x.row) : aL Tryz.prog m 42 (.ptr r 12) = some (.lst .no 1 (cG x.ema)) := aK (k := 1) hv (by kernel_rfl) (by kernel_rfl) rfl
theorem aT2 {r : Nat} : aD Tryz.prog 46 (.ptr r 0) 7 = some (.ptr r 13) := by kernel_rfl
theorem aEw {r : Nat} : aD Tryz.prog 44 (.ptr r 13) 0 = some (.ptr r 13) := by kernel_rfl
theorem aVc {m : Mem} {r : Nat} {x : Ss} (hv : m.var r = some x.row) : aL Tryz.prog m 3 (.ptr r 13) = some (iv x.swa.count) := aK (k := 1) hv (by kernel_rfl) (by kernel_rfl) rfl
theorem aAa {r : Nat} : aD Tryz.prog 44 (.ptr r 13) 1 = some (.ptr r 14) := by kernel_rfl
theorem aJ3 {m : Mem} {r : Nat} {x : Ss} (hv : m.var r = some x.row) : aL Tryz.prog m 42 (.ptr r 14) = some (.lst .no 1 (cG x.swa.sums)) := aK (k := 1) hv (by kernel_rfl) (by kernel_rfl) rfl
/-! ### api.Event -/
structure Evt where
 step : Int
 kind : Int
 item : Int
def Evt.row (x : Evt) : List AV := [iv x.step, iv x.kind, iv x.item]
def bE1 : List AV → Option Evt
 | [.v (.int .i64 c0), .v (.int .i64 c1), .v (.int .i64 c2)] => some ⟨c0, c1, c2⟩
 | _ => none
theorem bA0 {cs : List AV} {x : Evt} (h : bE1 cs = some x) : cs = x.row := by
 unfold bE1 at h
 split at h
 ·cases h; rfl
 ·cases h
theorem bLc (x : Evt) : bE1 x.row = some x := by
 rfl
def fR (l : List Evt) : List (List AV) := l.map Evt.row
theorem aIt (l : List Evt) : (fR l).length = l.length := List.length_map ..
theorem aWs (l l2 : List Evt) : fR l ++ fR l2 = fR (l ++ l2) := List.map_append.symm
def aC7 : List (List AV) → Option (List Evt)
 | [] => some []
 | row :: r =>
  match bE1 row, aC7 r with
  | some x, some l => some (x :: l)
  | _, _ => none
theorem aJw : ∀ {rs : List (List AV)} {l : List Evt}, aC7 rs = some l → rs = fR l
 | [], l, h => by simp only [aC7, Option.some.injEq] at h; subst h; rfl
 | row :: r, l, h => by
  unfold aC7 at h
  split at h
  ·rename_i x l' h1 h2
   cases h
   rw [bA0 h1, aJw h2]
   rfl
  ·cases h
theorem zJ : ∀ (l : List Evt), aC7 (fR l) = some l
 | [] => rfl
 | x :: l => by
  have e : fR (x :: l) = x.row :: fR l := rfl
  rw [e, aC7, bLc, zJ l]
theorem bP9 : mS Tryz.prog 63 63 3 = true := by kernel_rfl
theorem bX9 {x : Evt} : bG Tryz.prog 63 1 [(0, .agg x.row)] = some (.lst .full 3 (fR [x])) := iZ bP9 (by decide) rfl rfl
/-! ### api.Out -/
structure Ou where
 step : Int
 phase : Int
 values : List Int
 frozen : List Bool
 events : List Evt
 status : Int
def ou0 : Ou := ⟨0, 0, [], [], [], 0⟩
def Ou.rowG (x : Ou) (g : Grow) : List AV := [iv x.step, iv x.phase, .lst .no 1 (cG x.values), .lst .no 1 (eA x.frozen), .lst g 3 (fR x.events), iv x.status]
abbrev Ou.row (x : Ou) : List AV := x.rowG .no
def kU (l : List Ou) : List (List AV) := l.map Ou.row
theorem xF (l : List Ou) : (kU l).length = l.length := List.length_map ..
theorem bBf (l l2 : List Ou) : kU l ++ kU l2 = kU (l ++ l2) := List.map_append.symm
theorem bW2 : mS Tryz.prog 48 48 6 = true := by kernel_rfl
theorem cBt {x : Ou} : bG Tryz.prog 48 1 [(0, .agg x.row)] = some (.lst .full 6 (kU [x])) := iZ bW2 (by decide) rfl rfl
theorem aEy : cA Tryz.prog 65 = some 6 := by kernel_rfl
theorem bZz : oP Tryz.prog 65 = some true := by kernel_rfl
theorem aWt {x : Ou} {g : Grow} : List.map eR (x.rowG g) = x.row := rfl
theorem aKt {x : Ou} {g : Grow} : cellsOf (.agg (x.rowG g)) = some (x.rowG g) := rfl
theorem bLx {m : Mem} {r : Nat} {x : Ou} {g : Grow} (hv : m.var r = some (x.rowG g)) : aL Tryz.prog m 65 (.ptr r 0) = some (.agg (x.rowG g)) := bY (off := 0) hv aEy bZz nbT rfl
def dX : List AV := [.v (.int .i64 0), .v (.int .i64 0), .lst .full 1 [], .lst .full 1 [], .lst .full 3 [], .v (.int .i64 0)]
theorem bKu : zeroCells Tryz.prog 65 = some dX := by kernel_rfl
theorem bHh : dX.all okCell = true := rfl
theorem bH1 {m : Mem} : newVar m m.vars.length dX = some (m.push dX) := bF rfl
theorem bQ8 : cN Tryz.prog 65 [] = some (.agg dX) := by kernel_rfl
theorem bDk {r : Nat} : aD Tryz.prog 65 (.ptr r 0) 4 = some (.ptr r 4) := by kernel_rfl
theorem bC2 {r : Nat} : aD Tryz.prog 65 (.ptr r 0) 5 = some (.ptr r 5) := by kernel_rfl
/-! ### api.Rule -/
structure Ru where
 max : Bool
 delta : Int
 rel : Bool
def Ru.row (x : Ru) : List AV := [.v (.bool x.max), iv x.delta, .v (.bool x.rel)]
def aZa : List AV → Option Ru
 | [.v (.bool c0), .v (.int .i64 c1), .v (.bool c2)] => some ⟨c0, c1, c2⟩
 | _ => none
theorem nJ {cs : List AV} {x : Ru} (h : aZa cs = some x) : cs = x.row := by
 unfold aZa at h
 split at h
 ·cases h; rfl
 ·cases h
theorem uN (x : Ru) : aZa x.row = some x := by
 rfl
theorem cDu : cA Tryz.prog 57 = some 3 := by kernel_rfl
theorem cDo : oP Tryz.prog 57 = some true := by kernel_rfl
theorem vS {x : Ru} : List.map eR x.row = x.row := rfl
theorem oG {x : Ru} : cellsOf (.agg x.row) = some x.row := rfl
theorem rM {m : Mem} {x : Ru} : newVar m m.vars.length x.row = some (m.push x.row) := bF rfl
theorem bSp {m : Mem} {r : Nat} {x : Ru} (hv : m.var r = some x.row) : aL Tryz.prog m 57 (.ptr r 0) = some (.agg x.row) := bY (off := 0) hv cDu cDo nbT rfl
theorem wD {r : Nat} : aD Tryz.prog 57 (.ptr r 0) 0 = some (.ptr r 0) := by kernel_rfl
theorem bFl {m : Mem} {r : Nat} {x : Ru} (hv : m.var r = some x.row) : aL Tryz.prog m 4 (.ptr r 0) = some (.v (.bool x.max)) := aK (k := 1) hv (by kernel_rfl) (by kernel_rfl) rfl
theorem nW {r : Nat} : aD Tryz.prog 57 (.ptr r 0) 1 = some (.ptr r 1) := by kernel_rfl
theorem aPx {m : Mem} {r : Nat} {x : Ru} (hv : m.var r = some x.row) : aL Tryz.prog m 3 (.ptr r 1) = some (iv x.delta) := aK (k := 1) hv (by kernel_rfl) (by kernel_rfl) rfl
theorem xN {r : Nat} : aD Tryz.prog 57 (.ptr r 0) 2 = some (.ptr r 2) := by kernel_rfl
theorem bF4 {m : Mem} {r : Nat} {x : Ru} (hv : m.var r = some x.row) : aL Tryz.prog m 4 (.ptr r 2) = some (.v (.bool x.rel)) := aK (k := 1) hv (by kernel_rfl) (by kernel_rfl) rfl
end
end Go.Proofs.YtmockbddhhmmeaaGreat.Ev
