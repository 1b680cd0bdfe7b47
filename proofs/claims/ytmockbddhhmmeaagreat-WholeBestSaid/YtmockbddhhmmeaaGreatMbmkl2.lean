/- Words of struct types: Wt, Ct, Kt, Sm, Rd, In, Ss, Evt, Ou, Ru. -/
import Derived.Test.YtmockbddhhmmeaaGreatMbmkl1
namespace Go.Proofs.YtmockbddhhmmeaaGreat.Ev
open Go Go.Proofs
set_option maxRecDepth 10000
set_option maxHeartbeats 8000000
set_option linter.unusedVariables false
set_option linter.unusedSimpArgs false
section
attribute [local irreducible] Next Inside Runs Ops table
/-! ### api.Watch -/
structure Wt where
 has : Bool
 best : Int
 bad : Int
def wt0 : Wt := ⟨false, 0, 0⟩
def Wt.row (x : Wt) : List AV := [.v (.bool x.has), iv x.best, iv x.bad]
def unWt : List AV → Option Wt
 | [.v (.bool c0), .v (.int .i64 c1), .v (.int .i64 c2)] => some ⟨c0, c1, c2⟩
 | _ => none
theorem unWt_some {cs : List AV} {x : Wt} (h : unWt cs = some x) : cs = x.row := by
 unfold unWt at h
 split at h
 ·cases h; rfl
 ·cases h
theorem unWt_row (x : Wt) : unWt x.row = some x := by
 rfl
theorem szWt : tSize Tryz.prog 38 = some 3 := by kernel_rfl
theorem agWt : tAgg Tryz.prog 38 = some true := by kernel_rfl
theorem mapWt {x : Wt} : List.map argCell x.row = x.row := rfl
theorem cellsWt {x : Wt} : cellsOf (.agg x.row) = some x.row := rfl
theorem newWt {m : Mem} {x : Wt} : newVar m m.vars.length x.row = some (m.push x.row) := newVar_push rfl
theorem vrWt {m : Mem} {r : Nat} {x : Wt} (hv : m.var r = some x.row) : evLoad Tryz.prog m 38 (.ptr r 0) = some (.agg x.row) := load_sub (off := 0) hv szWt agWt (Nat.le_of_ble_eq_true rfl) rfl
def zeroWt : List AV := [.v (.bool false), .v (.int .i64 0), .v (.int .i64 0)]
theorem zrWt : zeroCells Tryz.prog 38 = some zeroWt := by kernel_rfl
theorem zoWt : zeroWt.all okCell = true := rfl
theorem znWt {m : Mem} : newVar m m.vars.length zeroWt = some (m.push zeroWt) := newVar_push rfl
theorem mk0Wt : evBuild Tryz.prog 38 [] = some (.agg zeroWt) := by kernel_rfl
theorem niWt : noIface Tryz.prog 8 38 = true := by kernel_rfl
theorem eqWt {x y : Wt} : eqTy Tryz.prog 8 38 (.agg x.row) (.agg y.row) = some ((x.has == y.has) && ((x.best == y.best) && ((x.bad == y.bad) && true))) := by kernel_rfl
theorem fpWtHas {r : Nat} : evFieldAddr Tryz.prog 38 (.ptr r 0) 0 = some (.ptr r 0) := by kernel_rfl
theorem lpWtHas {m : Mem} {r : Nat} {x : Wt} (hv : m.var r = some x.row) : evLoad Tryz.prog m 4 (.ptr r 0) = some (.v (.bool x.has)) := load_cell (k := 1) hv (by kernel_rfl) (by kernel_rfl) rfl
theorem fpWtBest {r : Nat} : evFieldAddr Tryz.prog 38 (.ptr r 0) 1 = some (.ptr r 1) := by kernel_rfl
theorem lpWtBest {m : Mem} {r : Nat} {x : Wt} (hv : m.var r = some x.row) : evLoad Tryz.prog m 3 (.ptr r 1) = some (iv x.best) := load_cell (k := 1) hv (by kernel_rfl) (by kernel_rfl) rfl
theorem fpWtBad {r : Nat} : evFieldAddr Tryz.prog 38 (.ptr r 0) 2 = some (.ptr r 2) := by kernel_rfl
theorem lpWtBad {m : Mem} {r : Nat} {x : Wt} (hv : m.var r = some x.row) : evLoad Tryz.prog m 3 (.ptr r 2) = some (iv x.bad) := load_cell (k := 1) hv (by kernel_rfl) (by kernel_rfl) rfl
/-! ### api.Cut -/
structure Ct where
 watch : Wt
 rest : Int
 scale : Int
def ct0 : Ct := ⟨wt0, 0, 0⟩
def Ct.row (x : Ct) : List AV := [.v (.bool x.watch.has), iv x.watch.best, iv x.watch.bad, iv x.rest, iv x.scale]
def unCt : List AV → Option Ct
 | [.v (.bool c0), .v (.int .i64 c1), .v (.int .i64 c2), .v (.int .i64 c3), .v (.int .i64 c4)] => some ⟨⟨c0, c1, c2⟩, c3, c4⟩
 | _ => none
theorem unCt_some {cs : List AV} {x : Ct} (h : unCt cs = some x) : cs = x.row := by
 unfold unCt at h
 split at h
 ·cases h; rfl
 ·cases h
theorem unCt_row (x : Ct) : unCt x.row = some x := by
 rfl
theorem szCt : tSize Tryz.prog 40 = some 5 := by kernel_rfl
theorem agCt : tAgg Tryz.prog 40 = some true := by kernel_rfl
theorem mapCt {x : Ct} : List.map argCell x.row = x.row := rfl
theorem cellsCt {x : Ct} : cellsOf (.agg x.row) = some x.row := rfl
theorem newCt {m : Mem} {x : Ct} : newVar m m.vars.length x.row = some (m.push x.row) := newVar_push rfl
theorem vrCt {m : Mem} {r : Nat} {x : Ct} (hv : m.var r = some x.row) : evLoad Tryz.prog m 40 (.ptr r 0) = some (.agg x.row) := load_sub (off := 0) hv szCt agCt (Nat.le_of_ble_eq_true rfl) rfl
def zeroCt : List AV := [.v (.bool false), .v (.int .i64 0), .v (.int .i64 0), .v (.int .i64 0), .v (.int .i64 0)]
theorem zrCt : zeroCells Tryz.prog 40 = some zeroCt := by kernel_rfl
theorem zoCt : zeroCt.all okCell = true := rfl
theorem znCt {m : Mem} : newVar m m.vars.length zeroCt = some (m.push zeroCt) := newVar_push rfl
theorem niCt : noIface Tryz.prog 8 40 = true := by kernel_rfl
theorem eqCt {x y : Ct} : eqTy Tryz.prog 8 40 (.agg x.row) (.agg y.row) = some (((x.watch.has == y.watch.has) && ((x.watch.best == y.watch.best) && ((x.watch.bad == y.watch.bad) && true))) && ((x.rest == y.rest) && ((x.scale == y.scale) && true))) := by kernel_rfl
theorem fpCtWatch {r : Nat} : evFieldAddr Tryz.prog 40 (.ptr r 0) 0 = some (.ptr r 0) := by kernel_rfl
theorem lpCtWatch {m : Mem} {r : Nat} {x : Ct} (hv : m.var r = some x.row) : evLoad Tryz.prog m 38 (.ptr r 0) = some (.agg x.watch.row) := load_sub hv (k := 3) (by kernel_rfl) (by kernel_rfl) (Nat.le_of_ble_eq_true rfl) rfl
theorem fpCtWatchHas {r : Nat} : evFieldAddr Tryz.prog 38 (.ptr r 0) 0 = some (.ptr r 0) := by kernel_rfl
theorem lpCtWatchHas {m : Mem} {r : Nat} {x : Ct} (hv : m.var r = some x.row) : evLoad Tryz.prog m 4 (.ptr r 0) = some (.v (.bool x.watch.has)) := load_cell (k := 1) hv (by kernel_rfl) (by kernel_rfl) rfl
theorem fpCtWatchBad {r : Nat} : evFieldAddr Tryz.prog 38 (.ptr r 0) 2 = some (.ptr r 2) := by kernel_rfl
theorem lpCtWatchBad {m : Mem} {r : Nat} {x : Ct} (hv : m.var r = some x.row) : evLoad Tryz.prog m 3 (.ptr r 2) = some (iv x.watch.bad) := load_cell (k := 1) hv (by kernel_rfl) (by kernel_rfl) rfl
theorem fpCtRest {r : Nat} : evFieldAddr Tryz.prog 40 (.ptr r 0) 1 = some (.ptr r 3) := by kernel_rfl
theorem lpCtRest {m : Mem} {r : Nat} {x : Ct} (hv : m.var r = some x.row) : evLoad Tryz.prog m 3 (.ptr r 3) = some (iv x.rest) := load_cell (k := 1) hv (by kernel_rfl) (by kernel_rfl) rfl
theorem fpCtScale {r : Nat} : evFieldAddr Tryz.prog 40 (.ptr r 0) 2 = some (.ptr r 4) := by kernel_rfl
theorem lpCtScale {m : Mem} {r : Nat} {x : Ct} (hv : m.var r = some x.row) : evLoad Tryz.prog m 3 (.ptr r 4) = some (iv x.scale) := load_cell (k := 1) hv (by kernel_rfl) (by kernel_rfl) rfl
/-! ### api.Kept -/
structure Kt where
 step : Int
 val : Int
def kt0 : Kt := ⟨0, 0⟩
def Kt.row (x : Kt) : List AV := [iv x.step, iv x.val]
def unKt : List AV → Option Kt
 | [.v (.int .i64 c0), .v (.int .i64 c1)] => some ⟨c0, c1⟩
 | _ => none
theorem unKt_some {cs : List AV} {x : Kt} (h : unKt cs = some x) : cs = x.row := by
 unfold unKt at h
 split at h
 ·cases h; rfl
 ·cases h
theorem unKt_row (x : Kt) : unKt x.row = some x := by
 rfl
def rowsKt (l : List Kt) : List (List AV) := l.map Kt.row
theorem rowsKt_len (l : List Kt) : (rowsKt l).length = l.length := List.length_map ..
theorem rowsKt_app (l l2 : List Kt) : rowsKt l ++ rowsKt l2 = rowsKt (l ++ l2) := List.map_append.symm
theorem rowsKt_take (l : List Kt) (i : Nat) : (rowsKt l).take i = rowsKt (l.take i) := List.map_take.symm
theorem rowsKt_get {l : List Kt} {i : Nat} (hi : i < l.length) : (rowsKt l)[i]? = some (l.getD i kt0).row := by
 simp [rowsKt, List.getD, List.getElem?_eq_getElem hi]
def unsKt : List (List AV) → Option (List Kt)
 | [] => some []
 | row :: r =>
  match unKt row, unsKt r with
  | some x, some l => some (x :: l)
  | _, _ => none
theorem unsKt_some : ∀ {rs : List (List AV)} {l : List Kt}, unsKt rs = some l → rs = rowsKt l
 | [], l, h => by simp only [unsKt, Option.some.injEq] at h; subst h; rfl
 | row :: r, l, h => by
  unfold unsKt at h
  split at h
  ·rename_i x l' h1 h2
   cases h
   rw [unKt_some h1, unsKt_some h2]
   rfl
  ·cases h
theorem unsKt_rowsKt : ∀ (l : List Kt), unsKt (rowsKt l) = some l
 | [] => rfl
 | x :: l => by
  have e : rowsKt (x :: l) = x.row :: rowsKt l := rfl
  rw [e, unsKt, unKt_row, unsKt_rowsKt l]
theorem elKt : tElem Tryz.prog 41 = some 54 := by simp only [tElem, Tryz.underlying41]
theorem naKt : tArr Tryz.prog 41 = none := by simp only [tArr, Tryz.underlying41]
theorem appKt : appB Tryz.prog 41 41 2 = true := by kernel_rfl
theorem mk1Kt {x : Kt} : evBuildSlice Tryz.prog 41 1 [(0, .agg x.row)] = some (.lst .full 2 (rowsKt [x])) := build_one appKt (by decide) rfl rfl
theorem szKt : tSize Tryz.prog 54 = some 2 := by kernel_rfl
theorem agKt : tAgg Tryz.prog 54 = some true := by kernel_rfl
theorem atKt {g : Grow} {kk : IntKind} {l : List Kt} {i : Nat} (hi : i < l.length) : evIndexAddr Tryz.prog 41 (.lst g 2 (rowsKt l)) (.v (.int kk (i : Int))) = some (.eptr (l.getD i kt0).row) := at_list elKt naKt szKt (rowsKt_get hi)
theorem mapKt {x : Kt} : List.map argCell x.row = x.row := rfl
theorem cellsKt {x : Kt} : cellsOf (.agg x.row) = some x.row := rfl
theorem newKt {m : Mem} {x : Kt} : newVar m m.vars.length x.row = some (m.push x.row) := newVar_push rfl
theorem ldKt {m : Mem} {x : Kt} : evLoad Tryz.prog m 54 (.eptr x.row) = some (.agg x.row) := by kernel_rfl
theorem vrKt {m : Mem} {r : Nat} {x : Kt} (hv : m.var r = some x.row) : evLoad Tryz.prog m 54 (.ptr r 0) = some (.agg x.row) := load_sub (off := 0) hv szKt agKt (Nat.le_of_ble_eq_true rfl) rfl
def zeroKt : List AV := [.v (.int .i64 0), .v (.int .i64 0)]
theorem zrKt : zeroCells Tryz.prog 54 = some zeroKt := by kernel_rfl
theorem zoKt : zeroKt.all okCell = true := rfl
theorem znKt {m : Mem} : newVar m m.vars.length zeroKt = some (m.push zeroKt) := newVar_push rfl
theorem mk0Kt : evBuild Tryz.prog 54 [] = some (.agg zeroKt) := by kernel_rfl
theorem niKt : noIface Tryz.prog 8 54 = true := by kernel_rfl
theorem eqKt {x y : Kt} : eqTy Tryz.prog 8 54 (.agg x.row) (.agg y.row) = some ((x.step == y.step) && ((x.val == y.val) && true)) := by kernel_rfl
theorem feKtStep {x : Kt} : evFieldAddr Tryz.prog 54 (.eptr x.row) 0 = some (.eptr x.row) := by kernel_rfl
theorem leKtStep {m : Mem} {x : Kt} : evLoad Tryz.prog m 3 (.eptr x.row) = some (iv x.step) := by kernel_rfl
theorem fpKtStep {r : Nat} : evFieldAddr Tryz.prog 54 (.ptr r 0) 0 = some (.ptr r 0) := by kernel_rfl
theorem lpKtStep {m : Mem} {r : Nat} {x : Kt} (hv : m.var r = some x.row) : evLoad Tryz.prog m 3 (.ptr r 0) = some (iv x.step) := load_cell (k := 1) hv (by kernel_rfl) (by kernel_rfl) rfl
theorem feKtVal {x : Kt} : evFieldAddr Tryz.prog 54 (.eptr x.row) 1 = some (.eptr (x.row.drop 1)) := by kernel_rfl
theorem leKtVal {m : Mem} {x : Kt} : evLoad Tryz.prog m 3 (.eptr (x.row.drop 1)) = some (iv x.val) := by kernel_rfl
theorem fpKtVal {r : Nat} : evFieldAddr Tryz.prog 54 (.ptr r 0) 1 = some (.ptr r 1) := by kernel_rfl
theorem lpKtVal {m : Mem} {r : Nat} {x : Kt} (hv : m.var r = some x.row) : evLoad Tryz.prog m 3 (.ptr r 1) = some (iv x.val) := load_cell (k := 1) hv (by kernel_rfl) (by kernel_rfl) rfl
/-! ### api.Sum -/
structure Sm where
 count : Int
 sums : List Int
def sm0 : Sm := ⟨0, []⟩
def Sm.row (x : Sm) : List AV := [iv x.count, .lst .no 1 (rowsI x.sums)]
def unSm : List AV → Option Sm
 | [.v (.int .i64 c0), .lst .no 1 c1] =>
  match unJ c1 with
  | some l1 => some ⟨c0, l1⟩
  | _ => none
 | _ => none
theorem unSm_some {cs : List AV} {x : Sm} (h : unSm cs = some x) : cs = x.row := by
 unfold unSm at h
 split at h
 ·split at h
  ·rename_i h1
   cases h
   obtain rfl := unJ_some h1
   rfl
  ·cases h
 ·cases h
theorem unSm_row (x : Sm) : unSm x.row = some x := by
 simp only [unSm, Sm.row, iv, unJ_rowsI]
theorem szSm : tSize Tryz.prog 44 = some 2 := by kernel_rfl
theorem agSm : tAgg Tryz.prog 44 = some true := by kernel_rfl
theorem mapSm {x : Sm} : List.map argCell x.row = x.row := rfl
theorem cellsSm {x : Sm} : cellsOf (.agg x.row) = some x.row := rfl
theorem newSm {m : Mem} {x : Sm} : newVar m m.vars.length x.row = some (m.push x.row) := newVar_push rfl
theorem vrSm {m : Mem} {r : Nat} {x : Sm} (hv : m.var r = some x.row) : evLoad Tryz.prog m 44 (.ptr r 0) = some (.agg x.row) := load_sub (off := 0) hv szSm agSm (Nat.le_of_ble_eq_true rfl) rfl
def zeroSm : List AV := [.v (.int .i64 0), .lst .full 1 []]
theorem zrSm : zeroCells Tryz.prog 44 = some zeroSm := by kernel_rfl
theorem zoSm : zeroSm.all okCell = true := rfl
theorem znSm {m : Mem} : newVar m m.vars.length zeroSm = some (m.push zeroSm) := newVar_push rfl
theorem mk0Sm : evBuild Tryz.prog 44 [] = some (.agg zeroSm) := by kernel_rfl
theorem fpSmCount {r : Nat} : evFieldAddr Tryz.prog 44 (.ptr r 0) 0 = some (.ptr r 0) := by kernel_rfl
theorem lpSmCount {m : Mem} {r : Nat} {x : Sm} (hv : m.var r = some x.row) : evLoad Tryz.prog m 3 (.ptr r 0) = some (iv x.count) := load_cell (k := 1) hv (by kernel_rfl) (by kernel_rfl) rfl
theorem fpSmSums {r : Nat} : evFieldAddr Tryz.prog 44 (.ptr r 0) 1 = some (.ptr r 1) := by kernel_rfl
theorem lpSmSums {m : Mem} {r : Nat} {x : Sm} (hv : m.var r = some x.row) : evLoad Tryz.prog m 42 (.ptr r 1) = some (.lst .no 1 (rowsI x.sums)) := load_cell (k := 1) hv (by kernel_rfl) (by kernel_rfl) rfl
/-! ### api.Reading -/
structure Rd where
 has : Bool
 val : Int
def rd0 : Rd := ⟨false, 0⟩
def Rd.row (x : Rd) : List AV := [.v (.bool x.has), iv x.val]
def unRd : List AV → Option Rd
 | [.v (.bool c0), .v (.int .i64 c1)] => some ⟨c0, c1⟩
 | _ => none
theorem unRd_some {cs : List AV} {x : Rd} (h : unRd cs = some x) : cs = x.row := by
 unfold unRd at h
 split at h
 ·cases h; rfl
 ·cases h
theorem unRd_row (x : Rd) : unRd x.row = some x := by
 rfl
def rowsRd (l : List Rd) : List (List AV) := l.map Rd.row
theorem rowsRd_len (l : List Rd) : (rowsRd l).length = l.length := List.length_map ..
theorem rowsRd_get {l : List Rd} {i : Nat} (hi : i < l.length) : (rowsRd l)[i]? = some (l.getD i rd0).row := by
 simp [rowsRd, List.getD, List.getElem?_eq_getElem hi]
def unsRd : List (List AV) → Option (List Rd)
 | [] => some []
 | row :: r =>
  match unRd row, unsRd r with
  | some x, some l => some (x :: l)
  | _, _ => none
theorem unsRd_some : ∀ {rs : List (List AV)} {l : List Rd}, unsRd rs = some l → rs = rowsRd l
 | [], l, h => by simp only [unsRd, Option.some.injEq] at h; subst h; rfl
 | row :: r, l, h => by
  unfold unsRd at h
  split at h
  ·rename_i x l' h1 h2
   cases h
   rw [unRd_some h1, unsRd_some h2]
   rfl
  ·cases h
theorem unsRd_rowsRd : ∀ (l : List Rd), unsRd (rowsRd l) = some l
 | [] => rfl
 | x :: l => by
  have e : rowsRd (x :: l) = x.row :: rowsRd l := rfl
  rw [e, unsRd, unRd_row, unsRd_rowsRd l]
theorem elRd : tElem Tryz.prog 80 = some 89 := by simp only [tElem, Tryz.underlying80]
theorem naRd : tArr Tryz.prog 80 = none := by simp only [tArr, Tryz.underlying80]
theorem appRd : appB Tryz.prog 80 80 2 = true := by kernel_rfl
theorem mk1Rd {x : Rd} : evBuildSlice Tryz.prog 80 1 [(0, .agg x.row)] = some (.lst .full 2 (rowsRd [x])) := build_one appRd (by decide) rfl rfl
theorem szRd : tSize Tryz.prog 89 = some 2 := by kernel_rfl
theorem atRd {g : Grow} {kk : IntKind} {l : List Rd} {i : Nat} (hi : i < l.length) : evIndexAddr Tryz.prog 80 (.lst g 2 (rowsRd l)) (.v (.int kk (i : Int))) = some (.eptr (l.getD i rd0).row) := at_list elRd naRd szRd (rowsRd_get hi)
theorem mapRd {x : Rd} : List.map argCell x.row = x.row := rfl
theorem cellsRd {x : Rd} : cellsOf (.agg x.row) = some x.row := rfl
theorem newRd {m : Mem} {x : Rd} : newVar m m.vars.length x.row = some (m.push x.row) := newVar_push rfl
theorem ldRd {m : Mem} {x : Rd} : evLoad Tryz.prog m 89 (.eptr x.row) = some (.agg x.row) := by kernel_rfl
def zeroRd : List AV := [.v (.bool false), .v (.int .i64 0)]
theorem zrRd : zeroCells Tryz.prog 89 = some zeroRd := by kernel_rfl
theorem zoRd : zeroRd.all okCell = true := rfl
theorem znRd {m : Mem} : newVar m m.vars.length zeroRd = some (m.push zeroRd) := newVar_push rfl
theorem feRdHas {x : Rd} : evFieldAddr Tryz.prog 89 (.eptr x.row) 0 = some (.eptr x.row) := by kernel_rfl
theorem leRdHas {m : Mem} {x : Rd} : evLoad Tryz.prog m 4 (.eptr x.row) = some (.v (.bool x.has)) := by kernel_rfl
theorem fpRdHas {r : Nat} : evFieldAddr Tryz.prog 89 (.ptr r 0) 0 = some (.ptr r 0) := by kernel_rfl
theorem lpRdHas {m : Mem} {r : Nat} {x : Rd} (hv : m.var r = some x.row) : evLoad Tryz.prog m 4 (.ptr r 0) = some (.v (.bool x.has)) := load_cell (k := 1) hv (by kernel_rfl) (by kernel_rfl) rfl
theorem feRdVal {x : Rd} : evFieldAddr Tryz.prog 89 (.eptr x.row) 1 = some (.eptr (x.row.drop 1)) := by kernel_rfl
theorem leRdVal {m : Mem} {x : Rd} : evLoad Tryz.prog m 3 (.eptr (x.row.drop 1)) = some (iv x.val) := by kernel_rfl
theorem fpRdVal {r : Nat} : evFieldAddr Tryz.prog 89 (.ptr r 0) 1 = some (.ptr r 1) := by kernel_rfl
theorem lpRdVal {m : Mem} {r : Nat} {x : Rd} (hv : m.var r = some x.row) : evLoad Tryz.prog m 3 (.ptr r 1) = some (iv x.val) := load_cell (k := 1) hv (by kernel_rfl) (by kernel_rfl) rfl
/-! ### api.Input -/
structure In where
 readings : List Rd
 weights : List Int
def in0 : In := ⟨[], []⟩
def In.row (x : In) : List AV := [.lst .no 2 (rowsRd x.readings), .lst .no 1 (rowsI x.weights)]
def unIn : List AV → Option In
 | [.lst .no 2 c0, .lst .no 1 c1] =>
  match unsRd c0, unJ c1 with
  | some l0, some l1 => some ⟨l0, l1⟩
  | _, _ => none
 | _ => none
theorem unIn_some {cs : List AV} {x : In} (h : unIn cs = some x) : cs = x.row := by
 unfold unIn at h
 split at h
 ·split at h
  ·rename_i h0 h1
   cases h
   obtain rfl := unsRd_some h0
   obtain rfl := unJ_some h1
   rfl
  ·cases h
 ·cases h
theorem unIn_row (x : In) : unIn x.row = some x := by
 simp only [unIn, In.row, iv, unsRd_rowsRd, unJ_rowsI]
def rowsIn (l : List In) : List (List AV) := l.map In.row
theorem rowsIn_len (l : List In) : (rowsIn l).length = l.length := List.length_map ..
theorem rowsIn_take (l : List In) (i : Nat) : (rowsIn l).take i = rowsIn (l.take i) := List.map_take.symm
theorem rowsIn_get {l : List In} {i : Nat} (hi : i < l.length) : (rowsIn l)[i]? = some (l.getD i in0).row := by
 simp [rowsIn, List.getD, List.getElem?_eq_getElem hi]
def unsIn : List (List AV) → Option (List In)
 | [] => some []
 | row :: r =>
  match unIn row, unsIn r with
  | some x, some l => some (x :: l)
  | _, _ => none
theorem unsIn_some : ∀ {rs : List (List AV)} {l : List In}, unsIn rs = some l → rs = rowsIn l
 | [], l, h => by simp only [unsIn, Option.some.injEq] at h; subst h; rfl
 | row :: r, l, h => by
  unfold unsIn at h
  split at h
  ·rename_i x l' h1 h2
   cases h
   rw [unIn_some h1, unsIn_some h2]
   rfl
  ·cases h
theorem unsIn_rowsIn : ∀ (l : List In), unsIn (rowsIn l) = some l
 | [] => rfl
 | x :: l => by
  have e : rowsIn (x :: l) = x.row :: rowsIn l := rfl
  rw [e, unsIn, unIn_row, unsIn_rowsIn l]
theorem elIn : tElem Tryz.prog 35 = some 82 := by simp only [tElem, Tryz.underlying35]
theorem naIn : tArr Tryz.prog 35 = none := by simp only [tArr, Tryz.underlying35]
theorem szIn : tSize Tryz.prog 82 = some 2 := by kernel_rfl
theorem agIn : tAgg Tryz.prog 82 = some true := by kernel_rfl
theorem atIn {g : Grow} {kk : IntKind} {l : List In} {i : Nat} (hi : i < l.length) : evIndexAddr Tryz.prog 35 (.lst g 2 (rowsIn l)) (.v (.int kk (i : Int))) = some (.eptr (l.getD i in0).row) := at_list elIn naIn szIn (rowsIn_get hi)
theorem mapIn {x : In} : List.map argCell x.row = x.row := rfl
theorem cellsIn {x : In} : cellsOf (.agg x.row) = some x.row := rfl
theorem newIn {m : Mem} {x : In} : newVar m m.vars.length x.row = some (m.push x.row) := newVar_push rfl
theorem ldIn {m : Mem} {x : In} : evLoad Tryz.prog m 82 (.eptr x.row) = some (.agg x.row) := by kernel_rfl
theorem vrIn {m : Mem} {r : Nat} {x : In} (hv : m.var r = some x.row) : evLoad Tryz.prog m 82 (.ptr r 0) = some (.agg x.row) := load_sub (off := 0) hv szIn agIn (Nat.le_of_ble_eq_true rfl) rfl
def zeroIn : List AV := [.lst .full 2 [], .lst .full 1 []]
theorem zrIn : zeroCells Tryz.prog 82 = some zeroIn := by kernel_rfl
theorem zoIn : zeroIn.all okCell = true := rfl
theorem znIn {m : Mem} : newVar m m.vars.length zeroIn = some (m.push zeroIn) := newVar_push rfl
theorem feInReadings {x : In} : evFieldAddr Tryz.prog 82 (.eptr x.row) 0 = some (.eptr x.row) := by kernel_rfl
theorem leInReadings {m : Mem} {x : In} : evLoad Tryz.prog m 80 (.eptr x.row) = some (.lst .no 2 (rowsRd x.readings)) := by kernel_rfl
theorem fpInReadings {r : Nat} : evFieldAddr Tryz.prog 82 (.ptr r 0) 0 = some (.ptr r 0) := by kernel_rfl
theorem lpInReadings {m : Mem} {r : Nat} {x : In} (hv : m.var r = some x.row) : evLoad Tryz.prog m 80 (.ptr r 0) = some (.lst .no 2 (rowsRd x.readings)) := load_cell (k := 1) hv (by kernel_rfl) (by kernel_rfl) rfl
theorem feInWeights {x : In} : evFieldAddr Tryz.prog 82 (.eptr x.row) 1 = some (.eptr (x.row.drop 1)) := by kernel_rfl
theorem leInWeights {m : Mem} {x : In} : evLoad Tryz.prog m 42 (.eptr (x.row.drop 1)) = some (.lst .no 1 (rowsI x.weights)) := by kernel_rfl
theorem fpInWeights {r : Nat} : evFieldAddr Tryz.prog 82 (.ptr r 0) 1 = some (.ptr r 1) := by kernel_rfl
theorem lpInWeights {m : Mem} {r : Nat} {x : In} (hv : m.var r = some x.row) : evLoad Tryz.prog m 42 (.ptr r 1) = some (.lst .no 1 (rowsI x.weights)) := load_cell (k := 1) hv (by kernel_rfl) (by kernel_rfl) rfl
/-! ### api.State -/
structure Ss where
 step : Int
 status : Int
 ended : Int
 stop : Wt
 cut : Ct
 kept : List Kt
 ema : List Int
 swa : Sm
def ss0 : Ss := ⟨0, 0, 0, wt0, ct0, [], [], sm0⟩
def Ss.row (x : Ss) : List AV := [iv x.step, iv x.status, iv x.ended, .v (.bool x.stop.has), iv x.stop.best, iv x.stop.bad, .v (.bool x.cut.watch.has), iv x.cut.watch.best, iv x.cut.watch.bad, iv x.cut.rest, iv x.cut.scale, .lst .no 2 (rowsKt x.kept), .lst .no 1 (rowsI x.ema), iv x.swa.count, .lst .no 1 (rowsI x.swa.sums)]
def unSs : List AV → Option Ss
 | [.v (.int .i64 c0), .v (.int .i64 c1), .v (.int .i64 c2), .v (.bool c3), .v (.int .i64 c4), .v (.int .i64 c5), .v (.bool c6), .v (.int .i64 c7), .v (.int .i64 c8), .v (.int .i64 c9), .v (.int .i64 c10), .lst .no 2 c11, .lst .no 1 c12, .v (.int .i64 c13), .lst .no 1 c14] =>
  match unsKt c11, unJ c12, unJ c14 with
  | some l11, some l12, some l14 => some ⟨c0, c1, c2, ⟨c3, c4, c5⟩, ⟨⟨c6, c7, c8⟩, c9, c10⟩, l11, l12, ⟨c13, l14⟩⟩
  | _, _, _ => none
 | _ => none
theorem unSs_some {cs : List AV} {x : Ss} (h : unSs cs = some x) : cs = x.row := by
 unfold unSs at h
 split at h
 ·split at h
  ·rename_i h11 h12 h14
   cases h
   obtain rfl := unsKt_some h11
   obtain rfl := unJ_some h12
   obtain rfl := unJ_some h14
   rfl
  ·cases h
 ·cases h
theorem unSs_row (x : Ss) : unSs x.row = some x := by
 simp only [unSs, Ss.row, iv, unsKt_rowsKt, unJ_rowsI]
theorem szSs : tSize Tryz.prog 46 = some 15 := by kernel_rfl
theorem agSs : tAgg Tryz.prog 46 = some true := by kernel_rfl
theorem mapSs {x : Ss} : List.map argCell x.row = x.row := rfl
theorem cellsSs {x : Ss} : cellsOf (.agg x.row) = some x.row := rfl
theorem newSs {m : Mem} {x : Ss} : newVar m m.vars.length x.row = some (m.push x.row) := newVar_push rfl
theorem vrSs {m : Mem} {r : Nat} {x : Ss} (hv : m.var r = some x.row) : evLoad Tryz.prog m 46 (.ptr r 0) = some (.agg x.row) := load_sub (off := 0) hv szSs agSs (Nat.le_of_ble_eq_true rfl) rfl
def zeroSs : List AV := [.v (.int .i64 0), .v (.int .i64 0), .v (.int .i64 0), .v (.bool false), .v (.int .i64 0), .v (.int .i64 0), .v (.bool false), .v (.int .i64 0), .v (.int .i64 0), .v (.int .i64 0), .v (.int .i64 0), .lst .full 2 [], .lst .full 1 [], .v (.int .i64 0), .lst .full 1 []]
theorem zrSs : zeroCells Tryz.prog 46 = some zeroSs := by kernel_rfl
theorem zoSs : zeroSs.all okCell = true := rfl
theorem znSs {m : Mem} : newVar m m.vars.length zeroSs = some (m.push zeroSs) := newVar_push rfl
theorem mzSs : List.map argCell zeroSs = ss0.row := rfl
theorem mk0Ss : evBuild Tryz.prog 46 [] = some (.agg zeroSs) := by kernel_rfl
theorem fpSsStep {r : Nat} : evFieldAddr Tryz.prog 46 (.ptr r 0) 0 = some (.ptr r 0) := by kernel_rfl
theorem lpSsStep {m : Mem} {r : Nat} {x : Ss} (hv : m.var r = some x.row) : evLoad Tryz.prog m 3 (.ptr r 0) = some (iv x.step) := load_cell (k := 1) hv (by kernel_rfl) (by kernel_rfl) rfl
theorem fpSsStatus {r : Nat} : evFieldAddr Tryz.prog 46 (.ptr r 0) 1 = some (.ptr r 1) := by kernel_rfl
theorem lpSsStatus {m : Mem} {r : Nat} {x : Ss} (hv : m.var r = some x.row) : evLoad Tryz.prog m 3 (.ptr r 1) = some (iv x.status) := load_cell (k := 1) hv (by kernel_rfl) (by kernel_rfl) rfl
theorem fpSsEnded {r : Nat} : evFieldAddr Tryz.prog 46 (.ptr r 0) 2 = some (.ptr r 2) := by kernel_rfl
theorem lpSsEnded {m : Mem} {r : Nat} {x : Ss} (hv : m.var r = some x.row) : evLoad Tryz.prog m 3 (.ptr r 2) = some (iv x.ended) := load_cell (k := 1) hv (by kernel_rfl) (by kernel_rfl) rfl
theorem fpSsStop {r : Nat} : evFieldAddr Tryz.prog 46 (.ptr r 0) 3 = some (.ptr r 3) := by kernel_rfl
theorem lpSsStop {m : Mem} {r : Nat} {x : Ss} (hv : m.var r = some x.row) : evLoad Tryz.prog m 38 (.ptr r 3) = some (.agg x.stop.row) := load_sub hv (k := 3) (by kernel_rfl) (by kernel_rfl) (Nat.le_of_ble_eq_true rfl) rfl
theorem fpSsStopBest {r : Nat} : evFieldAddr Tryz.prog 38 (.ptr r 3) 1 = some (.ptr r 4) := by kernel_rfl
theorem lpSsStopBest {m : Mem} {r : Nat} {x : Ss} (hv : m.var r = some x.row) : evLoad Tryz.prog m 3 (.ptr r 4) = some (iv x.stop.best) := load_cell (k := 1) hv (by kernel_rfl) (by kernel_rfl) rfl
theorem fpSsCut {r : Nat} : evFieldAddr Tryz.prog 46 (.ptr r 0) 4 = some (.ptr r 6) := by kernel_rfl
theorem lpSsCut {m : Mem} {r : Nat} {x : Ss} (hv : m.var r = some x.row) : evLoad Tryz.prog m 40 (.ptr r 6) = some (.agg x.cut.row) := load_sub hv (k := 5) (by kernel_rfl) (by kernel_rfl) (Nat.le_of_ble_eq_true rfl) rfl
theorem fpSsCutWatch {r : Nat} : evFieldAddr Tryz.prog 40 (.ptr r 6) 0 = some (.ptr r 6) := by kernel_rfl
theorem lpSsCutWatch {m : Mem} {r : Nat} {x : Ss} (hv : m.var r = some x.row) : evLoad Tryz.prog m 38 (.ptr r 6) = some (.agg x.cut.watch.row) := load_sub hv (k := 3) (by kernel_rfl) (by kernel_rfl) (Nat.le_of_ble_eq_true rfl) rfl
theorem fpSsCutWatchBad {r : Nat} : evFieldAddr Tryz.prog 38 (.ptr r 6) 2 = some (.ptr r 8) := by kernel_rfl
theorem lpSsCutWatchBad {m : Mem} {r : Nat} {x : Ss} (hv : m.var r = some x.row) : evLoad Tryz.prog m 3 (.ptr r 8) = some (iv x.cut.watch.bad) := load_cell (k := 1) hv (by kernel_rfl) (by kernel_rfl) rfl
theorem fpSsCutRest {r : Nat} : evFieldAddr Tryz.prog 40 (.ptr r 6) 1 = some (.ptr r 9) := by kernel_rfl
theorem lpSsCutRest {m : Mem} {r : Nat} {x : Ss} (hv : m.var r = some x.row) : evLoad Tryz.prog m 3 (.ptr r 9) = some (iv x.cut.rest) := load_cell (k := 1) hv (by kernel_rfl) (by kernel_rfl) rfl
theorem fpSsKept {r : Nat} : evFieldAddr Tryz.prog 46 (.ptr r 0) 5 = some (.ptr r 11) := by kernel_rfl
theorem lpSsKept {m : Mem} {r : Nat} {x : Ss} (hv : m.var r = some x.row) : evLoad Tryz.prog m 41 (.ptr r 11) = some (.lst .no 2 (rowsKt x.kept)) := load_cell (k := 1) hv (by kernel_rfl) (by kernel_rfl) rfl
theorem fpSsEma {r : Nat} : evFieldAddr Tryz.prog 46 (.ptr r 0) 6 = some (.ptr r 12) := by kernel_rfl
theorem lpSsEma {m : Mem} {r : Nat} {x : Ss} (hv : m.var r = some x.row) : evLoad Tryz.prog m 42 (.ptr r 12) = some (.lst .no 1 (rowsI x.ema)) := load_cell (k := 1) hv (by kernel_rfl) (by kernel_rfl) rfl
theorem fpSsSwa {r : Nat} : evFieldAddr Tryz.prog 46 (.ptr r 0) 7 = some (.ptr r 13) := by kernel_rfl
theorem fpSsSwaCount {r : Nat} : evFieldAddr Tryz.prog 44 (.ptr r 13) 0 = some (.ptr r 13) := by kernel_rfl
theorem lpSsSwaCount {m : Mem} {r : Nat} {x : Ss} (hv : m.var r = some x.row) : evLoad Tryz.prog m 3 (.ptr r 13) = some (iv x.swa.count) := load_cell (k := 1) hv (by kernel_rfl) (by kernel_rfl) rfl
theorem fpSsSwaSums {r : Nat} : evFieldAddr Tryz.prog 44 (.ptr r 13) 1 = some (.ptr r 14) := by kernel_rfl
theorem lpSsSwaSums {m : Mem} {r : Nat} {x : Ss} (hv : m.var r = some x.row) : evLoad Tryz.prog m 42 (.ptr r 14) = some (.lst .no 1 (rowsI x.swa.sums)) := load_cell (k := 1) hv (by kernel_rfl) (by kernel_rfl) rfl
/-! ### api.Event -/
structure Evt where
 step : Int
 kind : Int
 item : Int
def Evt.row (x : Evt) : List AV := [iv x.step, iv x.kind, iv x.item]
def unEvt : List AV → Option Evt
 | [.v (.int .i64 c0), .v (.int .i64 c1), .v (.int .i64 c2)] => some ⟨c0, c1, c2⟩
 | _ => none
theorem unEvt_some {cs : List AV} {x : Evt} (h : unEvt cs = some x) : cs = x.row := by
 unfold unEvt at h
 split at h
 ·cases h; rfl
 ·cases h
theorem unEvt_row (x : Evt) : unEvt x.row = some x := by
 rfl
def rowsEvt (l : List Evt) : List (List AV) := l.map Evt.row
theorem rowsEvt_len (l : List Evt) : (rowsEvt l).length = l.length := List.length_map ..
theorem rowsEvt_app (l l2 : List Evt) : rowsEvt l ++ rowsEvt l2 = rowsEvt (l ++ l2) := List.map_append.symm
def unsEvt : List (List AV) → Option (List Evt)
 | [] => some []
 | row :: r =>
  match unEvt row, unsEvt r with
  | some x, some l => some (x :: l)
  | _, _ => none
theorem unsEvt_some : ∀ {rs : List (List AV)} {l : List Evt}, unsEvt rs = some l → rs = rowsEvt l
 | [], l, h => by simp only [unsEvt, Option.some.injEq] at h; subst h; rfl
 | row :: r, l, h => by
  unfold unsEvt at h
  split at h
  ·rename_i x l' h1 h2
   cases h
   rw [unEvt_some h1, unsEvt_some h2]
   rfl
  ·cases h
theorem unsEvt_rowsEvt : ∀ (l : List Evt), unsEvt (rowsEvt l) = some l
 | [] => rfl
 | x :: l => by
  have e : rowsEvt (x :: l) = x.row :: rowsEvt l := rfl
  rw [e, unsEvt, unEvt_row, unsEvt_rowsEvt l]
theorem appEvt : appB Tryz.prog 63 63 3 = true := by kernel_rfl
theorem mk1Evt {x : Evt} : evBuildSlice Tryz.prog 63 1 [(0, .agg x.row)] = some (.lst .full 3 (rowsEvt [x])) := build_one appEvt (by decide) rfl rfl
/-! ### api.Out -/
structure Ou where
 step : Int
 phase : Int
 values : List Int
 frozen : List Bool
 events : List Evt
 status : Int
def ou0 : Ou := ⟨0, 0, [], [], [], 0⟩
def Ou.rowG (x : Ou) (g : Grow) : List AV := [iv x.step, iv x.phase, .lst .no 1 (rowsI x.values), .lst .no 1 (rowsBo x.frozen), .lst g 3 (rowsEvt x.events), iv x.status]
abbrev Ou.row (x : Ou) : List AV := x.rowG .no
def rowsOu (l : List Ou) : List (List AV) := l.map Ou.row
theorem rowsOu_len (l : List Ou) : (rowsOu l).length = l.length := List.length_map ..
theorem rowsOu_app (l l2 : List Ou) : rowsOu l ++ rowsOu l2 = rowsOu (l ++ l2) := List.map_append.symm
theorem appOu : appB Tryz.prog 48 48 6 = true := by kernel_rfl
theorem mk1Ou {x : Ou} : evBuildSlice Tryz.prog 48 1 [(0, .agg x.row)] = some (.lst .full 6 (rowsOu [x])) := build_one appOu (by decide) rfl rfl
theorem szOu : tSize Tryz.prog 65 = some 6 := by kernel_rfl
theorem agOu : tAgg Tryz.prog 65 = some true := by kernel_rfl
theorem mapOu {x : Ou} {g : Grow} : List.map argCell (x.rowG g) = x.row := rfl
theorem cellsOu {x : Ou} {g : Grow} : cellsOf (.agg (x.rowG g)) = some (x.rowG g) := rfl
theorem vrOu {m : Mem} {r : Nat} {x : Ou} {g : Grow} (hv : m.var r = some (x.rowG g)) : evLoad Tryz.prog m 65 (.ptr r 0) = some (.agg (x.rowG g)) := load_sub (off := 0) hv szOu agOu (Nat.le_of_ble_eq_true rfl) rfl
def zeroOu : List AV := [.v (.int .i64 0), .v (.int .i64 0), .lst .full 1 [], .lst .full 1 [], .lst .full 3 [], .v (.int .i64 0)]
theorem zrOu : zeroCells Tryz.prog 65 = some zeroOu := by kernel_rfl
theorem zoOu : zeroOu.all okCell = true := rfl
theorem znOu {m : Mem} : newVar m m.vars.length zeroOu = some (m.push zeroOu) := newVar_push rfl
theorem mk0Ou : evBuild Tryz.prog 65 [] = some (.agg zeroOu) := by kernel_rfl
theorem fpOuEvents {r : Nat} : evFieldAddr Tryz.prog 65 (.ptr r 0) 4 = some (.ptr r 4) := by kernel_rfl
theorem fpOuStatus {r : Nat} : evFieldAddr Tryz.prog 65 (.ptr r 0) 5 = some (.ptr r 5) := by kernel_rfl
/-! ### api.Rule -/
structure Ru where
 max : Bool
 delta : Int
 rel : Bool
def Ru.row (x : Ru) : List AV := [.v (.bool x.max), iv x.delta, .v (.bool x.rel)]
def unRu : List AV → Option Ru
 | [.v (.bool c0), .v (.int .i64 c1), .v (.bool c2)] => some ⟨c0, c1, c2⟩
 | _ => none
theorem unRu_some {cs : List AV} {x : Ru} (h : unRu cs = some x) : cs = x.row := by
 unfold unRu at h
 split at h
 ·cases h; rfl
 ·cases h
theorem unRu_row (x : Ru) : unRu x.row = some x := by
 rfl
theorem szRu : tSize Tryz.prog 57 = some 3 := by kernel_rfl
theorem agRu : tAgg Tryz.prog 57 = some true := by kernel_rfl
theorem mapRu {x : Ru} : List.map argCell x.row = x.row := rfl
theorem cellsRu {x : Ru} : cellsOf (.agg x.row) = some x.row := rfl
theorem newRu {m : Mem} {x : Ru} : newVar m m.vars.length x.row = some (m.push x.row) := newVar_push rfl
theorem vrRu {m : Mem} {r : Nat} {x : Ru} (hv : m.var r = some x.row) : evLoad Tryz.prog m 57 (.ptr r 0) = some (.agg x.row) := load_sub (off := 0) hv szRu agRu (Nat.le_of_ble_eq_true rfl) rfl
theorem fpRuMax {r : Nat} : evFieldAddr Tryz.prog 57 (.ptr r 0) 0 = some (.ptr r 0) := by kernel_rfl
theorem lpRuMax {m : Mem} {r : Nat} {x : Ru} (hv : m.var r = some x.row) : evLoad Tryz.prog m 4 (.ptr r 0) = some (.v (.bool x.max)) := load_cell (k := 1) hv (by kernel_rfl) (by kernel_rfl) rfl
theorem fpRuDelta {r : Nat} : evFieldAddr Tryz.prog 57 (.ptr r 0) 1 = some (.ptr r 1) := by kernel_rfl
theorem lpRuDelta {m : Mem} {r : Nat} {x : Ru} (hv : m.var r = some x.row) : evLoad Tryz.prog m 3 (.ptr r 1) = some (iv x.delta) := load_cell (k := 1) hv (by kernel_rfl) (by kernel_rfl) rfl
theorem fpRuRel {r : Nat} : evFieldAddr Tryz.prog 57 (.ptr r 0) 2 = some (.ptr r 2) := by kernel_rfl
theorem lpRuRel {m : Mem} {r : Nat} {x : Ru} (hv : m.var r = some x.row) : evLoad Tryz.prog m 4 (.ptr r 2) = some (.v (.bool x.rel)) := load_cell (k := 1) hv (by kernel_rfl) (by kernel_rfl) rfl
end
end Go.Proofs.YtmockbddhhmmeaaGreat.Ev
