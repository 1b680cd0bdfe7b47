/- Words of struct types: Tp, Pt, Kp, Em, Sw. -/
import Derived.Test.YtojaokhkbmiidaaMbpok4
import Derived.Test.YtojaokhkbmiidaaMa2
namespace Go.Proofs.Ytojaokhkbmiidaa.Ev
open Go Go.Proofs
set_option maxRecDepth 10000
set_option maxHeartbeats 8000000
set_option linter.unusedVariables false
set_option linter.unusedSimpArgs false
attribute [local irreducible] Next Inside Runs Ops table
/-! ### api.Stop -/
structure Tp where
  On : Bool
  Metric : ByteArray
  Max : Bool
  Patience : Int
  Delta : Int
  Rel : Bool
def tp0 : Tp := ⟨false, ⟨#[]⟩, false, 0, 0, false⟩
def Tp.row (x : Tp) : List AV := [.v (.bool x.On), .v (.string x.Metric), .v (.bool x.Max), iv x.Patience, iv x.Delta, .v (.bool x.Rel)]
def unTp : List AV → Option Tp
  | [.v (.bool c0), .v (.string c1), .v (.bool c2), .v (.int .i64 c3), .v (.int .i64 c4), .v (.bool c5)] => some ⟨c0, c1, c2, c3, c4, c5⟩
  | _ => none
theorem unTp_some {cs : List AV} {x : Tp} (h : unTp cs = some x) : cs = x.row := by
  unfold unTp at h
  split at h
  · cases h; rfl
  · cases h
theorem unTp_row (x : Tp) : unTp x.row = some x := by
  rfl
theorem szTp : tSize Try.prog 65 = some 6 := by kernel_rfl
theorem agTp : tAgg Try.prog 65 = some true := by kernel_rfl
theorem mapTp {x : Tp} : List.map argCell x.row = x.row := rfl
theorem rowTp {x : Tp} : rowOf (.agg x.row) = some x.row := rfl
theorem cellsTp {x : Tp} : cellsOf (.agg x.row) = some x.row := rfl
theorem newTp {m : Mem} {x : Tp} : newVar m m.vars.length x.row = some (m.push x.row) := newVar_push rfl
theorem ldTp {m : Mem} {x : Tp} : evLoad Try.prog m 65 (.eptr x.row) = some (.agg x.row) := by kernel_rfl
theorem vrTp {m : Mem} {r : Nat} {x : Tp} (hv : m.var r = some x.row) : evLoad Try.prog m 65 (.ptr r 0) = some (.agg x.row) := by
  unfold evLoad
  simp only [ptrCells, hv, Option.map_some, szTp, agTp]
  rfl
def zeroTp : List AV := [.v (.bool false), .v (.string ⟨#[]⟩), .v (.bool false), .v (.int .i64 0), .v (.int .i64 0), .v (.bool false)]
theorem zrTp : zeroCells Try.prog 65 = some zeroTp := by kernel_rfl
theorem zoTp : zeroTp.all okCell = true := rfl
theorem znTp {m : Mem} : newVar m m.vars.length zeroTp = some (m.push zeroTp) := newVar_push rfl
theorem zsTp {m : Mem} {x : Tp} : evStore Try.prog (m.push zeroTp) 65 (.ptr m.vars.length 0) (.agg x.row) = some (m.push x.row) := by
  rw [store_push (cs := x.row) rfl szTp (Nat.le_refl _) rfl]
  rfl
theorem niTp : noIface Try.prog 8 65 = true := by kernel_rfl
theorem eqTp {x y : Tp} : eqTy Try.prog 8 65 (.agg x.row) (.agg y.row) = some ((x.On == y.On) && ((x.Metric == y.Metric) && ((x.Max == y.Max) && ((x.Patience == y.Patience) && ((x.Delta == y.Delta) && ((x.Rel == y.Rel) && true)))))) := by kernel_rfl
theorem mk0Tp : evBuild Try.prog 65 [] = some (.agg tp0.row) := by kernel_rfl
theorem feTpOn {x : Tp} : evFieldAddr Try.prog 65 (.eptr x.row) 0 = some (.eptr x.row) := by kernel_rfl
theorem fpTpOn {r : Nat} : evFieldAddr Try.prog 65 (.ptr r 0) 0 = some (.ptr r 0) := by kernel_rfl
theorem leTpOn {m : Mem} {x : Tp} : evLoad Try.prog m 4 (.eptr x.row) = some (.v (.bool x.On)) := by kernel_rfl
theorem lpTpOn {m : Mem} {r : Nat} {x : Tp} (hv : m.var r = some x.row) : evLoad Try.prog m 4 (.ptr r 0) = some (.v (.bool x.On)) := by
  unfold evLoad
  simp only [ptrCells, hv, Option.map_some]
  rw [show tAgg Try.prog 4 = some false by kernel_rfl, show tSize Try.prog 4 = some 1 by kernel_rfl]
  rfl
theorem feTpMetric {x : Tp} : evFieldAddr Try.prog 65 (.eptr x.row) 1 = some (.eptr (x.row.drop 1)) := by kernel_rfl
theorem fpTpMetric {r : Nat} : evFieldAddr Try.prog 65 (.ptr r 0) 1 = some (.ptr r 1) := by kernel_rfl
theorem leTpMetric {m : Mem} {x : Tp} : evLoad Try.prog m 9 (.eptr (x.row.drop 1)) = some (.v (.string x.Metric)) := by kernel_rfl
theorem lpTpMetric {m : Mem} {r : Nat} {x : Tp} (hv : m.var r = some x.row) : evLoad Try.prog m 9 (.ptr r 1) = some (.v (.string x.Metric)) := by
  unfold evLoad
  simp only [ptrCells, hv, Option.map_some]
  rw [show tAgg Try.prog 9 = some false by kernel_rfl, show tSize Try.prog 9 = some 1 by kernel_rfl]
  rfl
theorem feTpMax {x : Tp} : evFieldAddr Try.prog 65 (.eptr x.row) 2 = some (.eptr (x.row.drop 2)) := by kernel_rfl
theorem fpTpMax {r : Nat} : evFieldAddr Try.prog 65 (.ptr r 0) 2 = some (.ptr r 2) := by kernel_rfl
theorem leTpMax {m : Mem} {x : Tp} : evLoad Try.prog m 4 (.eptr (x.row.drop 2)) = some (.v (.bool x.Max)) := by kernel_rfl
theorem lpTpMax {m : Mem} {r : Nat} {x : Tp} (hv : m.var r = some x.row) : evLoad Try.prog m 4 (.ptr r 2) = some (.v (.bool x.Max)) := by
  unfold evLoad
  simp only [ptrCells, hv, Option.map_some]
  rw [show tAgg Try.prog 4 = some false by kernel_rfl, show tSize Try.prog 4 = some 1 by kernel_rfl]
  rfl
theorem feTpPatience {x : Tp} : evFieldAddr Try.prog 65 (.eptr x.row) 3 = some (.eptr (x.row.drop 3)) := by kernel_rfl
theorem fpTpPatience {r : Nat} : evFieldAddr Try.prog 65 (.ptr r 0) 3 = some (.ptr r 3) := by kernel_rfl
theorem leTpPatience {m : Mem} {x : Tp} : evLoad Try.prog m 3 (.eptr (x.row.drop 3)) = some (iv x.Patience) := by kernel_rfl
theorem lpTpPatience {m : Mem} {r : Nat} {x : Tp} (hv : m.var r = some x.row) : evLoad Try.prog m 3 (.ptr r 3) = some (iv x.Patience) := by
  unfold evLoad
  simp only [ptrCells, hv, Option.map_some]
  rw [show tAgg Try.prog 3 = some false by kernel_rfl, show tSize Try.prog 3 = some 1 by kernel_rfl]
  rfl
theorem feTpDelta {x : Tp} : evFieldAddr Try.prog 65 (.eptr x.row) 4 = some (.eptr (x.row.drop 4)) := by kernel_rfl
theorem fpTpDelta {r : Nat} : evFieldAddr Try.prog 65 (.ptr r 0) 4 = some (.ptr r 4) := by kernel_rfl
theorem leTpDelta {m : Mem} {x : Tp} : evLoad Try.prog m 3 (.eptr (x.row.drop 4)) = some (iv x.Delta) := by kernel_rfl
theorem lpTpDelta {m : Mem} {r : Nat} {x : Tp} (hv : m.var r = some x.row) : evLoad Try.prog m 3 (.ptr r 4) = some (iv x.Delta) := by
  unfold evLoad
  simp only [ptrCells, hv, Option.map_some]
  rw [show tAgg Try.prog 3 = some false by kernel_rfl, show tSize Try.prog 3 = some 1 by kernel_rfl]
  rfl
theorem feTpRel {x : Tp} : evFieldAddr Try.prog 65 (.eptr x.row) 5 = some (.eptr (x.row.drop 5)) := by kernel_rfl
theorem fpTpRel {r : Nat} : evFieldAddr Try.prog 65 (.ptr r 0) 5 = some (.ptr r 5) := by kernel_rfl
theorem leTpRel {m : Mem} {x : Tp} : evLoad Try.prog m 4 (.eptr (x.row.drop 5)) = some (.v (.bool x.Rel)) := by kernel_rfl
theorem lpTpRel {m : Mem} {r : Nat} {x : Tp} (hv : m.var r = some x.row) : evLoad Try.prog m 4 (.ptr r 5) = some (.v (.bool x.Rel)) := by
  unfold evLoad
  simp only [ptrCells, hv, Option.map_some]
  rw [show tAgg Try.prog 4 = some false by kernel_rfl, show tSize Try.prog 4 = some 1 by kernel_rfl]
  rfl
/-! ### api.Plateau -/
structure Pt where
  On : Bool
  Metric : ByteArray
  Max : Bool
  Factor : Int
  Patience : Int
  Cooldown : Int
  Floor : Int
  Delta : Int
def pt0 : Pt := ⟨false, ⟨#[]⟩, false, 0, 0, 0, 0, 0⟩
def Pt.row (x : Pt) : List AV := [.v (.bool x.On), .v (.string x.Metric), .v (.bool x.Max), iv x.Factor, iv x.Patience, iv x.Cooldown, iv x.Floor, iv x.Delta]
def unPt : List AV → Option Pt
  | [.v (.bool c0), .v (.string c1), .v (.bool c2), .v (.int .i64 c3), .v (.int .i64 c4), .v (.int .i64 c5), .v (.int .i64 c6), .v (.int .i64 c7)] => some ⟨c0, c1, c2, c3, c4, c5, c6, c7⟩
  | _ => none
theorem unPt_some {cs : List AV} {x : Pt} (h : unPt cs = some x) : cs = x.row := by
  unfold unPt at h
  split at h
  · cases h; rfl
  · cases h
theorem unPt_row (x : Pt) : unPt x.row = some x := by
  rfl
theorem szPt : tSize Try.prog 67 = some 8 := by kernel_rfl
theorem agPt : tAgg Try.prog 67 = some true := by kernel_rfl
theorem mapPt {x : Pt} : List.map argCell x.row = x.row := rfl
theorem rowPt {x : Pt} : rowOf (.agg x.row) = some x.row := rfl
theorem cellsPt {x : Pt} : cellsOf (.agg x.row) = some x.row := rfl
theorem newPt {m : Mem} {x : Pt} : newVar m m.vars.length x.row = some (m.push x.row) := newVar_push rfl
theorem ldPt {m : Mem} {x : Pt} : evLoad Try.prog m 67 (.eptr x.row) = some (.agg x.row) := by kernel_rfl
theorem vrPt {m : Mem} {r : Nat} {x : Pt} (hv : m.var r = some x.row) : evLoad Try.prog m 67 (.ptr r 0) = some (.agg x.row) := by
  unfold evLoad
  simp only [ptrCells, hv, Option.map_some, szPt, agPt]
  rfl
def zeroPt : List AV := [.v (.bool false), .v (.string ⟨#[]⟩), .v (.bool false), .v (.int .i64 0), .v (.int .i64 0), .v (.int .i64 0), .v (.int .i64 0), .v (.int .i64 0)]
theorem zrPt : zeroCells Try.prog 67 = some zeroPt := by kernel_rfl
theorem zoPt : zeroPt.all okCell = true := rfl
theorem znPt {m : Mem} : newVar m m.vars.length zeroPt = some (m.push zeroPt) := newVar_push rfl
theorem zsPt {m : Mem} {x : Pt} : evStore Try.prog (m.push zeroPt) 67 (.ptr m.vars.length 0) (.agg x.row) = some (m.push x.row) := by
  rw [store_push (cs := x.row) rfl szPt (Nat.le_refl _) rfl]
  rfl
theorem niPt : noIface Try.prog 8 67 = true := by kernel_rfl
theorem eqPt {x y : Pt} : eqTy Try.prog 8 67 (.agg x.row) (.agg y.row) = some ((x.On == y.On) && ((x.Metric == y.Metric) && ((x.Max == y.Max) && ((x.Factor == y.Factor) && ((x.Patience == y.Patience) && ((x.Cooldown == y.Cooldown) && ((x.Floor == y.Floor) && ((x.Delta == y.Delta) && true)))))))) := by kernel_rfl
theorem mk0Pt : evBuild Try.prog 67 [] = some (.agg pt0.row) := by kernel_rfl
theorem fePtOn {x : Pt} : evFieldAddr Try.prog 67 (.eptr x.row) 0 = some (.eptr x.row) := by kernel_rfl
theorem fpPtOn {r : Nat} : evFieldAddr Try.prog 67 (.ptr r 0) 0 = some (.ptr r 0) := by kernel_rfl
theorem lePtOn {m : Mem} {x : Pt} : evLoad Try.prog m 4 (.eptr x.row) = some (.v (.bool x.On)) := by kernel_rfl
theorem lpPtOn {m : Mem} {r : Nat} {x : Pt} (hv : m.var r = some x.row) : evLoad Try.prog m 4 (.ptr r 0) = some (.v (.bool x.On)) := by
  unfold evLoad
  simp only [ptrCells, hv, Option.map_some]
  rw [show tAgg Try.prog 4 = some false by kernel_rfl, show tSize Try.prog 4 = some 1 by kernel_rfl]
  rfl
theorem fePtMetric {x : Pt} : evFieldAddr Try.prog 67 (.eptr x.row) 1 = some (.eptr (x.row.drop 1)) := by kernel_rfl
theorem fpPtMetric {r : Nat} : evFieldAddr Try.prog 67 (.ptr r 0) 1 = some (.ptr r 1) := by kernel_rfl
theorem lePtMetric {m : Mem} {x : Pt} : evLoad Try.prog m 9 (.eptr (x.row.drop 1)) = some (.v (.string x.Metric)) := by kernel_rfl
theorem lpPtMetric {m : Mem} {r : Nat} {x : Pt} (hv : m.var r = some x.row) : evLoad Try.prog m 9 (.ptr r 1) = some (.v (.string x.Metric)) := by
  unfold evLoad
  simp only [ptrCells, hv, Option.map_some]
  rw [show tAgg Try.prog 9 = some false by kernel_rfl, show tSize Try.prog 9 = some 1 by kernel_rfl]
  rfl
theorem fePtMax {x : Pt} : evFieldAddr Try.prog 67 (.eptr x.row) 2 = some (.eptr (x.row.drop 2)) := by kernel_rfl
theorem fpPtMax {r : Nat} : evFieldAddr Try.prog 67 (.ptr r 0) 2 = some (.ptr r 2) := by kernel_rfl
theorem lePtMax {m : Mem} {x : Pt} : evLoad Try.prog m 4 (.eptr (x.row.drop 2)) = some (.v (.bool x.Max)) := by kernel_rfl
theorem lpPtMax {m : Mem} {r : Nat} {x : Pt} (hv : m.var r = some x.row) : evLoad Try.prog m 4 (.ptr r 2) = some (.v (.bool x.Max)) := by
  unfold evLoad
  simp only [ptrCells, hv, Option.map_some]
  rw [show tAgg Try.prog 4 = some false by kernel_rfl, show tSize Try.prog 4 = some 1 by kernel_rfl]
  rfl
theorem fePtFactor {x : Pt} : evFieldAddr Try.prog 67 (.eptr x.row) 3 = some (.eptr (x.row.drop 3)) := by kernel_rfl
theorem fpPtFactor {r : Nat} : evFieldAddr Try.prog 67 (.ptr r 0) 3 = some (.ptr r 3) := by kernel_rfl
theorem lePtFactor {m : Mem} {x : Pt} : evLoad Try.prog m 3 (.eptr (x.row.drop 3)) = some (iv x.Factor) := by kernel_rfl
theorem lpPtFactor {m : Mem} {r : Nat} {x : Pt} (hv : m.var r = some x.row) : evLoad Try.prog m 3 (.ptr r 3) = some (iv x.Factor) := by
  unfold evLoad
  simp only [ptrCells, hv, Option.map_some]
  rw [show tAgg Try.prog 3 = some false by kernel_rfl, show tSize Try.prog 3 = some 1 by kernel_rfl]
  rfl
theorem fePtPatience {x : Pt} : evFieldAddr Try.prog 67 (.eptr x.row) 4 = some (.eptr (x.row.drop 4)) := by kernel_rfl
theorem fpPtPatience {r : Nat} : evFieldAddr Try.prog 67 (.ptr r 0) 4 = some (.ptr r 4) := by kernel_rfl
theorem lePtPatience {m : Mem} {x : Pt} : evLoad Try.prog m 3 (.eptr (x.row.drop 4)) = some (iv x.Patience) := by kernel_rfl
theorem lpPtPatience {m : Mem} {r : Nat} {x : Pt} (hv : m.var r = some x.row) : evLoad Try.prog m 3 (.ptr r 4) = some (iv x.Patience) := by
  unfold evLoad
  simp only [ptrCells, hv, Option.map_some]
  rw [show tAgg Try.prog 3 = some false by kernel_rfl, show tSize Try.prog 3 = some 1 by kernel_rfl]
  rfl
theorem fePtCooldown {x : Pt} : evFieldAddr Try.prog 67 (.eptr x.row) 5 = some (.eptr (x.row.drop 5)) := by kernel_rfl
theorem fpPtCooldown {r : Nat} : evFieldAddr Try.prog 67 (.ptr r 0) 5 = some (.ptr r 5) := by kernel_rfl
theorem lePtCooldown {m : Mem} {x : Pt} : evLoad Try.prog m 3 (.eptr (x.row.drop 5)) = some (iv x.Cooldown) := by kernel_rfl
theorem lpPtCooldown {m : Mem} {r : Nat} {x : Pt} (hv : m.var r = some x.row) : evLoad Try.prog m 3 (.ptr r 5) = some (iv x.Cooldown) := by
  unfold evLoad
  simp only [ptrCells, hv, Option.map_some]
  rw [show tAgg Try.prog 3 = some false by kernel_rfl, show tSize Try.prog 3 = some 1 by kernel_rfl]
  rfl
theorem fePtFloor {x : Pt} : evFieldAddr Try.prog 67 (.eptr x.row) 6 = some (.eptr (x.row.drop 6)) := by kernel_rfl
theorem fpPtFloor {r : Nat} : evFieldAddr Try.prog 67 (.ptr r 0) 6 = some (.ptr r 6) := by kernel_rfl
theorem lePtFloor {m : Mem} {x : Pt} : evLoad Try.prog m 3 (.eptr (x.row.drop 6)) = some (iv x.Floor) := by kernel_rfl
theorem lpPtFloor {m : Mem} {r : Nat} {x : Pt} (hv : m.var r = some x.row) : evLoad Try.prog m 3 (.ptr r 6) = some (iv x.Floor) := by
  unfold evLoad
  simp only [ptrCells, hv, Option.map_some]
  rw [show tAgg Try.prog 3 = some false by kernel_rfl, show tSize Try.prog 3 = some 1 by kernel_rfl]
  rfl
theorem fePtDelta {x : Pt} : evFieldAddr Try.prog 67 (.eptr x.row) 7 = some (.eptr (x.row.drop 7)) := by kernel_rfl
theorem fpPtDelta {r : Nat} : evFieldAddr Try.prog 67 (.ptr r 0) 7 = some (.ptr r 7) := by kernel_rfl
theorem lePtDelta {m : Mem} {x : Pt} : evLoad Try.prog m 3 (.eptr (x.row.drop 7)) = some (iv x.Delta) := by kernel_rfl
theorem lpPtDelta {m : Mem} {r : Nat} {x : Pt} (hv : m.var r = some x.row) : evLoad Try.prog m 3 (.ptr r 7) = some (iv x.Delta) := by
  unfold evLoad
  simp only [ptrCells, hv, Option.map_some]
  rw [show tAgg Try.prog 3 = some false by kernel_rfl, show tSize Try.prog 3 = some 1 by kernel_rfl]
  rfl
/-! ### api.Keep -/
structure Kp where
  On : Bool
  Metric : ByteArray
  Max : Bool
  Count : Int
def kp0 : Kp := ⟨false, ⟨#[]⟩, false, 0⟩
def Kp.row (x : Kp) : List AV := [.v (.bool x.On), .v (.string x.Metric), .v (.bool x.Max), iv x.Count]
def unKp : List AV → Option Kp
  | [.v (.bool c0), .v (.string c1), .v (.bool c2), .v (.int .i64 c3)] => some ⟨c0, c1, c2, c3⟩
  | _ => none
theorem unKp_some {cs : List AV} {x : Kp} (h : unKp cs = some x) : cs = x.row := by
  unfold unKp at h
  split at h
  · cases h; rfl
  · cases h
theorem unKp_row (x : Kp) : unKp x.row = some x := by
  rfl
theorem szKp : tSize Try.prog 69 = some 4 := by kernel_rfl
theorem agKp : tAgg Try.prog 69 = some true := by kernel_rfl
theorem mapKp {x : Kp} : List.map argCell x.row = x.row := rfl
theorem rowKp {x : Kp} : rowOf (.agg x.row) = some x.row := rfl
theorem cellsKp {x : Kp} : cellsOf (.agg x.row) = some x.row := rfl
theorem newKp {m : Mem} {x : Kp} : newVar m m.vars.length x.row = some (m.push x.row) := newVar_push rfl
theorem ldKp {m : Mem} {x : Kp} : evLoad Try.prog m 69 (.eptr x.row) = some (.agg x.row) := by kernel_rfl
theorem vrKp {m : Mem} {r : Nat} {x : Kp} (hv : m.var r = some x.row) : evLoad Try.prog m 69 (.ptr r 0) = some (.agg x.row) := by
  unfold evLoad
  simp only [ptrCells, hv, Option.map_some, szKp, agKp]
  rfl
def zeroKp : List AV := [.v (.bool false), .v (.string ⟨#[]⟩), .v (.bool false), .v (.int .i64 0)]
theorem zrKp : zeroCells Try.prog 69 = some zeroKp := by kernel_rfl
theorem zoKp : zeroKp.all okCell = true := rfl
theorem znKp {m : Mem} : newVar m m.vars.length zeroKp = some (m.push zeroKp) := newVar_push rfl
theorem zsKp {m : Mem} {x : Kp} : evStore Try.prog (m.push zeroKp) 69 (.ptr m.vars.length 0) (.agg x.row) = some (m.push x.row) := by
  rw [store_push (cs := x.row) rfl szKp (Nat.le_refl _) rfl]
  rfl
theorem niKp : noIface Try.prog 8 69 = true := by kernel_rfl
theorem eqKp {x y : Kp} : eqTy Try.prog 8 69 (.agg x.row) (.agg y.row) = some ((x.On == y.On) && ((x.Metric == y.Metric) && ((x.Max == y.Max) && ((x.Count == y.Count) && true)))) := by kernel_rfl
theorem mk0Kp : evBuild Try.prog 69 [] = some (.agg kp0.row) := by kernel_rfl
theorem feKpOn {x : Kp} : evFieldAddr Try.prog 69 (.eptr x.row) 0 = some (.eptr x.row) := by kernel_rfl
theorem fpKpOn {r : Nat} : evFieldAddr Try.prog 69 (.ptr r 0) 0 = some (.ptr r 0) := by kernel_rfl
theorem leKpOn {m : Mem} {x : Kp} : evLoad Try.prog m 4 (.eptr x.row) = some (.v (.bool x.On)) := by kernel_rfl
theorem lpKpOn {m : Mem} {r : Nat} {x : Kp} (hv : m.var r = some x.row) : evLoad Try.prog m 4 (.ptr r 0) = some (.v (.bool x.On)) := by
  unfold evLoad
  simp only [ptrCells, hv, Option.map_some]
  rw [show tAgg Try.prog 4 = some false by kernel_rfl, show tSize Try.prog 4 = some 1 by kernel_rfl]
  rfl
theorem feKpMetric {x : Kp} : evFieldAddr Try.prog 69 (.eptr x.row) 1 = some (.eptr (x.row.drop 1)) := by kernel_rfl
theorem fpKpMetric {r : Nat} : evFieldAddr Try.prog 69 (.ptr r 0) 1 = some (.ptr r 1) := by kernel_rfl
theorem leKpMetric {m : Mem} {x : Kp} : evLoad Try.prog m 9 (.eptr (x.row.drop 1)) = some (.v (.string x.Metric)) := by kernel_rfl
theorem lpKpMetric {m : Mem} {r : Nat} {x : Kp} (hv : m.var r = some x.row) : evLoad Try.prog m 9 (.ptr r 1) = some (.v (.string x.Metric)) := by
  unfold evLoad
  simp only [ptrCells, hv, Option.map_some]
  rw [show tAgg Try.prog 9 = some false by kernel_rfl, show tSize Try.prog 9 = some 1 by kernel_rfl]
  rfl
theorem feKpMax {x : Kp} : evFieldAddr Try.prog 69 (.eptr x.row) 2 = some (.eptr (x.row.drop 2)) := by kernel_rfl
theorem fpKpMax {r : Nat} : evFieldAddr Try.prog 69 (.ptr r 0) 2 = some (.ptr r 2) := by kernel_rfl
theorem leKpMax {m : Mem} {x : Kp} : evLoad Try.prog m 4 (.eptr (x.row.drop 2)) = some (.v (.bool x.Max)) := by kernel_rfl
theorem lpKpMax {m : Mem} {r : Nat} {x : Kp} (hv : m.var r = some x.row) : evLoad Try.prog m 4 (.ptr r 2) = some (.v (.bool x.Max)) := by
  unfold evLoad
  simp only [ptrCells, hv, Option.map_some]
  rw [show tAgg Try.prog 4 = some false by kernel_rfl, show tSize Try.prog 4 = some 1 by kernel_rfl]
  rfl
theorem feKpCount {x : Kp} : evFieldAddr Try.prog 69 (.eptr x.row) 3 = some (.eptr (x.row.drop 3)) := by kernel_rfl
theorem fpKpCount {r : Nat} : evFieldAddr Try.prog 69 (.ptr r 0) 3 = some (.ptr r 3) := by kernel_rfl
theorem leKpCount {m : Mem} {x : Kp} : evLoad Try.prog m 3 (.eptr (x.row.drop 3)) = some (iv x.Count) := by kernel_rfl
theorem lpKpCount {m : Mem} {r : Nat} {x : Kp} (hv : m.var r = some x.row) : evLoad Try.prog m 3 (.ptr r 3) = some (iv x.Count) := by
  unfold evLoad
  simp only [ptrCells, hv, Option.map_some]
  rw [show tAgg Try.prog 3 = some false by kernel_rfl, show tSize Try.prog 3 = some 1 by kernel_rfl]
  rfl
/-! ### api.Ema -/
structure Em where
  On : Bool
  Decay : Int
def em0 : Em := ⟨false, 0⟩
def Em.row (x : Em) : List AV := [.v (.bool x.On), iv x.Decay]
def unEm : List AV → Option Em
  | [.v (.bool c0), .v (.int .i64 c1)] => some ⟨c0, c1⟩
  | _ => none
theorem unEm_some {cs : List AV} {x : Em} (h : unEm cs = some x) : cs = x.row := by
  unfold unEm at h
  split at h
  · cases h; rfl
  · cases h
theorem unEm_row (x : Em) : unEm x.row = some x := by
  rfl
theorem szEm : tSize Try.prog 71 = some 2 := by kernel_rfl
theorem agEm : tAgg Try.prog 71 = some true := by kernel_rfl
theorem mapEm {x : Em} : List.map argCell x.row = x.row := rfl
theorem rowEm {x : Em} : rowOf (.agg x.row) = some x.row := rfl
theorem cellsEm {x : Em} : cellsOf (.agg x.row) = some x.row := rfl
theorem newEm {m : Mem} {x : Em} : newVar m m.vars.length x.row = some (m.push x.row) := newVar_push rfl
theorem ldEm {m : Mem} {x : Em} : evLoad Try.prog m 71 (.eptr x.row) = some (.agg x.row) := by kernel_rfl
theorem vrEm {m : Mem} {r : Nat} {x : Em} (hv : m.var r = some x.row) : evLoad Try.prog m 71 (.ptr r 0) = some (.agg x.row) := by
  unfold evLoad
  simp only [ptrCells, hv, Option.map_some, szEm, agEm]
  rfl
def zeroEm : List AV := [.v (.bool false), .v (.int .i64 0)]
theorem zrEm : zeroCells Try.prog 71 = some zeroEm := by kernel_rfl
theorem zoEm : zeroEm.all okCell = true := rfl
theorem znEm {m : Mem} : newVar m m.vars.length zeroEm = some (m.push zeroEm) := newVar_push rfl
theorem zsEm {m : Mem} {x : Em} : evStore Try.prog (m.push zeroEm) 71 (.ptr m.vars.length 0) (.agg x.row) = some (m.push x.row) := by
  rw [store_push (cs := x.row) rfl szEm (Nat.le_refl _) rfl]
  rfl
theorem niEm : noIface Try.prog 8 71 = true := by kernel_rfl
theorem eqEm {x y : Em} : eqTy Try.prog 8 71 (.agg x.row) (.agg y.row) = some ((x.On == y.On) && ((x.Decay == y.Decay) && true)) := by kernel_rfl
theorem mk0Em : evBuild Try.prog 71 [] = some (.agg em0.row) := by kernel_rfl
theorem feEmOn {x : Em} : evFieldAddr Try.prog 71 (.eptr x.row) 0 = some (.eptr x.row) := by kernel_rfl
theorem fpEmOn {r : Nat} : evFieldAddr Try.prog 71 (.ptr r 0) 0 = some (.ptr r 0) := by kernel_rfl
theorem leEmOn {m : Mem} {x : Em} : evLoad Try.prog m 4 (.eptr x.row) = some (.v (.bool x.On)) := by kernel_rfl
theorem lpEmOn {m : Mem} {r : Nat} {x : Em} (hv : m.var r = some x.row) : evLoad Try.prog m 4 (.ptr r 0) = some (.v (.bool x.On)) := by
  unfold evLoad
  simp only [ptrCells, hv, Option.map_some]
  rw [show tAgg Try.prog 4 = some false by kernel_rfl, show tSize Try.prog 4 = some 1 by kernel_rfl]
  rfl
theorem feEmDecay {x : Em} : evFieldAddr Try.prog 71 (.eptr x.row) 1 = some (.eptr (x.row.drop 1)) := by kernel_rfl
theorem fpEmDecay {r : Nat} : evFieldAddr Try.prog 71 (.ptr r 0) 1 = some (.ptr r 1) := by kernel_rfl
theorem leEmDecay {m : Mem} {x : Em} : evLoad Try.prog m 3 (.eptr (x.row.drop 1)) = some (iv x.Decay) := by kernel_rfl
theorem lpEmDecay {m : Mem} {r : Nat} {x : Em} (hv : m.var r = some x.row) : evLoad Try.prog m 3 (.ptr r 1) = some (iv x.Decay) := by
  unfold evLoad
  simp only [ptrCells, hv, Option.map_some]
  rw [show tAgg Try.prog 3 = some false by kernel_rfl, show tSize Try.prog 3 = some 1 by kernel_rfl]
  rfl
/-! ### api.Swa -/
structure Sw where
  On : Bool
  FromU : Int
  FromN : Int
  Every : Int
def sw0 : Sw := ⟨false, 0, 0, 0⟩
def Sw.row (x : Sw) : List AV := [.v (.bool x.On), iv x.FromU, iv x.FromN, iv x.Every]
def unSw : List AV → Option Sw
  | [.v (.bool c0), .v (.int .i64 c1), .v (.int .i64 c2), .v (.int .i64 c3)] => some ⟨c0, c1, c2, c3⟩
  | _ => none
theorem unSw_some {cs : List AV} {x : Sw} (h : unSw cs = some x) : cs = x.row := by
  unfold unSw at h
  split at h
  · cases h; rfl
  · cases h
theorem unSw_row (x : Sw) : unSw x.row = some x := by
  rfl
theorem szSw : tSize Try.prog 73 = some 4 := by kernel_rfl
theorem agSw : tAgg Try.prog 73 = some true := by kernel_rfl
theorem mapSw {x : Sw} : List.map argCell x.row = x.row := rfl
theorem rowSw {x : Sw} : rowOf (.agg x.row) = some x.row := rfl
theorem cellsSw {x : Sw} : cellsOf (.agg x.row) = some x.row := rfl
theorem newSw {m : Mem} {x : Sw} : newVar m m.vars.length x.row = some (m.push x.row) := newVar_push rfl
theorem ldSw {m : Mem} {x : Sw} : evLoad Try.prog m 73 (.eptr x.row) = some (.agg x.row) := by kernel_rfl
theorem vrSw {m : Mem} {r : Nat} {x : Sw} (hv : m.var r = some x.row) : evLoad Try.prog m 73 (.ptr r 0) = some (.agg x.row) := by
  unfold evLoad
  simp only [ptrCells, hv, Option.map_some, szSw, agSw]
  rfl
def zeroSw : List AV := [.v (.bool false), .v (.int .i64 0), .v (.int .i64 0), .v (.int .i64 0)]
theorem zrSw : zeroCells Try.prog 73 = some zeroSw := by kernel_rfl
theorem zoSw : zeroSw.all okCell = true := rfl
theorem znSw {m : Mem} : newVar m m.vars.length zeroSw = some (m.push zeroSw) := newVar_push rfl
theorem zsSw {m : Mem} {x : Sw} : evStore Try.prog (m.push zeroSw) 73 (.ptr m.vars.length 0) (.agg x.row) = some (m.push x.row) := by
  rw [store_push (cs := x.row) rfl szSw (Nat.le_refl _) rfl]
  rfl
theorem niSw : noIface Try.prog 8 73 = true := by kernel_rfl
theorem eqSw {x y : Sw} : eqTy Try.prog 8 73 (.agg x.row) (.agg y.row) = some ((x.On == y.On) && (((x.FromU == y.FromU) && ((x.FromN == y.FromN) && true)) && ((x.Every == y.Every) && true))) := by kernel_rfl
theorem mk0Sw : evBuild Try.prog 73 [] = some (.agg sw0.row) := by kernel_rfl
theorem feSwOn {x : Sw} : evFieldAddr Try.prog 73 (.eptr x.row) 0 = some (.eptr x.row) := by kernel_rfl
theorem fpSwOn {r : Nat} : evFieldAddr Try.prog 73 (.ptr r 0) 0 = some (.ptr r 0) := by kernel_rfl
theorem leSwOn {m : Mem} {x : Sw} : evLoad Try.prog m 4 (.eptr x.row) = some (.v (.bool x.On)) := by kernel_rfl
theorem lpSwOn {m : Mem} {r : Nat} {x : Sw} (hv : m.var r = some x.row) : evLoad Try.prog m 4 (.ptr r 0) = some (.v (.bool x.On)) := by
  unfold evLoad
  simp only [ptrCells, hv, Option.map_some]
  rw [show tAgg Try.prog 4 = some false by kernel_rfl, show tSize Try.prog 4 = some 1 by kernel_rfl]
  rfl
theorem feSwFrom {x : Sw} : evFieldAddr Try.prog 73 (.eptr x.row) 1 = some (.eptr (x.row.drop 1)) := by kernel_rfl
theorem fpSwFrom {r : Nat} : evFieldAddr Try.prog 73 (.ptr r 0) 1 = some (.ptr r 1) := by kernel_rfl
theorem leSwFrom {m : Mem} {x : Sw} : evLoad Try.prog m 54 (.eptr (x.row.drop 1)) = some (.agg [iv x.FromU, iv x.FromN]) := by kernel_rfl
theorem lpSwFrom {m : Mem} {r : Nat} {x : Sw} (hv : m.var r = some x.row) : evLoad Try.prog m 54 (.ptr r 1) = some (.agg [iv x.FromU, iv x.FromN]) := by
  unfold evLoad
  simp only [ptrCells, hv, Option.map_some]
  rw [show tAgg Try.prog 54 = some true by kernel_rfl, show tSize Try.prog 54 = some 2 by kernel_rfl]
  rfl
theorem feSwFromU {x : Sw} : evFieldAddr Try.prog 54 (.eptr (x.row.drop 1)) 0 = some (.eptr (x.row.drop 1)) := by kernel_rfl
theorem fpSwFromU {r : Nat} : evFieldAddr Try.prog 54 (.ptr r 1) 0 = some (.ptr r 1) := by kernel_rfl
theorem leSwFromU {m : Mem} {x : Sw} : evLoad Try.prog m 3 (.eptr (x.row.drop 1)) = some (iv x.FromU) := by kernel_rfl
theorem lpSwFromU {m : Mem} {r : Nat} {x : Sw} (hv : m.var r = some x.row) : evLoad Try.prog m 3 (.ptr r 1) = some (iv x.FromU) := by
  unfold evLoad
  simp only [ptrCells, hv, Option.map_some]
  rw [show tAgg Try.prog 3 = some false by kernel_rfl, show tSize Try.prog 3 = some 1 by kernel_rfl]
  rfl
theorem feSwFromN {x : Sw} : evFieldAddr Try.prog 54 (.eptr (x.row.drop 1)) 1 = some (.eptr (x.row.drop 2)) := by kernel_rfl
theorem fpSwFromN {r : Nat} : evFieldAddr Try.prog 54 (.ptr r 1) 1 = some (.ptr r 2) := by kernel_rfl
theorem leSwFromN {m : Mem} {x : Sw} : evLoad Try.prog m 3 (.eptr (x.row.drop 2)) = some (iv x.FromN) := by kernel_rfl
theorem lpSwFromN {m : Mem} {r : Nat} {x : Sw} (hv : m.var r = some x.row) : evLoad Try.prog m 3 (.ptr r 2) = some (iv x.FromN) := by
  unfold evLoad
  simp only [ptrCells, hv, Option.map_some]
  rw [show tAgg Try.prog 3 = some false by kernel_rfl, show tSize Try.prog 3 = some 1 by kernel_rfl]
  rfl
theorem feSwEvery {x : Sw} : evFieldAddr Try.prog 73 (.eptr x.row) 2 = some (.eptr (x.row.drop 3)) := by kernel_rfl
theorem fpSwEvery {r : Nat} : evFieldAddr Try.prog 73 (.ptr r 0) 2 = some (.ptr r 3) := by kernel_rfl
theorem leSwEvery {m : Mem} {x : Sw} : evLoad Try.prog m 3 (.eptr (x.row.drop 3)) = some (iv x.Every) := by kernel_rfl
theorem lpSwEvery {m : Mem} {r : Nat} {x : Sw} (hv : m.var r = some x.row) : evLoad Try.prog m 3 (.ptr r 3) = some (iv x.Every) := by
  unfold evLoad
  simp only [ptrCells, hv, Option.map_some]
  rw [show tAgg Try.prog 3 = some false by kernel_rfl, show tSize Try.prog 3 = some 1 by kernel_rfl]
  rfl
end Go.Proofs.Ytojaokhkbmiidaa.Ev

namespace Go.Proofs.Ytojaokhkbmiidaa.Ev
open Go Go.Proofs
set_option maxRecDepth 10000
set_option maxHeartbeats 8000000
set_option linter.unusedVariables false
set_option linter.unusedSimpArgs false
attribute [local irreducible] Next Inside Runs Ops table
attribute [local irreducible] XRuns XOps XNext XInside XAny XStep
/-! ### flaws place by place -/
def upto (n : Nat) (f : Nat → List Fl) : List Fl := (List.range n).flatMap f
theorem upto_zero {f : Nat → List Fl} : upto 0 f = [] := rfl
theorem upto_next {n : Nat} {f : Nat → List Fl} : upto (n + 1) f = upto n f ++ f n := by
  unfold upto
  rw [List.range_succ, List.flatMap_append]
  simp
theorem upto_len {f : Nat → List Fl} {c : Nat} : ∀ (n : Nat), (∀ i, i < n → (f i).length ≤ c) → (upto n f).length ≤ n * c
  | 0, _ => by simp [upto]
  | n + 1, h => by
    rw [upto_next, List.length_append, Nat.add_mul]
    have := upto_len n fun i hi => h i (by omega)
    have := h n (by omega)
    omega
def flawIf (b : Bool) (rule i k : Int) : List Fl := if b then [⟨rule, i, k⟩] else []
theorem flawIf_len (b : Bool) (rule i k : Int) : (flawIf b rule i k).length ≤ 1 := by unfold flawIf; split <;> simp
theorem flawIf_app (fl : List Fl) (b : Bool) (rule i k : Int) : (if b then fl ++ [⟨rule, i, k⟩] else fl) = fl ++ flawIf b rule i k := by unfold flawIf; cases b <;> simp
/-- Recipes that are not great. -/
def Rc.small (r : Rc) : Prop := r.metrics.length ≤ 64 ∧ r.groups.length ≤ 64 ∧ r.phases.length ≤ 64 ∧ ∀ p ∈ r.phases, p.frozen.length ≤ 64 ∧ p.sets.length ≤ 64 ∧ ∀ s ∈ p.sets, s.nodes.length ≤ 100
instance (r : Rc) : Decidable r.small := by unfold Rc.small; exact inferInstance
theorem Rc.small.phase {r : Rc} (h : r.small) (i : Nat) : (r.phases.getD i ph0).frozen.length ≤ 64 ∧ (r.phases.getD i ph0).sets.length ≤ 64 ∧ ∀ s ∈ (r.phases.getD i ph0).sets, s.nodes.length ≤ 100 := by
  rw [List.getD]
  cases hp : r.phases[i]? with
  | none => simp [ph0]
  | some p => exact h.2.2.2 p (List.mem_of_getElem? hp)
/-! ### whose hyperparameter -/
def encPl (k : ByteArray × Int) : Value := .agg #[.string k.1, .int .i64 k.2]
theorem placeKey : KeyOk Try.prog 133 (ByteArray × Int) encPl where
  ck em k w := by kernel_rfl
  eq a b w := by
    have h : eqTy Try.prog 8 133 (.agg [.v (.string a.1), .v (.int .i64 a.2)]) (.agg [.v (.string b.1), .v (.int .i64 b.2)]) = some ((a.1 == b.1) && ((a.2 == b.2) && true)) := by kernel_rfl
    have rep : ∀ c : ByteArray × Int, Rep (phiW w) ⟨[], []⟩ w (.agg [.v (.string c.1), .v (.int .i64 c.2)]) (encPl c) := fun c => .agg _ _ rfl fun i x u e1 e2 => by
      match i, e1, e2 with
      | 0, e1, e2 => cases e1; cases e2; exact .v _
      | 1, e1, e2 => cases e1; cases e2; exact .v _
      | i + 2, e1, e2 => simp at e1
    have := eqTy_sound (φ := phiW w) (m := ⟨[], []⟩) (w := w) 9992 8 _ _ _ _ _ _ h (rep a) (rep b)
    have e : ((a.1 == b.1) && ((a.2 == b.2) && true)) = decide (a = b) := by
      rw [bytes_dec, Bool.and_true, Bool.eq_iff_iff]
      obtain ⟨a1, a2⟩ := a
      obtain ⟨b1, b2⟩ := b
      simp
    rw [e] at this
    exact this
  wide := by kernel_rfl
  stay k := by
    obtain ⟨g, p⟩ := k
    simp [encPl, Instr.sameBits, bytes_self]
theorem x_icut {P : Program} {φ₀ : Phi} {m₀ : Mem} {w₀ : World} {nt : Nat} {x : Code} {e : Env} {m : Mem} {F : Objs} {Q : PostF} (I : Env → Mem → Objs → Prop) (h : XRuns P φ₀ m₀ w₀ nt x e m F fun z e m F => match z with | .normal => I e m F | _ => False) (hk : ∀ e m F, I e m F → Q .normal e m F) :
    XRuns P φ₀ m₀ w₀ nt x e m F Q :=
  x_mono h fun z e m F hz => by
    cases z with
    | normal => exact hk e m F hz
    | exit id => exact hz.elim
    | ret => exact hz.elim
theorem x_ncut {P : Program} {φ₀ : Phi} {m₀ : Mem} {w₀ : World} {nt : Nat} {x : Code} {e : Env} {m : Mem} {F : Objs} {Q : PostF} {K : Env → Mem → Objs → Prop} (I : Env → Mem → Objs → Prop) (h : XRuns P φ₀ m₀ w₀ nt x e m F fun z e m F => match z with | .normal => I e m F | _ => False) (hk : ∀ e m F, I e m F → K e m F) :
    XRuns P φ₀ m₀ w₀ nt x e m F (XNext K Q) :=
  x_mono h fun z e m F hz => by
    cases z with
    | normal => exact xn_normal (hk e m F hz)
    | exit id => exact hz.elim
    | ret => exact hz.elim
/-! ### sets -/
def keyOf (s : Gs) : ByteArray × Int := (s.group, s.param)
def cnt (l : List Gs) (q : ByteArray × Int) : Nat := (l.filter fun s => decide (keyOf s = q)).length
theorem cnt_next {l : List Gs} {k : Nat} (hk : k < l.length) (q : ByteArray × Int) : cnt (l.take (k + 1)) q = cnt (l.take k) q + if q = keyOf (l.getD k gs0) then 1 else 0 := by
  unfold cnt
  rw [take_next (d := gs0) hk, List.filter_append, List.length_append]
  congr 1
  generalize l.getD k gs0 = s
  by_cases h : keyOf s = q
  · rw [if_pos h.symm]
    simp [h]
  · rw [if_neg (fun e => h e.symm)]
    simp [h]
theorem cnt_le (l : List Gs) (q : ByteArray × Int) : cnt l q ≤ l.length := List.length_filter_le ..
def dupAt (l : List Gs) (k : Nat) : Bool := decide (0 < cnt (l.take k) (keyOf (l.getD k gs0)))
def setBad (R : Rc) (p : Ph) (k : Nat) : Bool := !among R.groups (p.sets.getD k gs0).group || (among p.frozen (p.sets.getD k gs0).group || dupAt p.sets k)
def setsFl (rule : Int) (R : Rc) : List Fl := upto R.phases.length fun i => upto (R.phases.getD i ph0).sets.length fun k => flawIf (setBad R (R.phases.getD i ph0) k) rule i k
def setsG : List AV → Mem → Option (AV × Mem)
  | [.ptr r 0, .agg cs], m =>
    match unRc cs, m.var r with
    | some R, some [.v (.int .i64 rule), .lst .full 3 []] => if R.small then some (.tup [], flMem m r rule (setsFl rule R)) else none
    | _, _ => none
  | _, _ => none
theorem mem_setObjs {F : Objs} {b : Nat} {o o' : Obj} (h : (b, o) ∈ F) : (b, o') ∈ setObjs F b o' := List.mem_map.2 ⟨(b, o), h, if_pos rfl⟩
theorem zeroInt_run (w : World) : (zeroValue 3).run Try.prog w = .ok (.int .i64 0) w := by kernel_rfl
theorem underMap : Try.prog.underlying 131 = some (.map 133 3) := by simp only [Try.underlying131]
theorem mkPl {g : ByteArray} {p : Int} : evBuild Try.prog 133 [(0, .v (.string g)), (1, .v (.int .i64 p))] = some (.agg [.v (.string g), .v (.int .i64 p)]) := by kernel_rfl
theorem zrPl : zeroCells Try.prog 133 = some [.v (.string ⟨#[]⟩), .v (.int .i64 0)] := by kernel_rfl
theorem zoPl : ([AV.v (.string ⟨#[]⟩), .v (.int .i64 0)].all okCell) = true := rfl
theorem znPl {m : Mem} : newVar m m.vars.length [.v (.string ⟨#[]⟩), .v (.int .i64 0)] = some (m.push [.v (.string ⟨#[]⟩), .v (.int .i64 0)]) := newVar_push rfl
theorem zsPl {m : Mem} {g : ByteArray} {p : Int} : evStore Try.prog (m.push [.v (.string ⟨#[]⟩), .v (.int .i64 0)]) 133 (.ptr m.vars.length 0) (.agg [.v (.string g), .v (.int .i64 p)]) = some (m.push [.v (.string g), .v (.int .i64 p)]) := by
  rw [store_push (cs := [.v (.string g), .v (.int .i64 p)]) rfl (show tSize Try.prog 133 = some 2 by kernel_rfl) (Nat.le_refl _) rfl]
  rfl
theorem lpPl {m : Mem} {r : Nat} {cs : List AV} {g : ByteArray} {p : Int} (hv : m.var r = some [.v (.string g), .v (.int .i64 p)]) : evLoad Try.prog m 133 (.ptr r 0) = some (.agg [.v (.string g), .v (.int .i64 p)]) := by
  unfold evLoad
  simp only [ptrCells, hv, Option.map_some]
  rw [show tAgg Try.prog 133 = some true by kernel_rfl, show tSize Try.prog 133 = some 2 by kernel_rfl]
  rfl
def kpSets : Nat → Option (List Nat) := fun
  | 0 => some [0, 3]
  | 1 => some [0, 3, 11, 12, 13]
  | 2 => some [0, 3, 11, 12, 13, 14]
  | 3 => some [0, 3, 4, 5, 11, 12, 13]
  | 4 => some [0, 3, 4, 5, 6, 11, 12, 13]
  | 5 => some [0, 3, 4, 5, 6, 11, 12, 13, 20, 21, 22]
  | 6 => some [0, 3, 4, 5, 6, 11, 12, 13, 20, 21, 22, 23]
  | 7 => some [0, 3, 4, 5, 6, 7, 8, 11, 12, 13, 20, 21, 22]
  | 8 => some [0, 3, 4, 5, 6, 7, 8, 9, 11, 12, 13, 20, 21, 22]
  | 9 => some [0, 3, 4, 5, 6, 9, 11, 12, 13, 20, 21, 22]
  | 10 => some [0, 3, 4, 5, 6, 11, 12, 13, 20, 21, 22]
  | 11 => some [0, 3, 4, 5, 6, 11, 12, 13, 20, 21, 22]
  | 12 => some [0, 3, 11, 12, 13]
  | _ => none
def tab_sets : List (FuncId × (List AV → Mem → Option (AV × Mem))) := [(99, amongG), (83, noteG)]
theorem sets_ok : FunOk Try.prog 91 setsG := by
  have hC := table_ok (P := Try.prog) (l := tab_sets) (table_more among_ok (table_more note_ok table_nil))
  have t1 := fun args mm => table_at (l := tab_sets) (f := 99) (args := args) (m := mm) rfl
  have t2 := fun args mm => table_at (l := tab_sets) (f := 83) (args := args) (m := mm) rfl
  refine fun_okX Try.func91 rfl false rfl fun args m r h => ?_
  unfold setsG at h
  split at h
  · rename_i r0 cs
    split at h
    · rename_i R rule hR hv
      obtain rfl := unRc_some hR
      split at h
      · rename_i hsm
        simp only [Option.some.injEq] at h
        subst h
        have hr0 := (var_lt hv).1
        have hP64 := hsm.2.2.1
        refine ⟨Nat.le_of_ble_eq_true rfl, fun φ w => ?_⟩
        simp only [entry, List.length_cons, List.length_nil, List.range, List.range.loop, List.zip_cons_cons, List.zip_nil_right]
        repeat (first | refine x_seq ?_ | refine x_block ?_ | refine xn_normal ?_ | refine xi_normal ?_ | refine xn_exit ?_ | refine xi_exit ?_ | refine xi_other (by decide) ?_ | refine xn_ret ?_ | refine xi_ret ?_ | refine x_skip ?_ | refine x_exit ?_ | refine x_ret ?_)
        refine x_region (kp := kpSets) mixed hC ?_
        repeat (first | refine runs_seq ?_ | refine runs_block ?_ | refine next_normal ?_ | refine inside_normal ?_ | refine next_exit ?_ | refine inside_exit ?_ | refine inside_other (by decide) ?_ | refine next_ret ?_ | refine inside_ret ?_ | refine runs_ops_kept ?_ | refine runs_skip ?_ | refine runs_exit ?_ | refine runs_ret ?_ | ((first | refine' ops_op rfl rfl (by decide) ?_ ?_ ?_ | refine' ops_yes rfl rfl (by simp only [Ev.get, reduceIte, Nat.reduceEqDiff]; first | done | rfl) rfl (by decide) ?_ ?_ ?_ | refine' ops_op0 rfl rfl ?_ ?_ ?_); rotate_left 2; (focus (simp only [evOp, opd, constAV, constCell, Ev.get, reduceIte, Nat.reduceEqDiff, reduceCtorEq, evBinN, nilCmp, evBin, evInt, evUn, evConvert, evBuiltin, evLen, evField, evPart, tStr, tInt, tElem, tArr, tBool, tAgg, tField, Try.underlying9, Try.underlying3, Try.underlying4, Try.underlying5, Try.underlying21, Try.underlying121, Try.underlying38, Try.underlying25, Try.underlying135, Try.underlying33, Try.underlying2, Try.underlying147, Try.underlying22, Try.underlying56, Try.underlying54, List.zipWith, Option.map_some, Option.map_none, List.length_cons, List.length_nil, ne_eq, Int.reduceEq, not_false_eq_true, and_self, and_true, true_and, szStr, szInt, Option.getD_some, isNil, evStr, loadStr, loadInt, rowsS_len, rowsPh_len, rowsGs_len, fpRcPhases, fpRcGroups, fpPhSets, fpPhFrozen, fpGsGroup, fpGsParam, cellsRc, newRc, mapRc, zrPh, zoPh, znPh, zsPh, ldPh, zrGs, zoGs, znGs, zsGs, ldGs, mkPl, zrPl, zoPl, znPl, zsPl, evCall, List.size_toArray, List.append_nil, List.nil_append, List.map_cons, List.map_nil, argAV, argCell, List.toList_toArray, fieldTy]; first | done | rfl)); exact (fun h => by first | rfl | (simp at h; done) | exact absurd (Bool.and_eq_true_iff.mp h).2 (by decide))) | refine ops_no rfl rfl (by simp only [Ev.get, reduceIte, Nat.reduceEqDiff]; first | done | rfl) (by decide) rfl (by decide) ?_ | refine ops_off rfl rfl rfl rfl (by decide) ?_ | (refine ops_nil ?_; intro e2 h2; simp only [restr, kpSets, List.map_cons, List.map_nil, Ev.get, reduceIte, Nat.reduceEqDiff] at h2; subst h2))
        repeat (first | refine x_seq ?_ | refine x_block ?_ | refine xn_normal ?_ | refine xi_normal ?_ | refine xn_exit ?_ | refine xi_exit ?_ | refine xi_other (by decide) ?_ | refine xn_ret ?_ | refine xi_ret ?_ | refine x_skip ?_ | refine x_exit ?_ | refine x_ret ?_)
        have hv3 : (m.push R.row).var m.vars.length = some R.row := push_var
        have f1 := lpRcPhases hv3
        refine x_region (kp := kpSets) mixed hC ?_
        repeat (first | refine runs_seq ?_ | refine runs_block ?_ | refine next_normal ?_ | refine inside_normal ?_ | refine next_exit ?_ | refine inside_exit ?_ | refine inside_other (by decide) ?_ | refine next_ret ?_ | refine inside_ret ?_ | refine runs_ops_kept ?_ | refine runs_skip ?_ | refine runs_exit ?_ | refine runs_ret ?_ | ((first | refine' ops_op rfl rfl (by decide) ?_ ?_ ?_ | refine' ops_yes rfl rfl (by simp only [Ev.get, reduceIte, Nat.reduceEqDiff, f1]; first | done | rfl) rfl (by decide) ?_ ?_ ?_ | refine' ops_op0 rfl rfl ?_ ?_ ?_); rotate_left 2; (focus (simp only [evOp, opd, constAV, constCell, Ev.get, reduceIte, Nat.reduceEqDiff, reduceCtorEq, evBinN, nilCmp, evBin, evInt, evUn, evConvert, evBuiltin, evLen, evField, evPart, tStr, tInt, tElem, tArr, tBool, tAgg, tField, Try.underlying9, Try.underlying3, Try.underlying4, Try.underlying5, Try.underlying21, Try.underlying121, Try.underlying38, Try.underlying25, Try.underlying135, Try.underlying33, Try.underlying2, Try.underlying147, Try.underlying22, Try.underlying56, Try.underlying54, List.zipWith, Option.map_some, Option.map_none, List.length_cons, List.length_nil, ne_eq, Int.reduceEq, not_false_eq_true, and_self, and_true, true_and, szStr, szInt, Option.getD_some, isNil, evStr, loadStr, loadInt, rowsS_len, rowsPh_len, rowsGs_len, fpRcPhases, fpRcGroups, fpPhSets, fpPhFrozen, fpGsGroup, fpGsParam, cellsRc, newRc, mapRc, zrPh, zoPh, znPh, zsPh, ldPh, zrGs, zoGs, znGs, zsGs, ldGs, mkPl, zrPl, zoPl, znPl, zsPl, evCall, List.size_toArray, List.append_nil, List.nil_append, List.map_cons, List.map_nil, argAV, argCell, List.toList_toArray, fieldTy, f1]; first | done | rfl)); exact (fun h => by first | rfl | (simp at h; done) | exact absurd (Bool.and_eq_true_iff.mp h).2 (by decide))) | refine ops_no rfl rfl (by simp only [Ev.get, reduceIte, Nat.reduceEqDiff, f1]; first | done | rfl) (by decide) rfl (by decide) ?_ | refine ops_off rfl rfl rfl rfl (by decide) ?_ | (refine ops_nil ?_; intro e2 h2; simp only [restr, kpSets, List.map_cons, List.map_nil, Ev.get, reduceIte, Nat.reduceEqDiff] at h2; subst h2))
        repeat (first | refine x_seq ?_ | refine x_block ?_ | refine xn_normal ?_ | refine xi_normal ?_ | refine xn_exit ?_ | refine xi_exit ?_ | refine xi_other (by decide) ?_ | refine xn_ret ?_ | refine xi_ret ?_ | refine x_skip ?_ | refine x_exit ?_ | refine x_ret ?_)
        refine x_loop (fun k e m' F => ∃ (i : Nat), i ≤ R.phases.length ∧ Above (flMem m r0 rule (upto i fun i => upto (R.phases.getD i ph0).sets.length fun k => flawIf (setBad R (R.phases.getD i ph0) k) rule i k)) m' ∧ m'.var m.vars.length = some R.row ∧ k = R.phases.length - i ∧
          e = [(0, .ptr r0 0), (3, .ptr m.vars.length 0), (11, .lst .no 5 (rowsPh R.phases)), (12, .v (.int .i64 (R.phases.length : Int))), (13, .v (.int .i64 (i : Int)))]) (k := R.phases.length) ⟨0, Nat.zero_le _, by rw [upto_zero, flMem_nil]; exact above_push (above_self m), hv3, rfl, rfl⟩ ?_
        rintro k e m' F ⟨i, hi0, hA, hv3, rfl, rfl⟩
        repeat (first | refine x_seq ?_ | refine x_block ?_ | refine xn_normal ?_ | refine xi_normal ?_ | refine xn_exit ?_ | refine xi_exit ?_ | refine xi_other (by decide) ?_ | refine xn_ret ?_ | refine xi_ret ?_ | refine x_skip ?_ | refine x_exit ?_ | refine x_ret ?_)
        refine x_region (kp := kpSets) mixed hC ?_
        repeat (first | refine runs_seq ?_ | refine runs_block ?_ | refine next_normal ?_ | refine inside_normal ?_ | refine next_exit ?_ | refine inside_exit ?_ | refine inside_other (by decide) ?_ | refine next_ret ?_ | refine inside_ret ?_ | refine runs_ops_kept ?_ | refine runs_skip ?_ | refine runs_exit ?_ | refine runs_ret ?_ | ((first | refine' ops_op rfl rfl (by decide) ?_ ?_ ?_ | refine' ops_yes rfl rfl (by simp only [Ev.get, reduceIte, Nat.reduceEqDiff]; first | done | rfl) rfl (by decide) ?_ ?_ ?_ | refine' ops_op0 rfl rfl ?_ ?_ ?_); rotate_left 2; (focus (simp only [evOp, opd, constAV, constCell, Ev.get, reduceIte, Nat.reduceEqDiff, reduceCtorEq, evBinN, nilCmp, evBin, evInt, evUn, evConvert, evBuiltin, evLen, evField, evPart, tStr, tInt, tElem, tArr, tBool, tAgg, tField, Try.underlying9, Try.underlying3, Try.underlying4, Try.underlying5, Try.underlying21, Try.underlying121, Try.underlying38, Try.underlying25, Try.underlying135, Try.underlying33, Try.underlying2, Try.underlying147, Try.underlying22, Try.underlying56, Try.underlying54, List.zipWith, Option.map_some, Option.map_none, List.length_cons, List.length_nil, ne_eq, Int.reduceEq, not_false_eq_true, and_self, and_true, true_and, szStr, szInt, Option.getD_some, isNil, evStr, loadStr, loadInt, rowsS_len, rowsPh_len, rowsGs_len, fpRcPhases, fpRcGroups, fpPhSets, fpPhFrozen, fpGsGroup, fpGsParam, cellsRc, newRc, mapRc, zrPh, zoPh, znPh, zsPh, ldPh, zrGs, zoGs, znGs, zsGs, ldGs, mkPl, zrPl, zoPl, znPl, zsPl, evCall, List.size_toArray, List.append_nil, List.nil_append, List.map_cons, List.map_nil, argAV, argCell, List.toList_toArray, fieldTy]; first | done | rfl)); exact (fun h => by first | rfl | (simp at h; done) | exact absurd (Bool.and_eq_true_iff.mp h).2 (by decide))) | refine ops_no rfl rfl (by simp only [Ev.get, reduceIte, Nat.reduceEqDiff]; first | done | rfl) (by decide) rfl (by decide) ?_ | refine ops_off rfl rfl rfl rfl (by decide) ?_ | (refine ops_nil ?_; intro e2 h2; simp only [restr, kpSets, List.map_cons, List.map_nil, Ev.get, reduceIte, Nat.reduceEqDiff] at h2; subst h2))
        repeat (first | refine x_seq ?_ | refine x_block ?_ | refine xn_normal ?_ | refine xi_normal ?_ | refine xn_exit ?_ | refine xi_exit ?_ | refine xi_other (by decide) ?_ | refine xn_ret ?_ | refine xi_ret ?_ | refine x_skip ?_ | refine x_exit ?_ | refine x_ret ?_)
        refine x_cond rfl (fun hc => ?_) (fun hc => ?_)
        · have hi1 : i < R.phases.length := by have := of_decide_eq_true hc; omega
          have f2 := atPh (g := .no) (kk := .i64) hi1
          have hp := hsm.phase i
          have hN := @upto_next i (fun i => upto (R.phases.getD i ph0).sets.length fun k => flawIf (setBad R (R.phases.getD i ph0) k) rule i k)
          have hB := @upto_len (fun i => upto (R.phases.getD i ph0).sets.length fun k => flawIf (setBad R (R.phases.getD i ph0) k) rule i k) 64 i (fun j _ => by
            have := @upto_len (fun k => flawIf (setBad R (R.phases.getD j ph0) k) rule j k) 1 (R.phases.getD j ph0).sets.length fun k _ => flawIf_len ..
            have := (hsm.phase j).2.1
            omega)
          generalize hfl : (upto i fun i => upto (R.phases.getD i ph0).sets.length fun k => flawIf (setBad R (R.phases.getD i ph0) k) rule i k) = fl at hA hN hB
          generalize R.phases.getD i ph0 = p at f2 hp hN
          repeat (first | refine x_seq ?_ | refine x_block ?_ | refine xn_normal ?_ | refine xi_normal ?_ | refine xn_exit ?_ | refine xi_exit ?_ | refine xi_other (by decide) ?_ | refine xn_ret ?_ | refine xi_ret ?_ | refine x_skip ?_ | refine x_exit ?_ | refine x_ret ?_)
          refine x_region (kp := kpSets) mixed hC ?_
          repeat (first | refine runs_seq ?_ | refine runs_block ?_ | refine next_normal ?_ | refine inside_normal ?_ | refine next_exit ?_ | refine inside_exit ?_ | refine inside_other (by decide) ?_ | refine next_ret ?_ | refine inside_ret ?_ | refine runs_ops_kept ?_ | refine runs_skip ?_ | refine runs_exit ?_ | refine runs_ret ?_ | ((first | refine' ops_op rfl rfl (by decide) ?_ ?_ ?_ | refine' ops_yes rfl rfl (by simp only [Ev.get, reduceIte, Nat.reduceEqDiff, f2]; first | done | rfl) rfl (by decide) ?_ ?_ ?_ | refine' ops_op0 rfl rfl ?_ ?_ ?_); rotate_left 2; (focus (simp only [evOp, opd, constAV, constCell, Ev.get, reduceIte, Nat.reduceEqDiff, reduceCtorEq, evBinN, nilCmp, evBin, evInt, evUn, evConvert, evBuiltin, evLen, evField, evPart, tStr, tInt, tElem, tArr, tBool, tAgg, tField, Try.underlying9, Try.underlying3, Try.underlying4, Try.underlying5, Try.underlying21, Try.underlying121, Try.underlying38, Try.underlying25, Try.underlying135, Try.underlying33, Try.underlying2, Try.underlying147, Try.underlying22, Try.underlying56, Try.underlying54, List.zipWith, Option.map_some, Option.map_none, List.length_cons, List.length_nil, ne_eq, Int.reduceEq, not_false_eq_true, and_self, and_true, true_and, szStr, szInt, Option.getD_some, isNil, evStr, loadStr, loadInt, rowsS_len, rowsPh_len, rowsGs_len, fpRcPhases, fpRcGroups, fpPhSets, fpPhFrozen, fpGsGroup, fpGsParam, cellsRc, newRc, mapRc, zrPh, zoPh, znPh, zsPh, ldPh, zrGs, zoGs, znGs, zsGs, ldGs, mkPl, zrPl, zoPl, znPl, zsPl, evCall, List.size_toArray, List.append_nil, List.nil_append, List.map_cons, List.map_nil, argAV, argCell, List.toList_toArray, fieldTy, f2]; first | done | rfl)); exact (fun h => by first | rfl | (simp at h; done) | exact absurd (Bool.and_eq_true_iff.mp h).2 (by decide))) | refine ops_no rfl rfl (by simp only [Ev.get, reduceIte, Nat.reduceEqDiff, f2]; first | done | rfl) (by decide) rfl (by decide) ?_ | refine ops_off rfl rfl rfl rfl (by decide) ?_ | (refine ops_nil ?_; intro e2 h2; simp only [restr, kpSets, List.map_cons, List.map_nil, Ev.get, reduceIte, Nat.reduceEqDiff] at h2; subst h2))
          repeat (first | refine x_seq ?_ | refine x_block ?_ | refine xn_normal ?_ | refine xi_normal ?_ | refine xn_exit ?_ | refine xi_exit ?_ | refine xi_other (by decide) ?_ | refine xn_ret ?_ | refine xi_ret ?_ | refine x_skip ?_ | refine x_exit ?_ | refine x_ret ?_)
          refine x_ops (l2 := kpSets 4) ?_
          refine xops_step (xs_makeMap (enc := encPl) rfl rfl (by decide) rfl fun b hb => ?_)
          repeat (first | ((first | refine' xo_op hC rfl rfl (by decide) ?_ ?_ | refine' xo_yes hC rfl rfl (by simp only [Ev.get, reduceIte, Nat.reduceEqDiff]; first | done | rfl) rfl (by decide) ?_ ?_ | refine' xo_op0 hC rfl rfl ?_ ?_); rotate_left 2; (focus (simp only [evOp, opd, constAV, constCell, Ev.get, reduceIte, Nat.reduceEqDiff, reduceCtorEq, evBinN, nilCmp, evBin, evInt, evUn, evConvert, evBuiltin, evLen, evField, evPart, tStr, tInt, tElem, tArr, tBool, tAgg, tField, Try.underlying9, Try.underlying3, Try.underlying4, Try.underlying5, Try.underlying21, Try.underlying121, Try.underlying38, Try.underlying25, Try.underlying135, Try.underlying33, Try.underlying2, Try.underlying147, Try.underlying22, Try.underlying56, Try.underlying54, List.zipWith, Option.map_some, Option.map_none, List.length_cons, List.length_nil, ne_eq, Int.reduceEq, not_false_eq_true, and_self, and_true, true_and, szStr, szInt, Option.getD_some, isNil, evStr, loadStr, loadInt, rowsS_len, rowsPh_len, rowsGs_len, fpRcPhases, fpRcGroups, fpPhSets, fpPhFrozen, fpGsGroup, fpGsParam, cellsRc, newRc, mapRc, zrPh, zoPh, znPh, zsPh, ldPh, zrGs, zoGs, znGs, zsGs, ldGs, mkPl, zrPl, zoPl, znPl, zsPl, evCall, List.size_toArray, List.append_nil, List.nil_append, List.map_cons, List.map_nil, argAV, argCell, List.toList_toArray, fieldTy]; first | done | rfl))) | refine xo_no rfl rfl (by simp only [Ev.get, reduceIte, Nat.reduceEqDiff]; first | done | rfl) (by decide) rfl (by decide) ?_ | refine xo_off rfl rfl rfl rfl (by decide) ?_ | (refine xo_nil ?_; intro e2 h2; simp only [restr, kpSets, List.map_cons, List.map_nil, Ev.get, reduceIte, Nat.reduceEqDiff] at h2; subst h2))
          repeat (first | refine x_seq ?_ | refine x_block ?_ | refine xn_normal ?_ | refine xi_normal ?_ | refine xn_exit ?_ | refine xi_exit ?_ | refine xi_other (by decide) ?_ | refine xn_ret ?_ | refine xi_ret ?_ | refine x_skip ?_ | refine x_exit ?_ | refine x_ret ?_)
          have hq5 : m'.vars.length ≠ r0 := by have := above_len hA; rw [flMem_len] at this; omega
          have hq3 : m.vars.length ≠ r0 := by omega
          have hA1 := above_push (cs := p.row) hA
          have hv5 : (m'.push p.row).var m'.vars.length = some p.row := push_var
          have hv3' : (m'.push p.row).var m.vars.length = some R.row := push_old hv3
          generalize m'.vars.length = n5 at hq5 hv5
          generalize m'.push p.row = m5 at hA1 hv5 hv3'
          have f3 := lpPhSets hv5
          refine x_region (kp := kpSets) mixed hC ?_
          repeat (first | refine runs_seq ?_ | refine runs_block ?_ | refine next_normal ?_ | refine inside_normal ?_ | refine next_exit ?_ | refine inside_exit ?_ | refine inside_other (by decide) ?_ | refine next_ret ?_ | refine inside_ret ?_ | refine runs_ops_kept ?_ | refine runs_skip ?_ | refine runs_exit ?_ | refine runs_ret ?_ | ((first | refine' ops_op rfl rfl (by decide) ?_ ?_ ?_ | refine' ops_yes rfl rfl (by simp only [Ev.get, reduceIte, Nat.reduceEqDiff, f3]; first | done | rfl) rfl (by decide) ?_ ?_ ?_ | refine' ops_op0 rfl rfl ?_ ?_ ?_); rotate_left 2; (focus (simp only [evOp, opd, constAV, constCell, Ev.get, reduceIte, Nat.reduceEqDiff, reduceCtorEq, evBinN, nilCmp, evBin, evInt, evUn, evConvert, evBuiltin, evLen, evField, evPart, tStr, tInt, tElem, tArr, tBool, tAgg, tField, Try.underlying9, Try.underlying3, Try.underlying4, Try.underlying5, Try.underlying21, Try.underlying121, Try.underlying38, Try.underlying25, Try.underlying135, Try.underlying33, Try.underlying2, Try.underlying147, Try.underlying22, Try.underlying56, Try.underlying54, List.zipWith, Option.map_some, Option.map_none, List.length_cons, List.length_nil, ne_eq, Int.reduceEq, not_false_eq_true, and_self, and_true, true_and, szStr, szInt, Option.getD_some, isNil, evStr, loadStr, loadInt, rowsS_len, rowsPh_len, rowsGs_len, fpRcPhases, fpRcGroups, fpPhSets, fpPhFrozen, fpGsGroup, fpGsParam, cellsRc, newRc, mapRc, zrPh, zoPh, znPh, zsPh, ldPh, zrGs, zoGs, znGs, zsGs, ldGs, mkPl, zrPl, zoPl, znPl, zsPl, evCall, List.size_toArray, List.append_nil, List.nil_append, List.map_cons, List.map_nil, argAV, argCell, List.toList_toArray, fieldTy, f3]; first | done | rfl)); exact (fun h => by first | rfl | (simp at h; done) | exact absurd (Bool.and_eq_true_iff.mp h).2 (by decide))) | refine ops_no rfl rfl (by simp only [Ev.get, reduceIte, Nat.reduceEqDiff, f3]; first | done | rfl) (by decide) rfl (by decide) ?_ | refine ops_off rfl rfl rfl rfl (by decide) ?_ | (refine ops_nil ?_; intro e2 h2; simp only [restr, kpSets, List.map_cons, List.map_nil, Ev.get, reduceIte, Nat.reduceEqDiff] at h2; subst h2))
          repeat (first | refine x_seq ?_ | refine x_block ?_ | refine xn_normal ?_ | refine xi_normal ?_ | refine xn_exit ?_ | refine xi_exit ?_ | refine xi_other (by decide) ?_ | refine xn_ret ?_ | refine xi_ret ?_ | refine x_skip ?_ | refine x_exit ?_ | refine x_ret ?_)
          refine x_loop (fun k e m' F => ∃ (j : Nat) (ml : List ((ByteArray × Int) × Value)), j ≤ p.sets.length ∧ (∀ q, valAt (.int .i64 0) q ml = .int .i64 ((cnt (p.sets.take j) q : Nat) : Int)) ∧ (b, mapOb encPl ml) ∈ F ∧ Above (flMem m r0 rule (fl ++ upto j fun k => flawIf (setBad R p k) rule i k)) m' ∧ m'.var m.vars.length = some R.row ∧ m'.var n5 = some p.row ∧ k = p.sets.length - j ∧
            e = [(0, .ptr r0 0), (3, .ptr m.vars.length 0), (4, .v (.int .i64 (i : Int))), (5, .ptr n5 0), (6, .v (.map (some b))), (11, .lst .no 5 (rowsPh R.phases)), (12, .v (.int .i64 (R.phases.length : Int))), (13, .v (.int .i64 (i : Int))), (20, .lst .no 3 (rowsGs p.sets)), (21, .v (.int .i64 (p.sets.length : Int))), (22, .v (.int .i64 (j : Int)))])
            (k := p.sets.length) ⟨0, [], Nat.zero_le _, fun q => rfl, List.mem_cons_self .., by rw [upto_zero, List.append_nil]; exact hA1, hv3', hv5, rfl, rfl⟩ ?_
          rintro k e m'' F2 ⟨j, ml, hj0, hml, hbF, hA2, hw3, hw5, rfl, rfl⟩
          repeat (first | refine x_seq ?_ | refine x_block ?_ | refine xn_normal ?_ | refine xi_normal ?_ | refine xn_exit ?_ | refine xi_exit ?_ | refine xi_other (by decide) ?_ | refine xn_ret ?_ | refine xi_ret ?_ | refine x_skip ?_ | refine x_exit ?_ | refine x_ret ?_)
          refine x_region (kp := kpSets) mixed hC ?_
          repeat (first | refine runs_seq ?_ | refine runs_block ?_ | refine next_normal ?_ | refine inside_normal ?_ | refine next_exit ?_ | refine inside_exit ?_ | refine inside_other (by decide) ?_ | refine next_ret ?_ | refine inside_ret ?_ | refine runs_ops_kept ?_ | refine runs_skip ?_ | refine runs_exit ?_ | refine runs_ret ?_ | ((first | refine' ops_op rfl rfl (by decide) ?_ ?_ ?_ | refine' ops_yes rfl rfl (by simp only [Ev.get, reduceIte, Nat.reduceEqDiff]; first | done | rfl) rfl (by decide) ?_ ?_ ?_ | refine' ops_op0 rfl rfl ?_ ?_ ?_); rotate_left 2; (focus (simp only [evOp, opd, constAV, constCell, Ev.get, reduceIte, Nat.reduceEqDiff, reduceCtorEq, evBinN, nilCmp, evBin, evInt, evUn, evConvert, evBuiltin, evLen, evField, evPart, tStr, tInt, tElem, tArr, tBool, tAgg, tField, Try.underlying9, Try.underlying3, Try.underlying4, Try.underlying5, Try.underlying21, Try.underlying121, Try.underlying38, Try.underlying25, Try.underlying135, Try.underlying33, Try.underlying2, Try.underlying147, Try.underlying22, Try.underlying56, Try.underlying54, List.zipWith, Option.map_some, Option.map_none, List.length_cons, List.length_nil, ne_eq, Int.reduceEq, not_false_eq_true, and_self, and_true, true_and, szStr, szInt, Option.getD_some, isNil, evStr, loadStr, loadInt, rowsS_len, rowsPh_len, rowsGs_len, fpRcPhases, fpRcGroups, fpPhSets, fpPhFrozen, fpGsGroup, fpGsParam, cellsRc, newRc, mapRc, zrPh, zoPh, znPh, zsPh, ldPh, zrGs, zoGs, znGs, zsGs, ldGs, mkPl, zrPl, zoPl, znPl, zsPl, evCall, List.size_toArray, List.append_nil, List.nil_append, List.map_cons, List.map_nil, argAV, argCell, List.toList_toArray, fieldTy]; first | done | rfl)); exact (fun h => by first | rfl | (simp at h; done) | exact absurd (Bool.and_eq_true_iff.mp h).2 (by decide))) | refine ops_no rfl rfl (by simp only [Ev.get, reduceIte, Nat.reduceEqDiff]; first | done | rfl) (by decide) rfl (by decide) ?_ | refine ops_off rfl rfl rfl rfl (by decide) ?_ | (refine ops_nil ?_; intro e2 h2; simp only [restr, kpSets, List.map_cons, List.map_nil, Ev.get, reduceIte, Nat.reduceEqDiff] at h2; subst h2))
          repeat (first | refine x_seq ?_ | refine x_block ?_ | refine xn_normal ?_ | refine xi_normal ?_ | refine xn_exit ?_ | refine xi_exit ?_ | refine xi_other (by decide) ?_ | refine xn_ret ?_ | refine xi_ret ?_ | refine x_skip ?_ | refine x_exit ?_ | refine x_ret ?_)
          refine x_cond rfl (fun hc => ?_) (fun hc => ?_)
          · have hj1 : j < p.sets.length := by have := of_decide_eq_true hc; omega
            have f4 := atGs (g := .no) (kk := .i64) hj1
            have hcn := fun q => cnt_next hj1 q
            have hcl : cnt (p.sets.take j) (keyOf (p.sets.getD j gs0)) ≤ 64 := by have := cnt_le (p.sets.take j) (keyOf (p.sets.getD j gs0)); rw [List.length_take] at this; omega
            have hN2 := @upto_next j (fun k => flawIf (setBad R p k) rule i k)
            have hB2 := @upto_len (fun k => flawIf (setBad R p k) rule i k) 1 j fun k _ => flawIf_len ..
            have hbad : setBad R p j = (!among R.groups (p.sets.getD j gs0).group || (among p.frozen (p.sets.getD j gs0).group || decide (0 < cnt (p.sets.take j) (keyOf (p.sets.getD j gs0))))) := rfl
            generalize (upto j fun k => flawIf (setBad R p k) rule i k) = fl2 at hA2 hN2 hB2
            generalize p.sets.getD j gs0 = s at f4 hcn hcl hbad
            have hkey : (s.group, s.param) = keyOf s := rfl
            generalize hc0 : cnt (p.sets.take j) (keyOf s) = c at hcl hbad
            repeat (first | refine x_seq ?_ | refine x_block ?_ | refine xn_normal ?_ | refine xi_normal ?_ | refine xn_exit ?_ | refine xi_exit ?_ | refine xi_other (by decide) ?_ | refine xn_ret ?_ | refine xi_ret ?_ | refine x_skip ?_ | refine x_exit ?_ | refine x_ret ?_)
            refine x_region (kp := kpSets) mixed hC ?_
            repeat (first | refine runs_seq ?_ | refine runs_block ?_ | refine next_normal ?_ | refine inside_normal ?_ | refine next_exit ?_ | refine inside_exit ?_ | refine inside_other (by decide) ?_ | refine next_ret ?_ | refine inside_ret ?_ | refine runs_ops_kept ?_ | refine runs_skip ?_ | refine runs_exit ?_ | refine runs_ret ?_ | ((first | refine' ops_op rfl rfl (by decide) ?_ ?_ ?_ | refine' ops_yes rfl rfl (by simp only [Ev.get, reduceIte, Nat.reduceEqDiff, f4]; first | done | rfl) rfl (by decide) ?_ ?_ ?_ | refine' ops_op0 rfl rfl ?_ ?_ ?_); rotate_left 2; (focus (simp only [evOp, opd, constAV, constCell, Ev.get, reduceIte, Nat.reduceEqDiff, reduceCtorEq, evBinN, nilCmp, evBin, evInt, evUn, evConvert, evBuiltin, evLen, evField, evPart, tStr, tInt, tElem, tArr, tBool, tAgg, tField, Try.underlying9, Try.underlying3, Try.underlying4, Try.underlying5, Try.underlying21, Try.underlying121, Try.underlying38, Try.underlying25, Try.underlying135, Try.underlying33, Try.underlying2, Try.underlying147, Try.underlying22, Try.underlying56, Try.underlying54, List.zipWith, Option.map_some, Option.map_none, List.length_cons, List.length_nil, ne_eq, Int.reduceEq, not_false_eq_true, and_self, and_true, true_and, szStr, szInt, Option.getD_some, isNil, evStr, loadStr, loadInt, rowsS_len, rowsPh_len, rowsGs_len, fpRcPhases, fpRcGroups, fpPhSets, fpPhFrozen, fpGsGroup, fpGsParam, cellsRc, newRc, mapRc, zrPh, zoPh, znPh, zsPh, ldPh, zrGs, zoGs, znGs, zsGs, ldGs, mkPl, zrPl, zoPl, znPl, zsPl, evCall, List.size_toArray, List.append_nil, List.nil_append, List.map_cons, List.map_nil, argAV, argCell, List.toList_toArray, fieldTy, f4]; first | done | rfl)); exact (fun h => by first | rfl | (simp at h; done) | exact absurd (Bool.and_eq_true_iff.mp h).2 (by decide))) | refine ops_no rfl rfl (by simp only [Ev.get, reduceIte, Nat.reduceEqDiff, f4]; first | done | rfl) (by decide) rfl (by decide) ?_ | refine ops_off rfl rfl rfl rfl (by decide) ?_ | (refine ops_nil ?_; intro e2 h2; simp only [restr, kpSets, List.map_cons, List.map_nil, Ev.get, reduceIte, Nat.reduceEqDiff] at h2; subst h2))
            repeat (first | refine x_seq ?_ | refine x_block ?_ | refine xn_normal ?_ | refine xi_normal ?_ | refine xn_exit ?_ | refine xi_exit ?_ | refine xi_other (by decide) ?_ | refine xn_ret ?_ | refine xi_ret ?_ | refine x_skip ?_ | refine x_exit ?_ | refine x_ret ?_)
            have hB1 := above_push (cs := s.row) hA2
            have hu8 : (m''.push s.row).var m''.vars.length = some s.row := push_var
            have hu3 : (m''.push s.row).var m.vars.length = some R.row := push_old hw3
            have hu5 : (m''.push s.row).var n5 = some p.row := push_old hw5
            generalize m''.vars.length = n8 at hu8
            generalize m''.push s.row = m8 at hB1 hu8 hu3 hu5
            have f5 := lpGsGroup hu8
            have f6 := lpGsParam hu8
            simp only [iv] at f6
            refine x_region (kp := kpSets) mixed hC ?_
            repeat (first | refine runs_seq ?_ | refine runs_block ?_ | refine next_normal ?_ | refine inside_normal ?_ | refine next_exit ?_ | refine inside_exit ?_ | refine inside_other (by decide) ?_ | refine next_ret ?_ | refine inside_ret ?_ | refine runs_ops_kept ?_ | refine runs_skip ?_ | refine runs_exit ?_ | refine runs_ret ?_ | ((first | refine' ops_op rfl rfl (by decide) ?_ ?_ ?_ | refine' ops_yes rfl rfl (by simp only [Ev.get, reduceIte, Nat.reduceEqDiff, f5, f6]; first | done | rfl) rfl (by decide) ?_ ?_ ?_ | refine' ops_op0 rfl rfl ?_ ?_ ?_); rotate_left 2; (focus (simp only [evOp, opd, constAV, constCell, Ev.get, reduceIte, Nat.reduceEqDiff, reduceCtorEq, evBinN, nilCmp, evBin, evInt, evUn, evConvert, evBuiltin, evLen, evField, evPart, tStr, tInt, tElem, tArr, tBool, tAgg, tField, Try.underlying9, Try.underlying3, Try.underlying4, Try.underlying5, Try.underlying21, Try.underlying121, Try.underlying38, Try.underlying25, Try.underlying135, Try.underlying33, Try.underlying2, Try.underlying147, Try.underlying22, Try.underlying56, Try.underlying54, List.zipWith, Option.map_some, Option.map_none, List.length_cons, List.length_nil, ne_eq, Int.reduceEq, not_false_eq_true, and_self, and_true, true_and, szStr, szInt, Option.getD_some, isNil, evStr, loadStr, loadInt, rowsS_len, rowsPh_len, rowsGs_len, fpRcPhases, fpRcGroups, fpPhSets, fpPhFrozen, fpGsGroup, fpGsParam, cellsRc, newRc, mapRc, zrPh, zoPh, znPh, zsPh, ldPh, zrGs, zoGs, znGs, zsGs, ldGs, mkPl, zrPl, zoPl, znPl, zsPl, evCall, List.size_toArray, List.append_nil, List.nil_append, List.map_cons, List.map_nil, argAV, argCell, List.toList_toArray, fieldTy, f5, f6]; first | done | rfl)); exact (fun h => by first | rfl | (simp at h; done) | exact absurd (Bool.and_eq_true_iff.mp h).2 (by decide))) | refine ops_no rfl rfl (by simp only [Ev.get, reduceIte, Nat.reduceEqDiff, f5, f6]; first | done | rfl) (by decide) rfl (by decide) ?_ | refine ops_off rfl rfl rfl rfl (by decide) ?_ | (refine ops_nil ?_; intro e2 h2; simp only [restr, kpSets, List.map_cons, List.map_nil, Ev.get, reduceIte, Nat.reduceEqDiff] at h2; subst h2))
            repeat (first | refine x_seq ?_ | refine x_block ?_ | refine xn_normal ?_ | refine xi_normal ?_ | refine xn_exit ?_ | refine xi_exit ?_ | refine xi_other (by decide) ?_ | refine xn_ret ?_ | refine xi_ret ?_ | refine x_skip ?_ | refine x_exit ?_ | refine x_ret ?_)
            have hB9 := above_push (cs := [.v (.string s.group), .v (.int .i64 s.param)]) hB1
            have hz9 : (m8.push [.v (.string s.group), .v (.int .i64 s.param)]).var m8.vars.length = some [.v (.string s.group), .v (.int .i64 s.param)] := push_var
            have hz3 : (m8.push [.v (.string s.group), .v (.int .i64 s.param)]).var m.vars.length = some R.row := push_old hu3
            have hz5 : (m8.push [.v (.string s.group), .v (.int .i64 s.param)]).var n5 = some p.row := push_old hu5
            have hz8 : (m8.push [.v (.string s.group), .v (.int .i64 s.param)]).var n8 = some s.row := push_old hu8
            have hq9 : m8.vars.length ≠ r0 := by have := above_len hB1; rw [flMem_len] at this; omega
            generalize m8.vars.length = n9 at hz9 hq9
            generalize m8.push [.v (.string s.group), .v (.int .i64 s.param)] = m9 at hB9 hz9 hz3 hz5 hz8
            refine x_ncut (fun e m10 F => (b, mapOb encPl ml) ∈ F ∧ Above (flMem m r0 rule (fl ++ upto (j + 1) fun k => flawIf (setBad R p k) rule i k)) m10 ∧ m10.var m.vars.length = some R.row ∧ m10.var n5 = some p.row ∧ m10.var n9 = some [.v (.string s.group), .v (.int .i64 s.param)] ∧
              e = [(0, .ptr r0 0), (3, .ptr m.vars.length 0), (4, .v (.int .i64 (i : Int))), (5, .ptr n5 0), (6, .v (.map (some b))), (9, .ptr n9 0), (11, .lst .no 5 (rowsPh R.phases)), (12, .v (.int .i64 (R.phases.length : Int))), (13, .v (.int .i64 (i : Int))), (20, .lst .no 3 (rowsGs p.sets)), (21, .v (.int .i64 (p.sets.length : Int))), (22, .v (.int .i64 (j : Int)))]) ?_ ?_
            · have g1 := lpRcGroups hz3
              have g2 := lpGsGroup hz8
              have g3 := lpPhFrozen hz5
              have g4 := lpPl (cs := []) hz9
              have a1 := fun mm => amongG_eq (m := mm) (g := .no) (l := R.groups) (s := s.group) (by have := hsm.2.1; omega)
              have a2 := fun mm => amongG_eq (m := mm) (g := .no) (l := p.frozen) (s := s.group) (by have := hp.1; omega)
              obtain ⟨m10, hn10, hA10, ho10⟩ := note_step hv hB9 (by rw [List.length_append]; omega) (setBad R p j) (i : Int) (j : Int)
              rw [flawIf_app, List.append_assoc, ← hN2] at hA10
              have hl : valAt (.int .i64 0) (s.group, s.param) ml = .int .i64 ((c : Nat) : Int) := by rw [hml, hkey, hc0]
              have hcb : decide (((c : Nat) : Int) > 0) = decide (0 < c) := by rw [Bool.eq_iff_iff, decide_eq_true_eq, decide_eq_true_eq]; omega
              have done : ∀ (x : AV), (b, mapOb encPl ml) ∈ F2 ∧ Above (flMem m r0 rule (fl ++ upto (j + 1) fun k => flawIf (setBad R p k) rule i k)) m10 ∧ m10.var m.vars.length = some R.row ∧ m10.var n5 = some p.row ∧ m10.var n9 = some [.v (.string s.group), .v (.int .i64 s.param)] ∧ x = x :=
                fun x => ⟨hbF, hA10, ho10 _ _ hq3 hz3, ho10 _ _ hq5 hz5, ho10 _ _ hq9 hz9, rfl⟩
              refine x_ops (l2 := kpSets 9) ?_
              rw [hbad] at hn10
              cases hG : among R.groups s.group with
              | false =>
                rw [hG] at a1 hn10
                have b1 : (!false) = true := rfl
                rw [b1, Bool.true_or] at hn10
                repeat (first | ((first | refine' xo_op hC rfl rfl (by decide) ?_ ?_ | refine' xo_yes hC rfl rfl (by simp only [Ev.get, reduceIte, Nat.reduceEqDiff, g1, g2, g3, g4, t1, a1, b1, t2, hn10]; first | done | rfl) rfl (by decide) ?_ ?_ | refine' xo_op0 hC rfl rfl ?_ ?_); rotate_left 2; (focus (simp only [evOp, opd, constAV, constCell, Ev.get, reduceIte, Nat.reduceEqDiff, reduceCtorEq, evBinN, nilCmp, evBin, evInt, evUn, evConvert, evBuiltin, evLen, evField, evPart, tStr, tInt, tElem, tArr, tBool, tAgg, tField, Try.underlying9, Try.underlying3, Try.underlying4, Try.underlying5, Try.underlying21, Try.underlying121, Try.underlying38, Try.underlying25, Try.underlying135, Try.underlying33, Try.underlying2, Try.underlying147, Try.underlying22, Try.underlying56, Try.underlying54, List.zipWith, Option.map_some, Option.map_none, List.length_cons, List.length_nil, ne_eq, Int.reduceEq, not_false_eq_true, and_self, and_true, true_and, szStr, szInt, Option.getD_some, isNil, evStr, loadStr, loadInt, rowsS_len, rowsPh_len, rowsGs_len, fpRcPhases, fpRcGroups, fpPhSets, fpPhFrozen, fpGsGroup, fpGsParam, cellsRc, newRc, mapRc, zrPh, zoPh, znPh, zsPh, ldPh, zrGs, zoGs, znGs, zsGs, ldGs, mkPl, zrPl, zoPl, znPl, zsPl, evCall, List.size_toArray, List.append_nil, List.nil_append, List.map_cons, List.map_nil, argAV, argCell, List.toList_toArray, fieldTy, g1, g2, g3, g4, t1, a1, b1, t2, hn10]; first | done | rfl))) | refine xo_no rfl rfl (by simp only [Ev.get, reduceIte, Nat.reduceEqDiff, g1, g2, g3, g4, t1, a1, b1, t2, hn10]; first | done | rfl) (by decide) rfl (by decide) ?_ | refine xo_off rfl rfl rfl rfl (by decide) ?_ | (refine xo_nil ?_; intro e2 h2; simp only [restr, kpSets, List.map_cons, List.map_nil, Ev.get, reduceIte, Nat.reduceEqDiff] at h2; subst h2))
                exact ⟨hbF, hA10, ho10 _ _ hq3 hz3, ho10 _ _ hq5 hz5, ho10 _ _ hq9 hz9, rfl⟩
              | true =>
                rw [hG] at a1 hn10
                have b1 : (!true) = false := rfl
                rw [b1, Bool.false_or] at hn10
                cases hf : among p.frozen s.group with
                | true =>
                  rw [hf] at a2 hn10
                  rw [Bool.true_or] at hn10
                  repeat (first | ((first | refine' xo_op hC rfl rfl (by decide) ?_ ?_ | refine' xo_yes hC rfl rfl (by simp only [Ev.get, reduceIte, Nat.reduceEqDiff, g1, g2, g3, g4, t1, a1, a2, b1, t2, hn10]; first | done | rfl) rfl (by decide) ?_ ?_ | refine' xo_op0 hC rfl rfl ?_ ?_); rotate_left 2; (focus (simp only [evOp, opd, constAV, constCell, Ev.get, reduceIte, Nat.reduceEqDiff, reduceCtorEq, evBinN, nilCmp, evBin, evInt, evUn, evConvert, evBuiltin, evLen, evField, evPart, tStr, tInt, tElem, tArr, tBool, tAgg, tField, Try.underlying9, Try.underlying3, Try.underlying4, Try.underlying5, Try.underlying21, Try.underlying121, Try.underlying38, Try.underlying25, Try.underlying135, Try.underlying33, Try.underlying2, Try.underlying147, Try.underlying22, Try.underlying56, Try.underlying54, List.zipWith, Option.map_some, Option.map_none, List.length_cons, List.length_nil, ne_eq, Int.reduceEq, not_false_eq_true, and_self, and_true, true_and, szStr, szInt, Option.getD_some, isNil, evStr, loadStr, loadInt, rowsS_len, rowsPh_len, rowsGs_len, fpRcPhases, fpRcGroups, fpPhSets, fpPhFrozen, fpGsGroup, fpGsParam, cellsRc, newRc, mapRc, zrPh, zoPh, znPh, zsPh, ldPh, zrGs, zoGs, znGs, zsGs, ldGs, mkPl, zrPl, zoPl, znPl, zsPl, evCall, List.size_toArray, List.append_nil, List.nil_append, List.map_cons, List.map_nil, argAV, argCell, List.toList_toArray, fieldTy, g1, g2, g3, g4, t1, a1, a2, b1, t2, hn10]; first | done | rfl))) | refine xo_no rfl rfl (by simp only [Ev.get, reduceIte, Nat.reduceEqDiff, g1, g2, g3, g4, t1, a1, a2, b1, t2, hn10]; first | done | rfl) (by decide) rfl (by decide) ?_ | refine xo_off rfl rfl rfl rfl (by decide) ?_ | (refine xo_nil ?_; intro e2 h2; simp only [restr, kpSets, List.map_cons, List.map_nil, Ev.get, reduceIte, Nat.reduceEqDiff] at h2; subst h2))
                  exact ⟨hbF, hA10, ho10 _ _ hq3 hz3, ho10 _ _ hq5 hz5, ho10 _ _ hq9 hz9, rfl⟩
                | false =>
                  rw [hf] at a2 hn10
                  rw [Bool.false_or] at hn10
                  repeat (first | ((first | refine' xo_op hC rfl rfl (by decide) ?_ ?_ | refine' xo_yes hC rfl rfl (by simp only [Ev.get, reduceIte, Nat.reduceEqDiff, g1, g2, g3, g4, t1, a1, a2, b1]; first | done | rfl) rfl (by decide) ?_ ?_ | refine' xo_op0 hC rfl rfl ?_ ?_); rotate_left 2; (focus (simp only [evOp, opd, constAV, constCell, Ev.get, reduceIte, Nat.reduceEqDiff, reduceCtorEq, evBinN, nilCmp, evBin, evInt, evUn, evConvert, evBuiltin, evLen, evField, evPart, tStr, tInt, tElem, tArr, tBool, tAgg, tField, Try.underlying9, Try.underlying3, Try.underlying4, Try.underlying5, Try.underlying21, Try.underlying121, Try.underlying38, Try.underlying25, Try.underlying135, Try.underlying33, Try.underlying2, Try.underlying147, Try.underlying22, Try.underlying56, Try.underlying54, List.zipWith, Option.map_some, Option.map_none, List.length_cons, List.length_nil, ne_eq, Int.reduceEq, not_false_eq_true, and_self, and_true, true_and, szStr, szInt, Option.getD_some, isNil, evStr, loadStr, loadInt, rowsS_len, rowsPh_len, rowsGs_len, fpRcPhases, fpRcGroups, fpPhSets, fpPhFrozen, fpGsGroup, fpGsParam, cellsRc, newRc, mapRc, zrPh, zoPh, znPh, zsPh, ldPh, zrGs, zoGs, znGs, zsGs, ldGs, mkPl, zrPl, zoPl, znPl, zsPl, evCall, List.size_toArray, List.append_nil, List.nil_append, List.map_cons, List.map_nil, argAV, argCell, List.toList_toArray, fieldTy, g1, g2, g3, g4, t1, a1, a2, b1]; first | done | rfl))) | refine xo_no rfl rfl (by simp only [Ev.get, reduceIte, Nat.reduceEqDiff, g1, g2, g3, g4, t1, a1, a2, b1]; first | done | rfl) (by decide) rfl (by decide) ?_ | refine xo_off rfl rfl rfl rfl (by decide) ?_ | (refine xo_nil ?_; intro e2 h2; simp only [restr, kpSets, List.map_cons, List.map_nil, Ev.get, reduceIte, Nat.reduceEqDiff] at h2; subst h2))
                  refine xops_step (xs_lookup (t := 0) placeKey underMap zeroInt_run hbF (s.group, s.param) rfl rfl rfl rfl rfl ?_)
                  repeat (first | ((first | refine' xo_op hC rfl rfl (by decide) ?_ ?_ | refine' xo_yes hC rfl rfl (by simp only [Ev.get, reduceIte, Nat.reduceEqDiff, hl, hcb, t2, hn10]; first | done | rfl) rfl (by decide) ?_ ?_ | refine' xo_op0 hC rfl rfl ?_ ?_); rotate_left 2; (focus (simp only [evOp, opd, constAV, constCell, Ev.get, reduceIte, Nat.reduceEqDiff, reduceCtorEq, evBinN, nilCmp, evBin, evInt, evUn, evConvert, evBuiltin, evLen, evField, evPart, tStr, tInt, tElem, tArr, tBool, tAgg, tField, Try.underlying9, Try.underlying3, Try.underlying4, Try.underlying5, Try.underlying21, Try.underlying121, Try.underlying38, Try.underlying25, Try.underlying135, Try.underlying33, Try.underlying2, Try.underlying147, Try.underlying22, Try.underlying56, Try.underlying54, List.zipWith, Option.map_some, Option.map_none, List.length_cons, List.length_nil, ne_eq, Int.reduceEq, not_false_eq_true, and_self, and_true, true_and, szStr, szInt, Option.getD_some, isNil, evStr, loadStr, loadInt, rowsS_len, rowsPh_len, rowsGs_len, fpRcPhases, fpRcGroups, fpPhSets, fpPhFrozen, fpGsGroup, fpGsParam, cellsRc, newRc, mapRc, zrPh, zoPh, znPh, zsPh, ldPh, zrGs, zoGs, znGs, zsGs, ldGs, mkPl, zrPl, zoPl, znPl, zsPl, evCall, List.size_toArray, List.append_nil, List.nil_append, List.map_cons, List.map_nil, argAV, argCell, List.toList_toArray, fieldTy, hl, hcb, t2, hn10]; first | done | rfl))) | refine xo_no rfl rfl (by simp only [Ev.get, reduceIte, Nat.reduceEqDiff, hl, hcb, t2, hn10]; first | done | rfl) (by decide) rfl (by decide) ?_ | refine xo_off rfl rfl rfl rfl (by decide) ?_ | (refine xo_nil ?_; intro e2 h2; simp only [restr, kpSets, List.map_cons, List.map_nil, Ev.get, reduceIte, Nat.reduceEqDiff] at h2; subst h2))
                  exact ⟨hbF, hA10, ho10 _ _ hq3 hz3, ho10 _ _ hq5 hz5, ho10 _ _ hq9 hz9, rfl⟩
            · rintro e m10 F3 ⟨hb3, hA10, hu3, hu5, hu9, rfl⟩
              have g4 := lpPl (cs := []) hu9
              have hl : valAt (.int .i64 0) (s.group, s.param) ml = .int .i64 ((c : Nat) : Int) := by rw [hml, hkey, hc0]
              have hl2 : valAt (.int .i64 0) (s.group, s.param) (mapWith (.int .i64 0) (s.group, s.param) ml) = .int .i64 ((c : Nat) : Int) := by rw [valAt_eq, vAt_with, ← valAt_eq, hl]
              have r1 : IntKind.i64.wrap (((c : Nat) : Int) + 1) = ((c + 1 : Nat) : Int) := next_i64 (by omega)
              repeat (first | refine x_seq ?_ | refine x_block ?_ | refine xn_normal ?_ | refine xi_normal ?_ | refine xn_exit ?_ | refine xi_exit ?_ | refine xi_other (by decide) ?_ | refine xn_ret ?_ | refine xi_ret ?_ | refine x_skip ?_ | refine x_exit ?_ | refine x_ret ?_)
              refine x_icut (fun e m11 F => (b, mapOb encPl (putK (s.group, s.param) (.int .i64 ((c + 1 : Nat) : Int)) ml)) ∈ F ∧ m11 = m10 ∧
                e = [(0, .ptr r0 0), (3, .ptr m.vars.length 0), (4, .v (.int .i64 (i : Int))), (5, .ptr n5 0), (6, .v (.map (some b))), (11, .lst .no 5 (rowsPh R.phases)), (12, .v (.int .i64 (R.phases.length : Int))), (13, .v (.int .i64 (i : Int))), (20, .lst .no 3 (rowsGs p.sets)), (21, .v (.int .i64 (p.sets.length : Int))), (22, .v (.int .i64 (j : Int)))]) ?_ ?_
              · refine x_any (n := 7) (l2 := kpSets 10) mixed rfl ?_
                have hin : ∀ {F : Objs}, (b, mapOb encPl ml) ∈ F → (b, mapOb encPl (putK (s.group, s.param) (.int .i64 ((c + 1 : Nat) : Int)) ml)) ∈ setObjs (setObjs F b (mapOb encPl (mapWith (.int .i64 0) (s.group, s.param) ml))) b (mapOb encPl (setV (mapWith (.int .i64 0) (s.group, s.param) ml) (stampOf (s.group, s.param) ml) (.int .i64 ((c + 1 : Nat) : Int)))) := fun h => by
                  rw [← putK_eq (.int .i64 0)]
                  exact mem_setObjs (mem_setObjs h)
                repeat' (first | refine xany_one (i := 0) (by decide +kernel) rfl rfl ?_ | refine xany_one (i := 1) (by decide +kernel) rfl rfl ?_ | refine xany_one (i := 2) (by decide +kernel) rfl rfl ?_ | refine xany_one (i := 3) (by decide +kernel) rfl rfl ?_ | refine xany_one (i := 4) (by decide +kernel) rfl rfl ?_ | refine xany_one (i := 5) (by decide +kernel) rfl rfl ?_ | refine xany_one (i := 6) (by decide +kernel) rfl rfl ?_ | refine xany_two (i := 0) (j := 1) (by decide +kernel) rfl rfl rfl rfl ?_ ?_ | refine xany_two (i := 2) (j := 4) (by decide +kernel) rfl rfl rfl rfl ?_ ?_ | refine xany_two (i := 2) (j := 5) (by decide +kernel) rfl rfl rfl rfl ?_ ?_ | refine xany_two (i := 3) (j := 4) (by decide +kernel) rfl rfl rfl rfl ?_ ?_ | refine xany_two (i := 3) (j := 5) (by decide +kernel) rfl rfl rfl rfl ?_ ?_ | refine xs_op hC rfl (by simp only [evOp, opd, constAV, constCell, Ev.get, reduceIte, Nat.reduceEqDiff, reduceCtorEq, evBinN, nilCmp, evBin, evInt, evUn, evConvert, evBuiltin, evLen, evField, evPart, tStr, tInt, tElem, tArr, tBool, tAgg, tField, Try.underlying9, Try.underlying3, Try.underlying4, Try.underlying5, Try.underlying21, Try.underlying121, Try.underlying38, Try.underlying25, Try.underlying135, Try.underlying33, Try.underlying2, Try.underlying147, Try.underlying22, Try.underlying56, Try.underlying54, List.zipWith, Option.map_some, Option.map_none, List.length_cons, List.length_nil, ne_eq, Int.reduceEq, not_false_eq_true, and_self, and_true, true_and, szStr, szInt, Option.getD_some, isNil, evStr, loadStr, loadInt, rowsS_len, rowsPh_len, rowsGs_len, fpRcPhases, fpRcGroups, fpPhSets, fpPhFrozen, fpGsGroup, fpGsParam, cellsRc, newRc, mapRc, zrPh, zoPh, znPh, zsPh, ldPh, zrGs, zoGs, znGs, zsGs, ldGs, mkPl, zrPl, zoPl, znPl, zsPl, g4, hl, hl2, r1]; rfl) rfl ?_ | refine xs_lookup (t := 0) placeKey underMap zeroInt_run hb3 (s.group, s.param) rfl rfl rfl rfl rfl ?_ | refine xs_lookup (t := 0) placeKey underMap zeroInt_run (mem_setObjs hb3) (s.group, s.param) rfl rfl rfl rfl rfl ?_ | refine xs_entry (t := 0) placeKey underMap zeroInt_run hb3 (s.group, s.param) rfl rfl rfl rfl rfl (by decide) ?_ | refine xs_entryStore (t := 0) (t2 := 0) (v := .int .i64 ((c + 1 : Nat) : Int)) (mem_setObjs hb3) (stamp_lt (.int .i64 0) (s.group, s.param) ml) rfl rfl rfl rfl rfl rfl ?_ | refine xany_done (by decide +kernel) ?_)
                all_goals (intro e2 h2; simp only [restr, kpSets, List.map_cons, List.map_nil, Ev.get, reduceIte, Nat.reduceEqDiff] at h2; subst h2; exact ⟨hin hb3, rfl, rfl⟩)
              · rintro e m11 F4 ⟨hb4, rfl, rfl⟩
                have r6 := next_i64 (i := j) (by omega)
                repeat (first | refine x_seq ?_ | refine x_block ?_ | refine xn_normal ?_ | refine xi_normal ?_ | refine xn_exit ?_ | refine xi_exit ?_ | refine xi_other (by decide) ?_ | refine xn_ret ?_ | refine xi_ret ?_ | refine x_skip ?_ | refine x_exit ?_ | refine x_ret ?_)
                refine x_region (kp := kpSets) mixed hC ?_
                repeat (first | refine runs_seq ?_ | refine runs_block ?_ | refine next_normal ?_ | refine inside_normal ?_ | refine next_exit ?_ | refine inside_exit ?_ | refine inside_other (by decide) ?_ | refine next_ret ?_ | refine inside_ret ?_ | refine runs_ops_kept ?_ | refine runs_skip ?_ | refine runs_exit ?_ | refine runs_ret ?_ | ((first | refine' ops_op rfl rfl (by decide) ?_ ?_ ?_ | refine' ops_yes rfl rfl (by simp only [Ev.get, reduceIte, Nat.reduceEqDiff, r6]; first | done | rfl) rfl (by decide) ?_ ?_ ?_ | refine' ops_op0 rfl rfl ?_ ?_ ?_); rotate_left 2; (focus (simp only [evOp, opd, constAV, constCell, Ev.get, reduceIte, Nat.reduceEqDiff, reduceCtorEq, evBinN, nilCmp, evBin, evInt, evUn, evConvert, evBuiltin, evLen, evField, evPart, tStr, tInt, tElem, tArr, tBool, tAgg, tField, Try.underlying9, Try.underlying3, Try.underlying4, Try.underlying5, Try.underlying21, Try.underlying121, Try.underlying38, Try.underlying25, Try.underlying135, Try.underlying33, Try.underlying2, Try.underlying147, Try.underlying22, Try.underlying56, Try.underlying54, List.zipWith, Option.map_some, Option.map_none, List.length_cons, List.length_nil, ne_eq, Int.reduceEq, not_false_eq_true, and_self, and_true, true_and, szStr, szInt, Option.getD_some, isNil, evStr, loadStr, loadInt, rowsS_len, rowsPh_len, rowsGs_len, fpRcPhases, fpRcGroups, fpPhSets, fpPhFrozen, fpGsGroup, fpGsParam, cellsRc, newRc, mapRc, zrPh, zoPh, znPh, zsPh, ldPh, zrGs, zoGs, znGs, zsGs, ldGs, mkPl, zrPl, zoPl, znPl, zsPl, evCall, List.size_toArray, List.append_nil, List.nil_append, List.map_cons, List.map_nil, argAV, argCell, List.toList_toArray, fieldTy, r6]; first | done | rfl)); exact (fun h => by first | rfl | (simp at h; done) | exact absurd (Bool.and_eq_true_iff.mp h).2 (by decide))) | refine ops_no rfl rfl (by simp only [Ev.get, reduceIte, Nat.reduceEqDiff, r6]; first | done | rfl) (by decide) rfl (by decide) ?_ | refine ops_off rfl rfl rfl rfl (by decide) ?_ | (refine ops_nil ?_; intro e2 h2; simp only [restr, kpSets, List.map_cons, List.map_nil, Ev.get, reduceIte, Nat.reduceEqDiff] at h2; subst h2))
                refine xn_normal ⟨p.sets.length - (j + 1), by omega, j + 1, _, hj1, fun q => ?_, hb4, hA10, hu3, hu5, rfl, rfl⟩
                rw [valAt_eq, vAt_put, hcn q, hkey]
                by_cases hq : q = keyOf s
                · rw [if_pos hq, if_pos hq, hq, hc0]
                  rfl
                · rw [if_neg hq, if_neg hq, ← valAt_eq, hml]
                  rfl
          · have hj1 : j = p.sets.length := by have := of_decide_eq_false hc; omega
            subst hj1
            have r6 := next_i64 (i := i) (by omega)
            repeat (first | refine x_seq ?_ | refine x_block ?_ | refine xn_normal ?_ | refine xi_normal ?_ | refine xn_exit ?_ | refine xi_exit ?_ | refine xi_other (by decide) ?_ | refine xn_ret ?_ | refine xi_ret ?_ | refine x_skip ?_ | refine x_exit ?_ | refine x_ret ?_)
            refine x_region (kp := kpSets) mixed hC ?_
            repeat (first | refine runs_seq ?_ | refine runs_block ?_ | refine next_normal ?_ | refine inside_normal ?_ | refine next_exit ?_ | refine inside_exit ?_ | refine inside_other (by decide) ?_ | refine next_ret ?_ | refine inside_ret ?_ | refine runs_ops_kept ?_ | refine runs_skip ?_ | refine runs_exit ?_ | refine runs_ret ?_ | ((first | refine' ops_op rfl rfl (by decide) ?_ ?_ ?_ | refine' ops_yes rfl rfl (by simp only [Ev.get, reduceIte, Nat.reduceEqDiff, r6]; first | done | rfl) rfl (by decide) ?_ ?_ ?_ | refine' ops_op0 rfl rfl ?_ ?_ ?_); rotate_left 2; (focus (simp only [evOp, opd, constAV, constCell, Ev.get, reduceIte, Nat.reduceEqDiff, reduceCtorEq, evBinN, nilCmp, evBin, evInt, evUn, evConvert, evBuiltin, evLen, evField, evPart, tStr, tInt, tElem, tArr, tBool, tAgg, tField, Try.underlying9, Try.underlying3, Try.underlying4, Try.underlying5, Try.underlying21, Try.underlying121, Try.underlying38, Try.underlying25, Try.underlying135, Try.underlying33, Try.underlying2, Try.underlying147, Try.underlying22, Try.underlying56, Try.underlying54, List.zipWith, Option.map_some, Option.map_none, List.length_cons, List.length_nil, ne_eq, Int.reduceEq, not_false_eq_true, and_self, and_true, true_and, szStr, szInt, Option.getD_some, isNil, evStr, loadStr, loadInt, rowsS_len, rowsPh_len, rowsGs_len, fpRcPhases, fpRcGroups, fpPhSets, fpPhFrozen, fpGsGroup, fpGsParam, cellsRc, newRc, mapRc, zrPh, zoPh, znPh, zsPh, ldPh, zrGs, zoGs, znGs, zsGs, ldGs, mkPl, zrPl, zoPl, znPl, zsPl, evCall, List.size_toArray, List.append_nil, List.nil_append, List.map_cons, List.map_nil, argAV, argCell, List.toList_toArray, fieldTy, r6]; first | done | rfl)); exact (fun h => by first | rfl | (simp at h; done) | exact absurd (Bool.and_eq_true_iff.mp h).2 (by decide))) | refine ops_no rfl rfl (by simp only [Ev.get, reduceIte, Nat.reduceEqDiff, r6]; first | done | rfl) (by decide) rfl (by decide) ?_ | refine ops_off rfl rfl rfl rfl (by decide) ?_ | (refine ops_nil ?_; intro e2 h2; simp only [restr, kpSets, List.map_cons, List.map_nil, Ev.get, reduceIte, Nat.reduceEqDiff] at h2; subst h2))
            refine xn_normal ⟨R.phases.length - (i + 1), by omega, i + 1, hi1, ?_, hw3, rfl, rfl⟩
            rw [hN]
            exact hA2
        · have hi1 : i = R.phases.length := by have := of_decide_eq_false hc; omega
          subst hi1
          repeat (first | refine x_seq ?_ | refine x_block ?_ | refine xn_normal ?_ | refine xi_normal ?_ | refine xn_exit ?_ | refine xi_exit ?_ | refine xi_other (by decide) ?_ | refine xn_ret ?_ | refine xi_ret ?_ | refine x_skip ?_ | refine x_exit ?_ | refine x_ret ?_)
          exact leaves_none rfl (fin_flMem hv hA)
      · cases h
    · cases h
  · cases h
end Go.Proofs.Ytojaokhkbmiidaa.Ev

namespace Go.Proofs.Ytojaokhkbmiidaa.Ev
open Go Go.Proofs
set_option maxRecDepth 10000
set_option linter.unusedVariables false
set_option linter.unusedSimpArgs false
attribute [local irreducible] Next Inside Runs Ops table XRuns XOps XNext XInside
/-! ### letters -/
def letterB (c : Int) (first : Bool) : Bool := (decide (97 ≤ c) && decide (c ≤ 122)) || (!first && ((decide (48 ≤ c) && decide (c ≤ 57)) || decide (c = 95)))
def letterG : List AV → Mem → Option (AV × Mem)
  | [.v (.int .i32 c), .v (.bool f)], m => some (.v (.bool (letterB c f)), m)
  | _, _ => none
def kpLetter : Nat → Option (List Nat) := fun _ => some [0, 1, 4, 5, 12]
theorem letter_ok : FunOk Try.prog 120 letterG := by
  have hC := table_ok (P := Try.prog) (l := []) table_nil
  refine fun_ok mixed hC Try.func120 rfl kpLetter false rfl fun args m r h => ?_
  unfold letterG at h
  split at h
  · rename_i c f
    simp only [Option.some.injEq] at h
    subst h
    refine ⟨Nat.le_of_ble_eq_true rfl, ?_⟩
    simp only [entry, List.length_cons, List.length_nil, List.range, List.range.loop, List.zip_cons_cons, List.zip_nil_right]
    by_cases h1 : 97 ≤ c
    · have d1 : decide (c ≥ 97) = true := decide_eq_true h1
      by_cases h2 : c ≤ 122
      · have d2 : decide (c ≤ 122) = true := decide_eq_true h2
        repeat (first | refine runs_seq ?_ | refine runs_block ?_ | refine next_normal ?_ | refine inside_normal ?_ | refine next_exit ?_ | refine inside_exit ?_ | refine inside_other (by decide) ?_ | refine next_ret ?_ | refine inside_ret ?_ | refine runs_ops_kept ?_ | refine runs_skip ?_ | refine runs_exit ?_ | refine runs_ret ?_ | ((first | refine' ops_op rfl rfl (by decide) ?_ ?_ ?_ | refine' ops_yes rfl rfl (by simp only [Ev.get, reduceIte, Nat.reduceEqDiff, d1, d2]; first | done | rfl) rfl (by decide) ?_ ?_ ?_ | refine' ops_op0 rfl rfl ?_ ?_ ?_); rotate_left 2; (focus (simp only [evOp, opd, constAV, constCell, Ev.get, reduceIte, Nat.reduceEqDiff, reduceCtorEq, evBinN, nilCmp, evBin, evInt, evUn, evConvert, evBuiltin, evLen, evField, evPart, tStr, tInt, tElem, tArr, tBool, tAgg, tField, Try.underlying9, Try.underlying3, Try.underlying4, Try.underlying5, Try.underlying21, Try.underlying2, Try.underlying22, List.zipWith, Option.map_some, Option.map_none, List.length_cons, List.length_nil, ne_eq, Int.reduceEq, not_false_eq_true, and_self, and_true, true_and, szStr, szInt, Option.getD_some, isNil, loadStr, loadInt, mkInts0, mkInts1, mkStrs0, mkStrs1, rowsS_len, rowsI_len, evStr, evCall, List.size_toArray, List.append_nil, List.nil_append, List.map_cons, List.map_nil, argAV, argCell, List.toList_toArray, fieldTy, d1, d2]; first | done | rfl)); exact (fun h => by first | rfl | (simp at h; done) | exact absurd (Bool.and_eq_true_iff.mp h).2 (by decide))) | refine ops_no rfl rfl (by simp only [Ev.get, reduceIte, Nat.reduceEqDiff, d1, d2]; first | done | rfl) (by decide) rfl (by decide) ?_ | refine ops_off rfl rfl rfl rfl (by decide) ?_ | (refine ops_nil ?_; intro e2 h2; simp only [restr, kpLetter, List.map_cons, List.map_nil, Ev.get, reduceIte, Nat.reduceEqDiff] at h2; subst h2))
        refine runs_cond rfl (fun hc => ?_) (fun hc => by cases hc)
        repeat (first | refine runs_seq ?_ | refine runs_block ?_ | refine next_normal ?_ | refine inside_normal ?_ | refine next_exit ?_ | refine inside_exit ?_ | refine inside_other (by decide) ?_ | refine next_ret ?_ | refine inside_ret ?_ | refine runs_ops_kept ?_ | refine runs_skip ?_ | refine runs_exit ?_ | refine runs_ret ?_ | ((first | refine' ops_op rfl rfl (by decide) ?_ ?_ ?_ | refine' ops_yes rfl rfl (by simp only [Ev.get, reduceIte, Nat.reduceEqDiff]; first | done | rfl) rfl (by decide) ?_ ?_ ?_ | refine' ops_op0 rfl rfl ?_ ?_ ?_); rotate_left 2; (focus (simp only [evOp, opd, constAV, constCell, Ev.get, reduceIte, Nat.reduceEqDiff, reduceCtorEq, evBinN, nilCmp, evBin, evInt, evUn, evConvert, evBuiltin, evLen, evField, evPart, tStr, tInt, tElem, tArr, tBool, tAgg, tField, Try.underlying9, Try.underlying3, Try.underlying4, Try.underlying5, Try.underlying21, Try.underlying2, Try.underlying22, List.zipWith, Option.map_some, Option.map_none, List.length_cons, List.length_nil, ne_eq, Int.reduceEq, not_false_eq_true, and_self, and_true, true_and, szStr, szInt, Option.getD_some, isNil, loadStr, loadInt, mkInts0, mkInts1, mkStrs0, mkStrs1, rowsS_len, rowsI_len, evStr, evCall, List.size_toArray, List.append_nil, List.nil_append, List.map_cons, List.map_nil, argAV, argCell, List.toList_toArray, fieldTy]; first | done | rfl)); exact (fun h => by first | rfl | (simp at h; done) | exact absurd (Bool.and_eq_true_iff.mp h).2 (by decide))) | refine ops_no rfl rfl (by simp only [Ev.get, reduceIte, Nat.reduceEqDiff]; first | done | rfl) (by decide) rfl (by decide) ?_ | refine ops_off rfl rfl rfl rfl (by decide) ?_ | (refine ops_nil ?_; intro e2 h2; simp only [restr, kpLetter, List.map_cons, List.map_nil, Ev.get, reduceIte, Nat.reduceEqDiff] at h2; subst h2))
        exact leaves_v rfl (by simp [letterB, h1, h2]; rfl)
      · have d2 : decide (c ≤ 122) = false := decide_eq_false h2
        repeat (first | refine runs_seq ?_ | refine runs_block ?_ | refine next_normal ?_ | refine inside_normal ?_ | refine next_exit ?_ | refine inside_exit ?_ | refine inside_other (by decide) ?_ | refine next_ret ?_ | refine inside_ret ?_ | refine runs_ops_kept ?_ | refine runs_skip ?_ | refine runs_exit ?_ | refine runs_ret ?_ | ((first | refine' ops_op rfl rfl (by decide) ?_ ?_ ?_ | refine' ops_yes rfl rfl (by simp only [Ev.get, reduceIte, Nat.reduceEqDiff, d1, d2]; first | done | rfl) rfl (by decide) ?_ ?_ ?_ | refine' ops_op0 rfl rfl ?_ ?_ ?_); rotate_left 2; (focus (simp only [evOp, opd, constAV, constCell, Ev.get, reduceIte, Nat.reduceEqDiff, reduceCtorEq, evBinN, nilCmp, evBin, evInt, evUn, evConvert, evBuiltin, evLen, evField, evPart, tStr, tInt, tElem, tArr, tBool, tAgg, tField, Try.underlying9, Try.underlying3, Try.underlying4, Try.underlying5, Try.underlying21, Try.underlying2, Try.underlying22, List.zipWith, Option.map_some, Option.map_none, List.length_cons, List.length_nil, ne_eq, Int.reduceEq, not_false_eq_true, and_self, and_true, true_and, szStr, szInt, Option.getD_some, isNil, loadStr, loadInt, mkInts0, mkInts1, mkStrs0, mkStrs1, rowsS_len, rowsI_len, evStr, evCall, List.size_toArray, List.append_nil, List.nil_append, List.map_cons, List.map_nil, argAV, argCell, List.toList_toArray, fieldTy, d1, d2]; first | done | rfl)); exact (fun h => by first | rfl | (simp at h; done) | exact absurd (Bool.and_eq_true_iff.mp h).2 (by decide))) | refine ops_no rfl rfl (by simp only [Ev.get, reduceIte, Nat.reduceEqDiff, d1, d2]; first | done | rfl) (by decide) rfl (by decide) ?_ | refine ops_off rfl rfl rfl rfl (by decide) ?_ | (refine ops_nil ?_; intro e2 h2; simp only [restr, kpLetter, List.map_cons, List.map_nil, Ev.get, reduceIte, Nat.reduceEqDiff] at h2; subst h2))
        refine runs_cond rfl (fun hc => by cases hc) (fun hc => ?_)
        repeat (first | refine runs_seq ?_ | refine runs_block ?_ | refine next_normal ?_ | refine inside_normal ?_ | refine next_exit ?_ | refine inside_exit ?_ | refine inside_other (by decide) ?_ | refine next_ret ?_ | refine inside_ret ?_ | refine runs_ops_kept ?_ | refine runs_skip ?_ | refine runs_exit ?_ | refine runs_ret ?_ | ((first | refine' ops_op rfl rfl (by decide) ?_ ?_ ?_ | refine' ops_yes rfl rfl (by simp only [Ev.get, reduceIte, Nat.reduceEqDiff]; first | done | rfl) rfl (by decide) ?_ ?_ ?_ | refine' ops_op0 rfl rfl ?_ ?_ ?_); rotate_left 2; (focus (simp only [evOp, opd, constAV, constCell, Ev.get, reduceIte, Nat.reduceEqDiff, reduceCtorEq, evBinN, nilCmp, evBin, evInt, evUn, evConvert, evBuiltin, evLen, evField, evPart, tStr, tInt, tElem, tArr, tBool, tAgg, tField, Try.underlying9, Try.underlying3, Try.underlying4, Try.underlying5, Try.underlying21, Try.underlying2, Try.underlying22, List.zipWith, Option.map_some, Option.map_none, List.length_cons, List.length_nil, ne_eq, Int.reduceEq, not_false_eq_true, and_self, and_true, true_and, szStr, szInt, Option.getD_some, isNil, loadStr, loadInt, mkInts0, mkInts1, mkStrs0, mkStrs1, rowsS_len, rowsI_len, evStr, evCall, List.size_toArray, List.append_nil, List.nil_append, List.map_cons, List.map_nil, argAV, argCell, List.toList_toArray, fieldTy]; first | done | rfl)); exact (fun h => by first | rfl | (simp at h; done) | exact absurd (Bool.and_eq_true_iff.mp h).2 (by decide))) | refine ops_no rfl rfl (by simp only [Ev.get, reduceIte, Nat.reduceEqDiff]; first | done | rfl) (by decide) rfl (by decide) ?_ | refine ops_off rfl rfl rfl rfl (by decide) ?_ | (refine ops_nil ?_; intro e2 h2; simp only [restr, kpLetter, List.map_cons, List.map_nil, Ev.get, reduceIte, Nat.reduceEqDiff] at h2; subst h2))
        refine runs_cond rfl (fun hc => ?_) (fun hc => ?_)
        · repeat (first
            | refine runs_seq ?_ | refine runs_block ?_ | refine next_normal ?_ | refine inside_normal ?_ | refine next_exit ?_ | refine inside_exit ?_ | refine inside_other (by decide) ?_ | refine next_ret ?_ | refine inside_ret ?_
            | refine runs_ops_kept ?_ | refine runs_skip ?_ | refine runs_exit ?_ | refine runs_ret ?_
            | ((first | refine' ops_op rfl rfl (by decide) ?_ ?_ ?_ | refine' ops_yes rfl rfl (by simp only [Ev.get, reduceIte, Nat.reduceEqDiff]; first | done | rfl) rfl (by decide) ?_ ?_ ?_ | refine' ops_op0 rfl rfl ?_ ?_ ?_); rotate_left 2; (focus (simp only [evOp, opd, constAV, constCell, Ev.get, reduceIte, Nat.reduceEqDiff, reduceCtorEq, evBinN, nilCmp, evBin, evInt, evUn, evConvert, evBuiltin, evLen, evField, evPart, tStr, tInt, tElem, tArr, tBool, tAgg, tField, Try.underlying9, Try.underlying3, Try.underlying4, Try.underlying5, Try.underlying21, Try.underlying2, Try.underlying22, List.zipWith, Option.map_some, Option.map_none, List.length_cons, List.length_nil, ne_eq, Int.reduceEq, not_false_eq_true, and_self, and_true, true_and, szStr, szInt, Option.getD_some, isNil, loadStr, loadInt, mkInts0, mkInts1, mkStrs0, mkStrs1, rowsS_len, rowsI_len, evStr, evCall, List.size_toArray, List.append_nil, List.nil_append, List.map_cons, List.map_nil, argAV, argCell, List.toList_toArray, fieldTy]; first | done | rfl)); exact (fun h => by first | rfl | (simp at h; done) | exact absurd (Bool.and_eq_true_iff.mp h).2 (by decide)))
            | refine ops_no rfl rfl (by simp only [Ev.get, reduceIte, Nat.reduceEqDiff]; first | done | rfl) (by decide) rfl (by decide) ?_
            | refine ops_off rfl rfl rfl rfl (by decide) ?_
            | (refine ops_nil ?_; intro e2 h2; simp only [restr, kpLetter, List.map_cons, List.map_nil, Ev.get, reduceIte, Nat.reduceEqDiff] at h2; subst h2))
          exact leaves_v rfl (by simp [letterB, h2, hc]; rfl)
        · have d3 : decide (c ≥ 48) = true := decide_eq_true (by omega)
          have d4 : decide (c ≤ 57) = false := decide_eq_false (by omega)
          have d5 : (c == 95) = false := beq_eq_false_iff_ne.2 (by omega)
          repeat (first | refine runs_seq ?_ | refine runs_block ?_ | refine next_normal ?_ | refine inside_normal ?_ | refine next_exit ?_ | refine inside_exit ?_ | refine inside_other (by decide) ?_ | refine next_ret ?_ | refine inside_ret ?_ | refine runs_ops_kept ?_ | refine runs_skip ?_ | refine runs_exit ?_ | refine runs_ret ?_ | ((first | refine' ops_op rfl rfl (by decide) ?_ ?_ ?_ | refine' ops_yes rfl rfl (by simp only [Ev.get, reduceIte, Nat.reduceEqDiff, d3, d4, d5]; first | done | rfl) rfl (by decide) ?_ ?_ ?_ | refine' ops_op0 rfl rfl ?_ ?_ ?_); rotate_left 2; (focus (simp only [evOp, opd, constAV, constCell, Ev.get, reduceIte, Nat.reduceEqDiff, reduceCtorEq, evBinN, nilCmp, evBin, evInt, evUn, evConvert, evBuiltin, evLen, evField, evPart, tStr, tInt, tElem, tArr, tBool, tAgg, tField, Try.underlying9, Try.underlying3, Try.underlying4, Try.underlying5, Try.underlying21, Try.underlying2, Try.underlying22, List.zipWith, Option.map_some, Option.map_none, List.length_cons, List.length_nil, ne_eq, Int.reduceEq, not_false_eq_true, and_self, and_true, true_and, szStr, szInt, Option.getD_some, isNil, loadStr, loadInt, mkInts0, mkInts1, mkStrs0, mkStrs1, rowsS_len, rowsI_len, evStr, evCall, List.size_toArray, List.append_nil, List.nil_append, List.map_cons, List.map_nil, argAV, argCell, List.toList_toArray, fieldTy, d3, d4, d5]; first | done | rfl)); exact (fun h => by first | rfl | (simp at h; done) | exact absurd (Bool.and_eq_true_iff.mp h).2 (by decide))) | refine ops_no rfl rfl (by simp only [Ev.get, reduceIte, Nat.reduceEqDiff, d3, d4, d5]; first | done | rfl) (by decide) rfl (by decide) ?_ | refine ops_off rfl rfl rfl rfl (by decide) ?_ | (refine ops_nil ?_; intro e2 h2; simp only [restr, kpLetter, List.map_cons, List.map_nil, Ev.get, reduceIte, Nat.reduceEqDiff] at h2; subst h2))
          exact leaves_v rfl (by simp [letterB, h2, hc, show ¬ c ≤ 57 by omega, show ¬ c = 95 by omega]; rfl)
    · have d1 : decide (c ≥ 97) = false := decide_eq_false h1
      repeat (first | refine runs_seq ?_ | refine runs_block ?_ | refine next_normal ?_ | refine inside_normal ?_ | refine next_exit ?_ | refine inside_exit ?_ | refine inside_other (by decide) ?_ | refine next_ret ?_ | refine inside_ret ?_ | refine runs_ops_kept ?_ | refine runs_skip ?_ | refine runs_exit ?_ | refine runs_ret ?_ | ((first | refine' ops_op rfl rfl (by decide) ?_ ?_ ?_ | refine' ops_yes rfl rfl (by simp only [Ev.get, reduceIte, Nat.reduceEqDiff, d1]; first | done | rfl) rfl (by decide) ?_ ?_ ?_ | refine' ops_op0 rfl rfl ?_ ?_ ?_); rotate_left 2; (focus (simp only [evOp, opd, constAV, constCell, Ev.get, reduceIte, Nat.reduceEqDiff, reduceCtorEq, evBinN, nilCmp, evBin, evInt, evUn, evConvert, evBuiltin, evLen, evField, evPart, tStr, tInt, tElem, tArr, tBool, tAgg, tField, Try.underlying9, Try.underlying3, Try.underlying4, Try.underlying5, Try.underlying21, Try.underlying2, Try.underlying22, List.zipWith, Option.map_some, Option.map_none, List.length_cons, List.length_nil, ne_eq, Int.reduceEq, not_false_eq_true, and_self, and_true, true_and, szStr, szInt, Option.getD_some, isNil, loadStr, loadInt, mkInts0, mkInts1, mkStrs0, mkStrs1, rowsS_len, rowsI_len, evStr, evCall, List.size_toArray, List.append_nil, List.nil_append, List.map_cons, List.map_nil, argAV, argCell, List.toList_toArray, fieldTy, d1]; first | done | rfl)); exact (fun h => by first | rfl | (simp at h; done) | exact absurd (Bool.and_eq_true_iff.mp h).2 (by decide))) | refine ops_no rfl rfl (by simp only [Ev.get, reduceIte, Nat.reduceEqDiff, d1]; first | done | rfl) (by decide) rfl (by decide) ?_ | refine ops_off rfl rfl rfl rfl (by decide) ?_ | (refine ops_nil ?_; intro e2 h2; simp only [restr, kpLetter, List.map_cons, List.map_nil, Ev.get, reduceIte, Nat.reduceEqDiff] at h2; subst h2))
      refine runs_cond rfl (fun hc => by cases hc) (fun hc => ?_)
      repeat (first | refine runs_seq ?_ | refine runs_block ?_ | refine next_normal ?_ | refine inside_normal ?_ | refine next_exit ?_ | refine inside_exit ?_ | refine inside_other (by decide) ?_ | refine next_ret ?_ | refine inside_ret ?_ | refine runs_ops_kept ?_ | refine runs_skip ?_ | refine runs_exit ?_ | refine runs_ret ?_ | ((first | refine' ops_op rfl rfl (by decide) ?_ ?_ ?_ | refine' ops_yes rfl rfl (by simp only [Ev.get, reduceIte, Nat.reduceEqDiff]; first | done | rfl) rfl (by decide) ?_ ?_ ?_ | refine' ops_op0 rfl rfl ?_ ?_ ?_); rotate_left 2; (focus (simp only [evOp, opd, constAV, constCell, Ev.get, reduceIte, Nat.reduceEqDiff, reduceCtorEq, evBinN, nilCmp, evBin, evInt, evUn, evConvert, evBuiltin, evLen, evField, evPart, tStr, tInt, tElem, tArr, tBool, tAgg, tField, Try.underlying9, Try.underlying3, Try.underlying4, Try.underlying5, Try.underlying21, Try.underlying2, Try.underlying22, List.zipWith, Option.map_some, Option.map_none, List.length_cons, List.length_nil, ne_eq, Int.reduceEq, not_false_eq_true, and_self, and_true, true_and, szStr, szInt, Option.getD_some, isNil, loadStr, loadInt, mkInts0, mkInts1, mkStrs0, mkStrs1, rowsS_len, rowsI_len, evStr, evCall, List.size_toArray, List.append_nil, List.nil_append, List.map_cons, List.map_nil, argAV, argCell, List.toList_toArray, fieldTy]; first | done | rfl)); exact (fun h => by first | rfl | (simp at h; done) | exact absurd (Bool.and_eq_true_iff.mp h).2 (by decide))) | refine ops_no rfl rfl (by simp only [Ev.get, reduceIte, Nat.reduceEqDiff]; first | done | rfl) (by decide) rfl (by decide) ?_ | refine ops_off rfl rfl rfl rfl (by decide) ?_ | (refine ops_nil ?_; intro e2 h2; simp only [restr, kpLetter, List.map_cons, List.map_nil, Ev.get, reduceIte, Nat.reduceEqDiff] at h2; subst h2))
      refine runs_cond rfl (fun hc => ?_) (fun hc => ?_)
      · repeat (first
          | refine runs_seq ?_ | refine runs_block ?_ | refine next_normal ?_ | refine inside_normal ?_ | refine next_exit ?_ | refine inside_exit ?_ | refine inside_other (by decide) ?_ | refine next_ret ?_ | refine inside_ret ?_
          | refine runs_ops_kept ?_ | refine runs_skip ?_ | refine runs_exit ?_ | refine runs_ret ?_
          | ((first | refine' ops_op rfl rfl (by decide) ?_ ?_ ?_ | refine' ops_yes rfl rfl (by simp only [Ev.get, reduceIte, Nat.reduceEqDiff]; first | done | rfl) rfl (by decide) ?_ ?_ ?_ | refine' ops_op0 rfl rfl ?_ ?_ ?_); rotate_left 2; (focus (simp only [evOp, opd, constAV, constCell, Ev.get, reduceIte, Nat.reduceEqDiff, reduceCtorEq, evBinN, nilCmp, evBin, evInt, evUn, evConvert, evBuiltin, evLen, evField, evPart, tStr, tInt, tElem, tArr, tBool, tAgg, tField, Try.underlying9, Try.underlying3, Try.underlying4, Try.underlying5, Try.underlying21, Try.underlying2, Try.underlying22, List.zipWith, Option.map_some, Option.map_none, List.length_cons, List.length_nil, ne_eq, Int.reduceEq, not_false_eq_true, and_self, and_true, true_and, szStr, szInt, Option.getD_some, isNil, loadStr, loadInt, mkInts0, mkInts1, mkStrs0, mkStrs1, rowsS_len, rowsI_len, evStr, evCall, List.size_toArray, List.append_nil, List.nil_append, List.map_cons, List.map_nil, argAV, argCell, List.toList_toArray, fieldTy]; first | done | rfl)); exact (fun h => by first | rfl | (simp at h; done) | exact absurd (Bool.and_eq_true_iff.mp h).2 (by decide)))
          | refine ops_no rfl rfl (by simp only [Ev.get, reduceIte, Nat.reduceEqDiff]; first | done | rfl) (by decide) rfl (by decide) ?_
          | refine ops_off rfl rfl rfl rfl (by decide) ?_
          | (refine ops_nil ?_; intro e2 h2; simp only [restr, kpLetter, List.map_cons, List.map_nil, Ev.get, reduceIte, Nat.reduceEqDiff] at h2; subst h2))
        exact leaves_v rfl (by simp [letterB, h1, hc]; rfl)
      · by_cases h3 : 48 ≤ c
        · have d3 : decide (c ≥ 48) = true := decide_eq_true h3
          by_cases h4 : c ≤ 57
          · have d4 : decide (c ≤ 57) = true := decide_eq_true h4
            repeat (first | refine runs_seq ?_ | refine runs_block ?_ | refine next_normal ?_ | refine inside_normal ?_ | refine next_exit ?_ | refine inside_exit ?_ | refine inside_other (by decide) ?_ | refine next_ret ?_ | refine inside_ret ?_ | refine runs_ops_kept ?_ | refine runs_skip ?_ | refine runs_exit ?_ | refine runs_ret ?_ | ((first | refine' ops_op rfl rfl (by decide) ?_ ?_ ?_ | refine' ops_yes rfl rfl (by simp only [Ev.get, reduceIte, Nat.reduceEqDiff, d3, d4]; first | done | rfl) rfl (by decide) ?_ ?_ ?_ | refine' ops_op0 rfl rfl ?_ ?_ ?_); rotate_left 2; (focus (simp only [evOp, opd, constAV, constCell, Ev.get, reduceIte, Nat.reduceEqDiff, reduceCtorEq, evBinN, nilCmp, evBin, evInt, evUn, evConvert, evBuiltin, evLen, evField, evPart, tStr, tInt, tElem, tArr, tBool, tAgg, tField, Try.underlying9, Try.underlying3, Try.underlying4, Try.underlying5, Try.underlying21, Try.underlying2, Try.underlying22, List.zipWith, Option.map_some, Option.map_none, List.length_cons, List.length_nil, ne_eq, Int.reduceEq, not_false_eq_true, and_self, and_true, true_and, szStr, szInt, Option.getD_some, isNil, loadStr, loadInt, mkInts0, mkInts1, mkStrs0, mkStrs1, rowsS_len, rowsI_len, evStr, evCall, List.size_toArray, List.append_nil, List.nil_append, List.map_cons, List.map_nil, argAV, argCell, List.toList_toArray, fieldTy, d3, d4]; first | done | rfl)); exact (fun h => by first | rfl | (simp at h; done) | exact absurd (Bool.and_eq_true_iff.mp h).2 (by decide))) | refine ops_no rfl rfl (by simp only [Ev.get, reduceIte, Nat.reduceEqDiff, d3, d4]; first | done | rfl) (by decide) rfl (by decide) ?_ | refine ops_off rfl rfl rfl rfl (by decide) ?_ | (refine ops_nil ?_; intro e2 h2; simp only [restr, kpLetter, List.map_cons, List.map_nil, Ev.get, reduceIte, Nat.reduceEqDiff] at h2; subst h2))
            exact leaves_v rfl (by simp [letterB, h1, hc, h3, h4]; rfl)
          · have d4 : decide (c ≤ 57) = false := decide_eq_false h4
            repeat (first | refine runs_seq ?_ | refine runs_block ?_ | refine next_normal ?_ | refine inside_normal ?_ | refine next_exit ?_ | refine inside_exit ?_ | refine inside_other (by decide) ?_ | refine next_ret ?_ | refine inside_ret ?_ | refine runs_ops_kept ?_ | refine runs_skip ?_ | refine runs_exit ?_ | refine runs_ret ?_ | ((first | refine' ops_op rfl rfl (by decide) ?_ ?_ ?_ | refine' ops_yes rfl rfl (by simp only [Ev.get, reduceIte, Nat.reduceEqDiff, d3, d4]; first | done | rfl) rfl (by decide) ?_ ?_ ?_ | refine' ops_op0 rfl rfl ?_ ?_ ?_); rotate_left 2; (focus (simp only [evOp, opd, constAV, constCell, Ev.get, reduceIte, Nat.reduceEqDiff, reduceCtorEq, evBinN, nilCmp, evBin, evInt, evUn, evConvert, evBuiltin, evLen, evField, evPart, tStr, tInt, tElem, tArr, tBool, tAgg, tField, Try.underlying9, Try.underlying3, Try.underlying4, Try.underlying5, Try.underlying21, Try.underlying2, Try.underlying22, List.zipWith, Option.map_some, Option.map_none, List.length_cons, List.length_nil, ne_eq, Int.reduceEq, not_false_eq_true, and_self, and_true, true_and, szStr, szInt, Option.getD_some, isNil, loadStr, loadInt, mkInts0, mkInts1, mkStrs0, mkStrs1, rowsS_len, rowsI_len, evStr, evCall, List.size_toArray, List.append_nil, List.nil_append, List.map_cons, List.map_nil, argAV, argCell, List.toList_toArray, fieldTy, d3, d4]; first | done | rfl)); exact (fun h => by first | rfl | (simp at h; done) | exact absurd (Bool.and_eq_true_iff.mp h).2 (by decide))) | refine ops_no rfl rfl (by simp only [Ev.get, reduceIte, Nat.reduceEqDiff, d3, d4]; first | done | rfl) (by decide) rfl (by decide) ?_ | refine ops_off rfl rfl rfl rfl (by decide) ?_ | (refine ops_nil ?_; intro e2 h2; simp only [restr, kpLetter, List.map_cons, List.map_nil, Ev.get, reduceIte, Nat.reduceEqDiff] at h2; subst h2))
            exact leaves_v rfl (by simp [letterB, h1, hc, h4]; rfl)
        · have d3 : decide (c ≥ 48) = false := decide_eq_false h3
          repeat (first | refine runs_seq ?_ | refine runs_block ?_ | refine next_normal ?_ | refine inside_normal ?_ | refine next_exit ?_ | refine inside_exit ?_ | refine inside_other (by decide) ?_ | refine next_ret ?_ | refine inside_ret ?_ | refine runs_ops_kept ?_ | refine runs_skip ?_ | refine runs_exit ?_ | refine runs_ret ?_ | ((first | refine' ops_op rfl rfl (by decide) ?_ ?_ ?_ | refine' ops_yes rfl rfl (by simp only [Ev.get, reduceIte, Nat.reduceEqDiff, d3]; first | done | rfl) rfl (by decide) ?_ ?_ ?_ | refine' ops_op0 rfl rfl ?_ ?_ ?_); rotate_left 2; (focus (simp only [evOp, opd, constAV, constCell, Ev.get, reduceIte, Nat.reduceEqDiff, reduceCtorEq, evBinN, nilCmp, evBin, evInt, evUn, evConvert, evBuiltin, evLen, evField, evPart, tStr, tInt, tElem, tArr, tBool, tAgg, tField, Try.underlying9, Try.underlying3, Try.underlying4, Try.underlying5, Try.underlying21, Try.underlying2, Try.underlying22, List.zipWith, Option.map_some, Option.map_none, List.length_cons, List.length_nil, ne_eq, Int.reduceEq, not_false_eq_true, and_self, and_true, true_and, szStr, szInt, Option.getD_some, isNil, loadStr, loadInt, mkInts0, mkInts1, mkStrs0, mkStrs1, rowsS_len, rowsI_len, evStr, evCall, List.size_toArray, List.append_nil, List.nil_append, List.map_cons, List.map_nil, argAV, argCell, List.toList_toArray, fieldTy, d3]; first | done | rfl)); exact (fun h => by first | rfl | (simp at h; done) | exact absurd (Bool.and_eq_true_iff.mp h).2 (by decide))) | refine ops_no rfl rfl (by simp only [Ev.get, reduceIte, Nat.reduceEqDiff, d3]; first | done | rfl) (by decide) rfl (by decide) ?_ | refine ops_off rfl rfl rfl rfl (by decide) ?_ | (refine ops_nil ?_; intro e2 h2; simp only [restr, kpLetter, List.map_cons, List.map_nil, Ev.get, reduceIte, Nat.reduceEqDiff] at h2; subst h2))
          exact leaves_v rfl (by simp [letterB, h1, hc, h3]; rfl)
  · cases h
end Go.Proofs.Ytojaokhkbmiidaa.Ev

namespace Go.Proofs.Ytojaokhkbmiidaa.Ev
open Go Go.Proofs
set_option maxRecDepth 10000
set_option linter.unusedVariables false
set_option linter.unusedSimpArgs false
attribute [local irreducible] Next Inside Runs Ops table XRuns XOps XNext XInside
def lettersTo (s : ByteArray) : Nat → Bool
  | 0 => true
  | n + 1 => lettersTo s n && letterB ((s.get! n).toNat : Nat) (n == 0)
theorem letters_no {s : ByteArray} {i : Nat} (h : letterB ((s.get! i).toNat : Nat) (i == 0) = false) : ∀ {n : Nat}, i < n → lettersTo s n = false
  | 0, hn => by omega
  | n + 1, hn => by
    unfold lettersTo
    rcases Nat.lt_succ_iff_lt_or_eq.1 hn with hn | rfl
    · rw [letters_no h hn]; rfl
    · rw [h, Bool.and_false]
def isName (s : ByteArray) : Bool := lettersTo s s.size && (decide (1 ≤ s.size) && decide (s.size ≤ 16) && !keyword s)
theorem name_no {s : ByteArray} {i : Nat} (hi : i < s.size) (h : letterB ((s.get! i).toNat : Nat) (i == 0) = false) : isName s = false := by
  unfold isName
  rw [letters_no h hi]
  rfl
theorem letter_high {c : Nat} (h : 128 ≤ c) (f : Bool) : letterB (c : Int) f = false := by
  unfold letterB
  rw [decide_eq_false (by omega : ¬ (c : Int) ≤ 122), decide_eq_false (by omega : ¬ (c : Int) ≤ 57), decide_eq_false (by omega : ¬ (c : Int) = 95)]
  simp
theorem get_bang {s : ByteArray} {i : Nat} (h : i < s.size) : s.get! i = s[i]'h := by
  show s.get! i = _
  simp [ByteArray.get!, getElem!_pos, h]
  rfl
theorem size_zero {s : ByteArray} : (s != ⟨#[]⟩) = decide (1 ≤ s.size) := by
  by_cases h : s = ⟨#[]⟩
  · subst h; rfl
  · rw [bytes_ne.2 h]
    refine (decide_eq_true ?_).symm
    rcases Nat.eq_zero_or_pos s.size with h0 | h0
    · exfalso
      apply h
      obtain ⟨a⟩ := s
      have : a.size = 0 := h0
      rw [Array.eq_empty_of_size_eq_zero this]
    · exact h0
def isNameG : List AV → Mem → Option (AV × Mem)
  | [.v (.string s)], m => if s.size ≤ 9223372036854775807 then some (.v (.bool (isName s)), m) else none
  | _, _ => none
theorem isNameG_eq {s : ByteArray} {m : Mem} (h : s.size ≤ 9223372036854775807) : isNameG [.v (.string s)] m = some (.v (.bool (isName s)), m) := if_pos h
def kpIs : Nat → Option (List Nat) := fun _ => some [0, 2, 3, 4, 6, 7, 8, 15]
def tabIs : List (FuncId × (List AV → Mem → Option (AV × Mem))) := [(120, letterG), (121, keywordG)]
theorem is_ok : FunOk Try.prog 106 isNameG := by
  have hC := table_ok (P := Try.prog) (l := tabIs) (table_more letter_ok (table_more keyword_ok table_nil))
  have t1 := fun args mm => table_at (l := tabIs) (f := 120) (args := args) (m := mm) rfl
  have t2 := fun args mm => table_at (l := tabIs) (f := 121) (args := args) (m := mm) rfl
  refine fun_okX Try.func106 rfl false rfl fun args m r h => ?_
  unfold isNameG at h
  split at h
  · rename_i s
    split at h
    · rename_i hlen
      simp only [Option.some.injEq] at h
      subst h
      refine ⟨Nat.le_of_ble_eq_true rfl, fun φ w => ?_⟩
      simp only [entry, List.length_cons, List.length_nil, List.range, List.range.loop, List.zip_cons_cons, List.zip_nil_right]
      repeat (first | refine x_seq ?_ | refine x_block ?_ | refine xn_normal ?_ | refine xi_normal ?_ | refine xn_exit ?_ | refine xi_exit ?_ | refine xi_other (by decide) ?_ | refine xn_ret ?_ | refine xi_ret ?_ | refine x_skip ?_ | refine x_exit ?_ | refine x_ret ?_)
      refine x_region (kp := kpIs) mixed hC ?_
      repeat (first | refine runs_seq ?_ | refine runs_block ?_ | refine next_normal ?_ | refine inside_normal ?_ | refine next_exit ?_ | refine inside_exit ?_ | refine inside_other (by decide) ?_ | refine next_ret ?_ | refine inside_ret ?_ | refine runs_ops_kept ?_ | refine runs_skip ?_ | refine runs_exit ?_ | refine runs_ret ?_ | ((first | refine' ops_op rfl rfl (by decide) ?_ ?_ ?_ | refine' ops_yes rfl rfl (by simp only [Ev.get, reduceIte, Nat.reduceEqDiff]; first | done | rfl) rfl (by decide) ?_ ?_ ?_ | refine' ops_op0 rfl rfl ?_ ?_ ?_); rotate_left 2; (focus (simp only [evOp, opd, constAV, constCell, Ev.get, reduceIte, Nat.reduceEqDiff, reduceCtorEq, evBinN, nilCmp, evBin, evInt, evUn, evConvert, evBuiltin, evLen, evField, evPart, tStr, tInt, tElem, tArr, tBool, tAgg, tField, Try.underlying9, Try.underlying3, Try.underlying4, Try.underlying5, Try.underlying21, Try.underlying121, Try.underlying38, Try.underlying25, Try.underlying135, Try.underlying33, Try.underlying2, Try.underlying147, Try.underlying22, Try.underlying56, Try.underlying54, List.zipWith, Option.map_some, Option.map_none, List.length_cons, List.length_nil, ne_eq, Int.reduceEq, not_false_eq_true, and_self, and_true, true_and, szStr, szInt, Option.getD_some, isNil, loadStr, loadInt, mkInts0, mkInts1, mkStrs0, mkStrs1, rowsS_len, rowsI_len, evStr, evCall, List.size_toArray, List.append_nil, List.nil_append, List.map_cons, List.map_nil, argAV, argCell, List.toList_toArray, fieldTy]; first | done | rfl)); exact (fun h => by first | rfl | (simp at h; done) | exact absurd (Bool.and_eq_true_iff.mp h).2 (by decide))) | refine ops_no rfl rfl (by simp only [Ev.get, reduceIte, Nat.reduceEqDiff]; first | done | rfl) (by decide) rfl (by decide) ?_ | refine ops_off rfl rfl rfl rfl (by decide) ?_ | (refine ops_nil ?_; intro e2 h2; simp only [restr, kpIs, List.map_cons, List.map_nil, Ev.get, reduceIte, Nat.reduceEqDiff] at h2; subst h2))
      repeat (first | refine x_seq ?_ | refine x_block ?_ | refine xn_normal ?_ | refine xi_normal ?_ | refine xn_exit ?_ | refine xi_exit ?_ | refine xi_other (by decide) ?_ | refine xn_ret ?_ | refine xi_ret ?_ | refine x_skip ?_ | refine x_exit ?_ | refine x_ret ?_)
      refine x_ops (l2 := some [0, 2, 3, 4, 6, 7, 8, 15]) ?_
      refine xo_op hC rfl rfl (by decide) (by simp only [evOp, opd, constAV, constCell, Ev.get, reduceIte, Nat.reduceEqDiff, reduceCtorEq, evBinN, nilCmp, evBin, evInt, evUn, evConvert, evBuiltin, evLen, evField, evPart, tStr, tInt, tElem, tArr, tBool, tAgg, tField, Try.underlying9, Try.underlying3, Try.underlying4, Try.underlying5, Try.underlying21, Try.underlying121, Try.underlying38, Try.underlying25, Try.underlying135, Try.underlying33, Try.underlying2, Try.underlying147, Try.underlying22, Try.underlying56, Try.underlying54, List.zipWith, Option.map_some, Option.map_none, List.length_cons, List.length_nil, ne_eq, Int.reduceEq, not_false_eq_true, and_self, and_true, true_and, szStr, szInt, Option.getD_some, isNil, loadStr, loadInt, mkInts0, mkInts1, mkStrs0, mkStrs1, rowsS_len, rowsI_len, evStr]; rfl) ?_
      refine xo_range rfl rfl (by decide) rfl strS rfl fun b => ?_
      refine xo_nil ?_
      intro e2 h2
      simp only [restr, List.map_cons, List.map_nil, Ev.get, reduceIte, Nat.reduceEqDiff] at h2
      subst h2
      repeat (first | refine x_seq ?_ | refine x_block ?_ | refine xn_normal ?_ | refine xi_normal ?_ | refine xn_exit ?_ | refine xi_exit ?_ | refine xi_other (by decide) ?_ | refine xn_ret ?_ | refine xi_ret ?_ | refine x_skip ?_ | refine x_exit ?_ | refine x_ret ?_)
      refine x_loop (fun k e m' F => ∃ (pos : Nat) (x3 x4 x7 x8 x15 : AV), pos ≤ s.size ∧ lettersTo s pos = true ∧ m = m' ∧ F = [(b, .stringIter s pos)] ∧ k = s.size - pos ∧
        e = [(0, AV.v (.string s)), (2, .v (.bool false)), (3, x3), (4, x4), (6, .v (.pointer (some ⟨b, 0, none⟩))), (7, x7), (8, x8), (15, x15)]) (k := s.size) ⟨0, _, _, _, _, _, Nat.zero_le _, rfl, rfl, rfl, rfl, rfl⟩ ?_
      rintro k e m' F ⟨pos, x3, x4, x7, x8, x15, hpos, hok, rfl, rfl, rfl, rfl⟩
      repeat (first | refine x_seq ?_ | refine x_block ?_ | refine xn_normal ?_ | refine xi_normal ?_ | refine xn_exit ?_ | refine xi_exit ?_ | refine xi_other (by decide) ?_ | refine xn_ret ?_ | refine xi_ret ?_ | refine x_skip ?_ | refine x_exit ?_ | refine x_ret ?_)
      refine x_ops (l2 := some [0, 2, 3, 4, 6, 7, 8, 15]) ?_
      refine xo_next rfl rfl (by decide) rfl rfl (List.mem_singleton.2 rfl) (fun hp => ?_) (fun hp => ?_)
      · refine xo_op hC rfl rfl (by decide) (by simp only [evOp, opd, constAV, constCell, Ev.get, reduceIte, Nat.reduceEqDiff, reduceCtorEq, evBinN, nilCmp, evBin, evInt, evUn, evConvert, evBuiltin, evLen, evField, evPart, tStr, tInt, tElem, tArr, tBool, tAgg, tField, Try.underlying9, Try.underlying3, Try.underlying4, Try.underlying5, Try.underlying21, Try.underlying121, Try.underlying38, Try.underlying25, Try.underlying135, Try.underlying33, Try.underlying2, Try.underlying147, Try.underlying22, Try.underlying56, Try.underlying54, List.zipWith, Option.map_some, Option.map_none, List.length_cons, List.length_nil, ne_eq, Int.reduceEq, not_false_eq_true, and_self, and_true, true_and, szStr, szInt, Option.getD_some, isNil, loadStr, loadInt, mkInts0, mkInts1, mkStrs0, mkStrs1, rowsS_len, rowsI_len, evStr]; rfl) ?_
        refine xo_nil ?_
        intro e2 h2
        simp only [restr, List.map_cons, List.map_nil, Ev.get, reduceIte, Nat.reduceEqDiff] at h2
        subst h2
        repeat (first | refine x_seq ?_ | refine x_block ?_ | refine xn_normal ?_ | refine xi_normal ?_ | refine xn_exit ?_ | refine xi_exit ?_ | refine xi_other (by decide) ?_ | refine xn_ret ?_ | refine xi_ret ?_ | refine x_skip ?_ | refine x_exit ?_ | refine x_ret ?_)
        refine x_cond rfl (fun hc => ?_) (fun hc => by cases hc)
        repeat (first | refine x_seq ?_ | refine x_block ?_ | refine xn_normal ?_ | refine xi_normal ?_ | refine xn_exit ?_ | refine xi_exit ?_ | refine xi_other (by decide) ?_ | refine xn_ret ?_ | refine xi_ret ?_ | refine x_skip ?_ | refine x_exit ?_ | refine x_ret ?_)
        refine x_region (kp := kpIs) mixed hC ?_
        repeat (first | refine runs_seq ?_ | refine runs_block ?_ | refine next_normal ?_ | refine inside_normal ?_ | refine next_exit ?_ | refine inside_exit ?_ | refine inside_other (by decide) ?_ | refine next_ret ?_ | refine inside_ret ?_ | refine runs_ops_kept ?_ | refine runs_skip ?_ | refine runs_exit ?_ | refine runs_ret ?_ | ((first | refine' ops_op rfl rfl (by decide) ?_ ?_ ?_ | refine' ops_yes rfl rfl (by simp only [Ev.get, reduceIte, Nat.reduceEqDiff]; first | done | rfl) rfl (by decide) ?_ ?_ ?_ | refine' ops_op0 rfl rfl ?_ ?_ ?_); rotate_left 2; (focus (simp only [evOp, opd, constAV, constCell, Ev.get, reduceIte, Nat.reduceEqDiff, reduceCtorEq, evBinN, nilCmp, evBin, evInt, evUn, evConvert, evBuiltin, evLen, evField, evPart, tStr, tInt, tElem, tArr, tBool, tAgg, tField, Try.underlying9, Try.underlying3, Try.underlying4, Try.underlying5, Try.underlying21, Try.underlying121, Try.underlying38, Try.underlying25, Try.underlying135, Try.underlying33, Try.underlying2, Try.underlying147, Try.underlying22, Try.underlying56, Try.underlying54, List.zipWith, Option.map_some, Option.map_none, List.length_cons, List.length_nil, ne_eq, Int.reduceEq, not_false_eq_true, and_self, and_true, true_and, szStr, szInt, Option.getD_some, isNil, loadStr, loadInt, mkInts0, mkInts1, mkStrs0, mkStrs1, rowsS_len, rowsI_len, evStr, evCall, List.size_toArray, List.append_nil, List.nil_append, List.map_cons, List.map_nil, argAV, argCell, List.toList_toArray, fieldTy]; first | done | rfl)); exact (fun h => by first | rfl | (simp at h; done) | exact absurd (Bool.and_eq_true_iff.mp h).2 (by decide))) | refine ops_no rfl rfl (by simp only [Ev.get, reduceIte, Nat.reduceEqDiff]; first | done | rfl) (by decide) rfl (by decide) ?_ | refine ops_off rfl rfl rfl rfl (by decide) ?_ | (refine ops_nil ?_; intro e2 h2; simp only [restr, kpIs, List.map_cons, List.map_nil, Ev.get, reduceIte, Nat.reduceEqDiff] at h2; subst h2))
        repeat (first | refine x_seq ?_ | refine x_block ?_ | refine xn_normal ?_ | refine xi_normal ?_ | refine xn_exit ?_ | refine xi_exit ?_ | refine xi_other (by decide) ?_ | refine xn_ret ?_ | refine xi_ret ?_ | refine x_skip ?_ | refine x_exit ?_ | refine x_ret ?_)
        have hgb := get_bang hp
        have fl : ∀ c f mm, letterG [.v (.int .i32 c), .v (.bool f)] mm = some (.v (.bool (letterB c f)), mm) := fun _ _ _ => rfl
        refine x_region (kp := kpIs) mixed hC ?_
        have hz : ((pos : Int) == 0) = (pos == 0) := by
          cases pos <;> rfl
        repeat (first | refine runs_seq ?_ | refine runs_block ?_ | refine next_normal ?_ | refine inside_normal ?_ | refine next_exit ?_ | refine inside_exit ?_ | refine inside_other (by decide) ?_ | refine next_ret ?_ | refine inside_ret ?_ | refine runs_ops_kept ?_ | refine runs_skip ?_ | refine runs_exit ?_ | refine runs_ret ?_ | ((first | refine' ops_op rfl rfl (by decide) ?_ ?_ ?_ | refine' ops_yes rfl rfl (by simp only [Ev.get, reduceIte, Nat.reduceEqDiff, t1, fl]; first | done | rfl) rfl (by decide) ?_ ?_ ?_ | refine' ops_op0 rfl rfl ?_ ?_ ?_); rotate_left 2; (focus (simp only [evOp, opd, constAV, constCell, Ev.get, reduceIte, Nat.reduceEqDiff, reduceCtorEq, evBinN, nilCmp, evBin, evInt, evUn, evConvert, evBuiltin, evLen, evField, evPart, tStr, tInt, tElem, tArr, tBool, tAgg, tField, Try.underlying9, Try.underlying3, Try.underlying4, Try.underlying5, Try.underlying21, Try.underlying121, Try.underlying38, Try.underlying25, Try.underlying135, Try.underlying33, Try.underlying2, Try.underlying147, Try.underlying22, Try.underlying56, Try.underlying54, List.zipWith, Option.map_some, Option.map_none, List.length_cons, List.length_nil, ne_eq, Int.reduceEq, not_false_eq_true, and_self, and_true, true_and, szStr, szInt, Option.getD_some, isNil, loadStr, loadInt, mkInts0, mkInts1, mkStrs0, mkStrs1, rowsS_len, rowsI_len, evStr, evCall, List.size_toArray, List.append_nil, List.nil_append, List.map_cons, List.map_nil, argAV, argCell, List.toList_toArray, fieldTy, t1, fl]; first | done | rfl)); exact (fun h => by first | rfl | (simp at h; done) | exact absurd (Bool.and_eq_true_iff.mp h).2 (by decide))) | refine ops_no rfl rfl (by simp only [Ev.get, reduceIte, Nat.reduceEqDiff, t1, fl]; first | done | rfl) (by decide) rfl (by decide) ?_ | refine ops_off rfl rfl rfl rfl (by decide) ?_ | (refine ops_nil ?_; intro e2 h2; simp only [restr, kpIs, List.map_cons, List.map_nil, Ev.get, reduceIte, Nat.reduceEqDiff] at h2; subst h2))
        repeat (first | refine x_seq ?_ | refine x_block ?_ | refine xn_normal ?_ | refine xi_normal ?_ | refine xn_exit ?_ | refine xi_exit ?_ | refine xi_other (by decide) ?_ | refine xn_ret ?_ | refine xi_ret ?_ | refine x_skip ?_ | refine x_exit ?_ | refine x_ret ?_)
        refine x_cond rfl (fun hc => ?_) (fun hc => ?_)
        · have hbad : letterB ((s.get! pos).toNat : Nat) (pos == 0) = false := by
            rcases Nat.lt_or_ge (s.get! pos).toNat 128 with ha | ha
            · rw [hgb] at ha ⊢
              rw [decode_ascii s pos hp ha, hz] at hc
              simpa using hc
            · exact letter_high ha _
          rw [name_no hp hbad]
          repeat (first | refine x_seq ?_ | refine x_block ?_ | refine xn_normal ?_ | refine xi_normal ?_ | refine xn_exit ?_ | refine xi_exit ?_ | refine xi_other (by decide) ?_ | refine xn_ret ?_ | refine xi_ret ?_ | refine x_skip ?_ | refine x_exit ?_ | refine x_ret ?_)
          refine x_region (kp := kpIs) mixed hC ?_
          repeat (first | refine runs_seq ?_ | refine runs_block ?_ | refine next_normal ?_ | refine inside_normal ?_ | refine next_exit ?_ | refine inside_exit ?_ | refine inside_other (by decide) ?_ | refine next_ret ?_ | refine inside_ret ?_ | refine runs_ops_kept ?_ | refine runs_skip ?_ | refine runs_exit ?_ | refine runs_ret ?_ | ((first | refine' ops_op rfl rfl (by decide) ?_ ?_ ?_ | refine' ops_yes rfl rfl (by simp only [Ev.get, reduceIte, Nat.reduceEqDiff]; first | done | rfl) rfl (by decide) ?_ ?_ ?_ | refine' ops_op0 rfl rfl ?_ ?_ ?_); rotate_left 2; (focus (simp only [evOp, opd, constAV, constCell, Ev.get, reduceIte, Nat.reduceEqDiff, reduceCtorEq, evBinN, nilCmp, evBin, evInt, evUn, evConvert, evBuiltin, evLen, evField, evPart, tStr, tInt, tElem, tArr, tBool, tAgg, tField, Try.underlying9, Try.underlying3, Try.underlying4, Try.underlying5, Try.underlying21, Try.underlying121, Try.underlying38, Try.underlying25, Try.underlying135, Try.underlying33, Try.underlying2, Try.underlying147, Try.underlying22, Try.underlying56, Try.underlying54, List.zipWith, Option.map_some, Option.map_none, List.length_cons, List.length_nil, ne_eq, Int.reduceEq, not_false_eq_true, and_self, and_true, true_and, szStr, szInt, Option.getD_some, isNil, loadStr, loadInt, mkInts0, mkInts1, mkStrs0, mkStrs1, rowsS_len, rowsI_len, evStr, evCall, List.size_toArray, List.append_nil, List.nil_append, List.map_cons, List.map_nil, argAV, argCell, List.toList_toArray, fieldTy]; first | done | rfl)); exact (fun h => by first | rfl | (simp at h; done) | exact absurd (Bool.and_eq_true_iff.mp h).2 (by decide))) | refine ops_no rfl rfl (by simp only [Ev.get, reduceIte, Nat.reduceEqDiff]; first | done | rfl) (by decide) rfl (by decide) ?_ | refine ops_off rfl rfl rfl rfl (by decide) ?_ | (refine ops_nil ?_; intro e2 h2; simp only [restr, kpIs, List.map_cons, List.map_nil, Ev.get, reduceIte, Nat.reduceEqDiff] at h2; subst h2))
          repeat (first | refine x_seq ?_ | refine x_block ?_ | refine xn_normal ?_ | refine xi_normal ?_ | refine xn_exit ?_ | refine xi_exit ?_ | refine xi_other (by decide) ?_ | refine xn_ret ?_ | refine xi_ret ?_ | refine x_skip ?_ | refine x_exit ?_ | refine x_ret ?_)
          exact x_leaves (leaves_v rfl rfl)
        · have ha : (s.get! pos).toNat < 128 := by
            rcases Nat.lt_or_ge (s.get! pos).toNat 128 with ha | ha
            · exact ha
            · rw [hgb] at ha
              have := letter_high (decode_high s pos hp ha).1 ((pos : Int) == 0)
              rw [this] at hc
              cases hc
          have hgood : letterB ((s.get! pos).toNat : Nat) (pos == 0) = true := by
            rw [hgb] at ha ⊢
            rw [decode_ascii s pos hp ha, hz] at hc
            simpa using hc
          rw [hgb] at ha
          repeat (first | refine x_seq ?_ | refine x_block ?_ | refine xn_normal ?_ | refine xi_normal ?_ | refine xn_exit ?_ | refine xi_exit ?_ | refine xi_other (by decide) ?_ | refine xn_ret ?_ | refine xi_ret ?_ | refine x_skip ?_ | refine x_exit ?_ | refine x_ret ?_)
          rw [decode_ascii s pos hp ha]
          exact ⟨s.size - (pos + 1), by omega, pos + 1, _, _, _, _, _, hp, by rw [lettersTo, hok, hgood]; rfl, rfl, by simp [setObjs], rfl, rfl⟩
      · refine xo_op hC rfl rfl (by decide) (by simp only [evOp, opd, constAV, constCell, Ev.get, reduceIte, Nat.reduceEqDiff, reduceCtorEq, evBinN, nilCmp, evBin, evInt, evUn, evConvert, evBuiltin, evLen, evField, evPart, tStr, tInt, tElem, tArr, tBool, tAgg, tField, Try.underlying9, Try.underlying3, Try.underlying4, Try.underlying5, Try.underlying21, Try.underlying121, Try.underlying38, Try.underlying25, Try.underlying135, Try.underlying33, Try.underlying2, Try.underlying147, Try.underlying22, Try.underlying56, Try.underlying54, List.zipWith, Option.map_some, Option.map_none, List.length_cons, List.length_nil, ne_eq, Int.reduceEq, not_false_eq_true, and_self, and_true, true_and, szStr, szInt, Option.getD_some, isNil, loadStr, loadInt, mkInts0, mkInts1, mkStrs0, mkStrs1, rowsS_len, rowsI_len, evStr]; rfl) ?_
        refine xo_nil ?_
        intro e2 h2
        simp only [restr, List.map_cons, List.map_nil, Ev.get, reduceIte, Nat.reduceEqDiff] at h2
        subst h2
        have hend : pos = s.size := by omega
        subst hend
        repeat (first | refine x_seq ?_ | refine x_block ?_ | refine xn_normal ?_ | refine xi_normal ?_ | refine xn_exit ?_ | refine xi_exit ?_ | refine xi_other (by decide) ?_ | refine xn_ret ?_ | refine xi_ret ?_ | refine x_skip ?_ | refine x_exit ?_ | refine x_ret ?_)
        refine x_cond rfl (fun hc => by cases hc) (fun hc => ?_)
        repeat (first | refine x_seq ?_ | refine x_block ?_ | refine xn_normal ?_ | refine xi_normal ?_ | refine xn_exit ?_ | refine xi_exit ?_ | refine xi_other (by decide) ?_ | refine xn_ret ?_ | refine xi_ret ?_ | refine x_skip ?_ | refine x_exit ?_ | refine x_ret ?_)
        refine x_region (kp := kpIs) mixed hC ?_
        have hz := size_zero (s := s)
        have fk : ∀ s mm, keywordG [.v (.string s)] mm = some (.v (.bool (keyword s)), mm) := fun _ _ => rfl
        by_cases h1 : 1 ≤ s.size
        · have b1 : (s != ⟨#[]⟩) = true := hz.trans (decide_eq_true h1)
          by_cases h2 : s.size ≤ 16
          · have b2 : decide ((s.size : Int) ≤ 16) = true := decide_eq_true (by omega)
            repeat (first | refine runs_seq ?_ | refine runs_block ?_ | refine next_normal ?_ | refine inside_normal ?_ | refine next_exit ?_ | refine inside_exit ?_ | refine inside_other (by decide) ?_ | refine next_ret ?_ | refine inside_ret ?_ | refine runs_ops_kept ?_ | refine runs_skip ?_ | refine runs_exit ?_ | refine runs_ret ?_ | ((first | refine' ops_op rfl rfl (by decide) ?_ ?_ ?_ | refine' ops_yes rfl rfl (by simp only [Ev.get, reduceIte, Nat.reduceEqDiff, b1, b2, t2, fk]; first | done | rfl) rfl (by decide) ?_ ?_ ?_ | refine' ops_op0 rfl rfl ?_ ?_ ?_); rotate_left 2; (focus (simp only [evOp, opd, constAV, constCell, Ev.get, reduceIte, Nat.reduceEqDiff, reduceCtorEq, evBinN, nilCmp, evBin, evInt, evUn, evConvert, evBuiltin, evLen, evField, evPart, tStr, tInt, tElem, tArr, tBool, tAgg, tField, Try.underlying9, Try.underlying3, Try.underlying4, Try.underlying5, Try.underlying21, Try.underlying121, Try.underlying38, Try.underlying25, Try.underlying135, Try.underlying33, Try.underlying2, Try.underlying147, Try.underlying22, Try.underlying56, Try.underlying54, List.zipWith, Option.map_some, Option.map_none, List.length_cons, List.length_nil, ne_eq, Int.reduceEq, not_false_eq_true, and_self, and_true, true_and, szStr, szInt, Option.getD_some, isNil, loadStr, loadInt, mkInts0, mkInts1, mkStrs0, mkStrs1, rowsS_len, rowsI_len, evStr, evCall, List.size_toArray, List.append_nil, List.nil_append, List.map_cons, List.map_nil, argAV, argCell, List.toList_toArray, fieldTy, b1, b2, t2, fk]; first | done | rfl)); exact (fun h => by first | rfl | (simp at h; done) | exact absurd (Bool.and_eq_true_iff.mp h).2 (by decide))) | refine ops_no rfl rfl (by simp only [Ev.get, reduceIte, Nat.reduceEqDiff, b1, b2, t2, fk]; first | done | rfl) (by decide) rfl (by decide) ?_ | refine ops_off rfl rfl rfl rfl (by decide) ?_ | (refine ops_nil ?_; intro e2 h2; simp only [restr, kpIs, List.map_cons, List.map_nil, Ev.get, reduceIte, Nat.reduceEqDiff] at h2; subst h2))
            repeat (first | refine x_seq ?_ | refine x_block ?_ | refine xn_normal ?_ | refine xi_normal ?_ | refine xn_exit ?_ | refine xi_exit ?_ | refine xi_other (by decide) ?_ | refine xn_ret ?_ | refine xi_ret ?_ | refine x_skip ?_ | refine x_exit ?_ | refine x_ret ?_)
            exact x_leaves (leaves_v rfl (by simp [isName, hok, h1, h2]; rfl))
          · have b2 : decide ((s.size : Int) ≤ 16) = false := decide_eq_false (by omega)
            repeat (first | refine runs_seq ?_ | refine runs_block ?_ | refine next_normal ?_ | refine inside_normal ?_ | refine next_exit ?_ | refine inside_exit ?_ | refine inside_other (by decide) ?_ | refine next_ret ?_ | refine inside_ret ?_ | refine runs_ops_kept ?_ | refine runs_skip ?_ | refine runs_exit ?_ | refine runs_ret ?_ | ((first | refine' ops_op rfl rfl (by decide) ?_ ?_ ?_ | refine' ops_yes rfl rfl (by simp only [Ev.get, reduceIte, Nat.reduceEqDiff, b1, b2, t2, fk]; first | done | rfl) rfl (by decide) ?_ ?_ ?_ | refine' ops_op0 rfl rfl ?_ ?_ ?_); rotate_left 2; (focus (simp only [evOp, opd, constAV, constCell, Ev.get, reduceIte, Nat.reduceEqDiff, reduceCtorEq, evBinN, nilCmp, evBin, evInt, evUn, evConvert, evBuiltin, evLen, evField, evPart, tStr, tInt, tElem, tArr, tBool, tAgg, tField, Try.underlying9, Try.underlying3, Try.underlying4, Try.underlying5, Try.underlying21, Try.underlying121, Try.underlying38, Try.underlying25, Try.underlying135, Try.underlying33, Try.underlying2, Try.underlying147, Try.underlying22, Try.underlying56, Try.underlying54, List.zipWith, Option.map_some, Option.map_none, List.length_cons, List.length_nil, ne_eq, Int.reduceEq, not_false_eq_true, and_self, and_true, true_and, szStr, szInt, Option.getD_some, isNil, loadStr, loadInt, mkInts0, mkInts1, mkStrs0, mkStrs1, rowsS_len, rowsI_len, evStr, evCall, List.size_toArray, List.append_nil, List.nil_append, List.map_cons, List.map_nil, argAV, argCell, List.toList_toArray, fieldTy, b1, b2, t2, fk]; first | done | rfl)); exact (fun h => by first | rfl | (simp at h; done) | exact absurd (Bool.and_eq_true_iff.mp h).2 (by decide))) | refine ops_no rfl rfl (by simp only [Ev.get, reduceIte, Nat.reduceEqDiff, b1, b2, t2, fk]; first | done | rfl) (by decide) rfl (by decide) ?_ | refine ops_off rfl rfl rfl rfl (by decide) ?_ | (refine ops_nil ?_; intro e2 h2; simp only [restr, kpIs, List.map_cons, List.map_nil, Ev.get, reduceIte, Nat.reduceEqDiff] at h2; subst h2))
            repeat (first | refine x_seq ?_ | refine x_block ?_ | refine xn_normal ?_ | refine xi_normal ?_ | refine xn_exit ?_ | refine xi_exit ?_ | refine xi_other (by decide) ?_ | refine xn_ret ?_ | refine xi_ret ?_ | refine x_skip ?_ | refine x_exit ?_ | refine x_ret ?_)
            exact x_leaves (leaves_v rfl (by simp [isName, h2]; rfl))
        · have b1 : (s != ⟨#[]⟩) = false := hz.trans (decide_eq_false h1)
          repeat (first | refine runs_seq ?_ | refine runs_block ?_ | refine next_normal ?_ | refine inside_normal ?_ | refine next_exit ?_ | refine inside_exit ?_ | refine inside_other (by decide) ?_ | refine next_ret ?_ | refine inside_ret ?_ | refine runs_ops_kept ?_ | refine runs_skip ?_ | refine runs_exit ?_ | refine runs_ret ?_ | ((first | refine' ops_op rfl rfl (by decide) ?_ ?_ ?_ | refine' ops_yes rfl rfl (by simp only [Ev.get, reduceIte, Nat.reduceEqDiff, b1, t2, fk]; first | done | rfl) rfl (by decide) ?_ ?_ ?_ | refine' ops_op0 rfl rfl ?_ ?_ ?_); rotate_left 2; (focus (simp only [evOp, opd, constAV, constCell, Ev.get, reduceIte, Nat.reduceEqDiff, reduceCtorEq, evBinN, nilCmp, evBin, evInt, evUn, evConvert, evBuiltin, evLen, evField, evPart, tStr, tInt, tElem, tArr, tBool, tAgg, tField, Try.underlying9, Try.underlying3, Try.underlying4, Try.underlying5, Try.underlying21, Try.underlying121, Try.underlying38, Try.underlying25, Try.underlying135, Try.underlying33, Try.underlying2, Try.underlying147, Try.underlying22, Try.underlying56, Try.underlying54, List.zipWith, Option.map_some, Option.map_none, List.length_cons, List.length_nil, ne_eq, Int.reduceEq, not_false_eq_true, and_self, and_true, true_and, szStr, szInt, Option.getD_some, isNil, loadStr, loadInt, mkInts0, mkInts1, mkStrs0, mkStrs1, rowsS_len, rowsI_len, evStr, evCall, List.size_toArray, List.append_nil, List.nil_append, List.map_cons, List.map_nil, argAV, argCell, List.toList_toArray, fieldTy, b1, t2, fk]; first | done | rfl)); exact (fun h => by first | rfl | (simp at h; done) | exact absurd (Bool.and_eq_true_iff.mp h).2 (by decide))) | refine ops_no rfl rfl (by simp only [Ev.get, reduceIte, Nat.reduceEqDiff, b1, t2, fk]; first | done | rfl) (by decide) rfl (by decide) ?_ | refine ops_off rfl rfl rfl rfl (by decide) ?_ | (refine ops_nil ?_; intro e2 h2; simp only [restr, kpIs, List.map_cons, List.map_nil, Ev.get, reduceIte, Nat.reduceEqDiff] at h2; subst h2))
          repeat (first | refine x_seq ?_ | refine x_block ?_ | refine xn_normal ?_ | refine xi_normal ?_ | refine xn_exit ?_ | refine xi_exit ?_ | refine xi_other (by decide) ?_ | refine xn_ret ?_ | refine xi_ret ?_ | refine x_skip ?_ | refine x_exit ?_ | refine x_ret ?_)
          exact x_leaves (leaves_v rfl (by simp [isName, h1]; rfl))
    · cases h
  · cases h
end Go.Proofs.Ytojaokhkbmiidaa.Ev
