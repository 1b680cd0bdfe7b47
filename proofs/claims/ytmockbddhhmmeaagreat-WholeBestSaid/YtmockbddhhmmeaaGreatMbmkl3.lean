/- Words of struct types: Tn, Rn. -/
import Derived.Test.YtmockbddhhmmeaaGreatMbmkl2
namespace Go.Proofs.YtmockbddhhmmeaaGreat.Ev
open Go Go.Proofs
set_option maxRecDepth 10000
set_option maxHeartbeats 8000000
set_option linter.unusedVariables false
set_option linter.unusedSimpArgs false
section
attribute [local irreducible] Next Inside Runs Ops table
/-! ### engine.turn -/
structure Tn where
 p : Pn
 s : Ss
 x : In
 step : Int
 phase : Int
 events : List Evt
def Tn.rowG (x : Tn) (g : Grow) : List AV := [iv x.p.steps, iv x.p.weights, iv x.p.metrics, iv x.p.groups, iv x.p.eval, .lst .no 2 (rowsSp x.p.spans), .lst .no 1 (rowsBs x.p.frozen), .lst .no 3 (rowsTk x.p.tracks), .v (.bool x.p.stop.On), .v (.string x.p.stop.Metric), .v (.bool x.p.stop.Max), iv x.p.stop.Patience, iv x.p.stop.Delta, .v (.bool x.p.stop.Rel), .v (.bool x.p.plateau.On), .v (.string x.p.plateau.Metric), .v (.bool x.p.plateau.Max), iv x.p.plateau.Factor, iv x.p.plateau.Patience, iv x.p.plateau.Cooldown, iv x.p.plateau.Floor, iv x.p.plateau.Delta, .v (.bool x.p.keep.On), .v (.string x.p.keep.Metric), .v (.bool x.p.keep.Max), iv x.p.keep.Count, .v (.bool x.p.ema.On), iv x.p.ema.Decay, iv x.p.stopAt, iv x.p.cutAt, iv x.p.keepAt, iv x.p.swaFrom, iv x.p.swaEvery, iv x.s.step, iv x.s.status, iv x.s.ended, .v (.bool x.s.stop.has), iv x.s.stop.best, iv x.s.stop.bad, .v (.bool x.s.cut.watch.has), iv x.s.cut.watch.best, iv x.s.cut.watch.bad, iv x.s.cut.rest, iv x.s.cut.scale, .lst .no 2 (rowsKt x.s.kept), .lst .no 1 (rowsI x.s.ema), iv x.s.swa.count, .lst .no 1 (rowsI x.s.swa.sums), .lst .no 2 (rowsRd x.x.readings), .lst .no 1 (rowsI x.x.weights), iv x.step, iv x.phase, .lst g 3 (rowsEvt x.events)]
abbrev Tn.row (x : Tn) : List AV := x.rowG .no
theorem cellsTn {x : Tn} {g : Grow} : cellsOf (.agg (x.rowG g)) = some (x.rowG g) := rfl
theorem newTn {m : Mem} {x : Tn} {g : Grow} : newVar m m.vars.length (x.rowG g) = some (m.push (x.rowG g)) := newVar_push rfl
theorem fpTnP {r : Nat} : evFieldAddr Tryz.prog 137 (.ptr r 0) 0 = some (.ptr r 0) := by kernel_rfl
theorem fpTnPSteps {r : Nat} : evFieldAddr Tryz.prog 34 (.ptr r 0) 0 = some (.ptr r 0) := by kernel_rfl
theorem lpTnPSteps {m : Mem} {r : Nat} {x : Tn} {g : Grow} (hv : m.var r = some (x.rowG g)) : evLoad Tryz.prog m 3 (.ptr r 0) = some (iv x.p.steps) := load_cell (k := 1) hv (by kernel_rfl) (by kernel_rfl) rfl
theorem fpTnPEval {r : Nat} : evFieldAddr Tryz.prog 34 (.ptr r 0) 4 = some (.ptr r 4) := by kernel_rfl
theorem lpTnPEval {m : Mem} {r : Nat} {x : Tn} {g : Grow} (hv : m.var r = some (x.rowG g)) : evLoad Tryz.prog m 3 (.ptr r 4) = some (iv x.p.eval) := load_cell (k := 1) hv (by kernel_rfl) (by kernel_rfl) rfl
theorem fpTnPSpans {r : Nat} : evFieldAddr Tryz.prog 34 (.ptr r 0) 5 = some (.ptr r 5) := by kernel_rfl
theorem lpTnPSpans {m : Mem} {r : Nat} {x : Tn} {g : Grow} (hv : m.var r = some (x.rowG g)) : evLoad Tryz.prog m 22 (.ptr r 5) = some (.lst .no 2 (rowsSp x.p.spans)) := load_cell (k := 1) hv (by kernel_rfl) (by kernel_rfl) rfl
theorem fpTnPFrozen {r : Nat} : evFieldAddr Tryz.prog 34 (.ptr r 0) 6 = some (.ptr r 6) := by kernel_rfl
theorem lpTnPFrozen {m : Mem} {r : Nat} {x : Tn} {g : Grow} (hv : m.var r = some (x.rowG g)) : evLoad Tryz.prog m 23 (.ptr r 6) = some (.lst .no 1 (rowsBs x.p.frozen)) := load_cell (k := 1) hv (by kernel_rfl) (by kernel_rfl) rfl
theorem fpTnPStop {r : Nat} : evFieldAddr Tryz.prog 34 (.ptr r 0) 8 = some (.ptr r 8) := by kernel_rfl
theorem fpTnPStopMax {r : Nat} : evFieldAddr Tryz.prog 26 (.ptr r 8) 2 = some (.ptr r 10) := by kernel_rfl
theorem lpTnPStopMax {m : Mem} {r : Nat} {x : Tn} {g : Grow} (hv : m.var r = some (x.rowG g)) : evLoad Tryz.prog m 4 (.ptr r 10) = some (.v (.bool x.p.stop.Max)) := load_cell (k := 1) hv (by kernel_rfl) (by kernel_rfl) rfl
theorem fpTnPStopPatience {r : Nat} : evFieldAddr Tryz.prog 26 (.ptr r 8) 3 = some (.ptr r 11) := by kernel_rfl
theorem lpTnPStopPatience {m : Mem} {r : Nat} {x : Tn} {g : Grow} (hv : m.var r = some (x.rowG g)) : evLoad Tryz.prog m 3 (.ptr r 11) = some (iv x.p.stop.Patience) := load_cell (k := 1) hv (by kernel_rfl) (by kernel_rfl) rfl
theorem fpTnPStopDelta {r : Nat} : evFieldAddr Tryz.prog 26 (.ptr r 8) 4 = some (.ptr r 12) := by kernel_rfl
theorem lpTnPStopDelta {m : Mem} {r : Nat} {x : Tn} {g : Grow} (hv : m.var r = some (x.rowG g)) : evLoad Tryz.prog m 3 (.ptr r 12) = some (iv x.p.stop.Delta) := load_cell (k := 1) hv (by kernel_rfl) (by kernel_rfl) rfl
theorem fpTnPStopRel {r : Nat} : evFieldAddr Tryz.prog 26 (.ptr r 8) 5 = some (.ptr r 13) := by kernel_rfl
theorem lpTnPStopRel {m : Mem} {r : Nat} {x : Tn} {g : Grow} (hv : m.var r = some (x.rowG g)) : evLoad Tryz.prog m 4 (.ptr r 13) = some (.v (.bool x.p.stop.Rel)) := load_cell (k := 1) hv (by kernel_rfl) (by kernel_rfl) rfl
theorem fpTnPPlateau {r : Nat} : evFieldAddr Tryz.prog 34 (.ptr r 0) 9 = some (.ptr r 14) := by kernel_rfl
theorem lpTnPPlateau {m : Mem} {r : Nat} {x : Tn} {g : Grow} (hv : m.var r = some (x.rowG g)) : evLoad Tryz.prog m 28 (.ptr r 14) = some (.agg x.p.plateau.row) := load_sub hv (k := 8) (by kernel_rfl) (by kernel_rfl) (Nat.le_of_ble_eq_true rfl) rfl
theorem fpTnPKeep {r : Nat} : evFieldAddr Tryz.prog 34 (.ptr r 0) 10 = some (.ptr r 22) := by kernel_rfl
theorem fpTnPKeepMax {r : Nat} : evFieldAddr Tryz.prog 30 (.ptr r 22) 2 = some (.ptr r 24) := by kernel_rfl
theorem lpTnPKeepMax {m : Mem} {r : Nat} {x : Tn} {g : Grow} (hv : m.var r = some (x.rowG g)) : evLoad Tryz.prog m 4 (.ptr r 24) = some (.v (.bool x.p.keep.Max)) := load_cell (k := 1) hv (by kernel_rfl) (by kernel_rfl) rfl
theorem fpTnPKeepCount {r : Nat} : evFieldAddr Tryz.prog 30 (.ptr r 22) 3 = some (.ptr r 25) := by kernel_rfl
theorem lpTnPKeepCount {m : Mem} {r : Nat} {x : Tn} {g : Grow} (hv : m.var r = some (x.rowG g)) : evLoad Tryz.prog m 3 (.ptr r 25) = some (iv x.p.keep.Count) := load_cell (k := 1) hv (by kernel_rfl) (by kernel_rfl) rfl
theorem fpTnPEma {r : Nat} : evFieldAddr Tryz.prog 34 (.ptr r 0) 11 = some (.ptr r 26) := by kernel_rfl
theorem fpTnPEmaOn {r : Nat} : evFieldAddr Tryz.prog 32 (.ptr r 26) 0 = some (.ptr r 26) := by kernel_rfl
theorem lpTnPEmaOn {m : Mem} {r : Nat} {x : Tn} {g : Grow} (hv : m.var r = some (x.rowG g)) : evLoad Tryz.prog m 4 (.ptr r 26) = some (.v (.bool x.p.ema.On)) := load_cell (k := 1) hv (by kernel_rfl) (by kernel_rfl) rfl
theorem fpTnPEmaDecay {r : Nat} : evFieldAddr Tryz.prog 32 (.ptr r 26) 1 = some (.ptr r 27) := by kernel_rfl
theorem lpTnPEmaDecay {m : Mem} {r : Nat} {x : Tn} {g : Grow} (hv : m.var r = some (x.rowG g)) : evLoad Tryz.prog m 3 (.ptr r 27) = some (iv x.p.ema.Decay) := load_cell (k := 1) hv (by kernel_rfl) (by kernel_rfl) rfl
theorem fpTnPStopAt {r : Nat} : evFieldAddr Tryz.prog 34 (.ptr r 0) 12 = some (.ptr r 28) := by kernel_rfl
theorem lpTnPStopAt {m : Mem} {r : Nat} {x : Tn} {g : Grow} (hv : m.var r = some (x.rowG g)) : evLoad Tryz.prog m 3 (.ptr r 28) = some (iv x.p.stopAt) := load_cell (k := 1) hv (by kernel_rfl) (by kernel_rfl) rfl
theorem fpTnPCutAt {r : Nat} : evFieldAddr Tryz.prog 34 (.ptr r 0) 13 = some (.ptr r 29) := by kernel_rfl
theorem lpTnPCutAt {m : Mem} {r : Nat} {x : Tn} {g : Grow} (hv : m.var r = some (x.rowG g)) : evLoad Tryz.prog m 3 (.ptr r 29) = some (iv x.p.cutAt) := load_cell (k := 1) hv (by kernel_rfl) (by kernel_rfl) rfl
theorem fpTnPKeepAt {r : Nat} : evFieldAddr Tryz.prog 34 (.ptr r 0) 14 = some (.ptr r 30) := by kernel_rfl
theorem lpTnPKeepAt {m : Mem} {r : Nat} {x : Tn} {g : Grow} (hv : m.var r = some (x.rowG g)) : evLoad Tryz.prog m 3 (.ptr r 30) = some (iv x.p.keepAt) := load_cell (k := 1) hv (by kernel_rfl) (by kernel_rfl) rfl
theorem fpTnPSwaFrom {r : Nat} : evFieldAddr Tryz.prog 34 (.ptr r 0) 15 = some (.ptr r 31) := by kernel_rfl
theorem lpTnPSwaFrom {m : Mem} {r : Nat} {x : Tn} {g : Grow} (hv : m.var r = some (x.rowG g)) : evLoad Tryz.prog m 3 (.ptr r 31) = some (iv x.p.swaFrom) := load_cell (k := 1) hv (by kernel_rfl) (by kernel_rfl) rfl
theorem fpTnPSwaEvery {r : Nat} : evFieldAddr Tryz.prog 34 (.ptr r 0) 16 = some (.ptr r 32) := by kernel_rfl
theorem lpTnPSwaEvery {m : Mem} {r : Nat} {x : Tn} {g : Grow} (hv : m.var r = some (x.rowG g)) : evLoad Tryz.prog m 3 (.ptr r 32) = some (iv x.p.swaEvery) := load_cell (k := 1) hv (by kernel_rfl) (by kernel_rfl) rfl
theorem fpTnS {r : Nat} : evFieldAddr Tryz.prog 137 (.ptr r 0) 1 = some (.ptr r 33) := by kernel_rfl
theorem lpTnS {m : Mem} {r : Nat} {x : Tn} {g : Grow} (hv : m.var r = some (x.rowG g)) : evLoad Tryz.prog m 46 (.ptr r 33) = some (.agg x.s.row) := load_sub hv (k := 15) (by kernel_rfl) (by kernel_rfl) (Nat.le_of_ble_eq_true rfl) rfl
theorem fpTnSStep {r : Nat} : evFieldAddr Tryz.prog 46 (.ptr r 33) 0 = some (.ptr r 33) := by kernel_rfl
theorem lpTnSStep {m : Mem} {r : Nat} {x : Tn} {g : Grow} (hv : m.var r = some (x.rowG g)) : evLoad Tryz.prog m 3 (.ptr r 33) = some (iv x.s.step) := load_cell (k := 1) hv (by kernel_rfl) (by kernel_rfl) rfl
theorem fpTnSStatus {r : Nat} : evFieldAddr Tryz.prog 46 (.ptr r 33) 1 = some (.ptr r 34) := by kernel_rfl
theorem lpTnSStatus {m : Mem} {r : Nat} {x : Tn} {g : Grow} (hv : m.var r = some (x.rowG g)) : evLoad Tryz.prog m 3 (.ptr r 34) = some (iv x.s.status) := load_cell (k := 1) hv (by kernel_rfl) (by kernel_rfl) rfl
theorem fpTnSEnded {r : Nat} : evFieldAddr Tryz.prog 46 (.ptr r 33) 2 = some (.ptr r 35) := by kernel_rfl
theorem fpTnSStop {r : Nat} : evFieldAddr Tryz.prog 46 (.ptr r 33) 3 = some (.ptr r 36) := by kernel_rfl
theorem lpTnSStop {m : Mem} {r : Nat} {x : Tn} {g : Grow} (hv : m.var r = some (x.rowG g)) : evLoad Tryz.prog m 38 (.ptr r 36) = some (.agg x.s.stop.row) := load_sub hv (k := 3) (by kernel_rfl) (by kernel_rfl) (Nat.le_of_ble_eq_true rfl) rfl
theorem fpTnSCut {r : Nat} : evFieldAddr Tryz.prog 46 (.ptr r 33) 4 = some (.ptr r 39) := by kernel_rfl
theorem lpTnSCut {m : Mem} {r : Nat} {x : Tn} {g : Grow} (hv : m.var r = some (x.rowG g)) : evLoad Tryz.prog m 40 (.ptr r 39) = some (.agg x.s.cut.row) := load_sub hv (k := 5) (by kernel_rfl) (by kernel_rfl) (Nat.le_of_ble_eq_true rfl) rfl
theorem fpTnSKept {r : Nat} : evFieldAddr Tryz.prog 46 (.ptr r 33) 5 = some (.ptr r 44) := by kernel_rfl
theorem lpTnSKept {m : Mem} {r : Nat} {x : Tn} {g : Grow} (hv : m.var r = some (x.rowG g)) : evLoad Tryz.prog m 41 (.ptr r 44) = some (.lst .no 2 (rowsKt x.s.kept)) := load_cell (k := 1) hv (by kernel_rfl) (by kernel_rfl) rfl
theorem fpTnSEma {r : Nat} : evFieldAddr Tryz.prog 46 (.ptr r 33) 6 = some (.ptr r 45) := by kernel_rfl
theorem lpTnSEma {m : Mem} {r : Nat} {x : Tn} {g : Grow} (hv : m.var r = some (x.rowG g)) : evLoad Tryz.prog m 42 (.ptr r 45) = some (.lst .no 1 (rowsI x.s.ema)) := load_cell (k := 1) hv (by kernel_rfl) (by kernel_rfl) rfl
theorem fpTnSSwa {r : Nat} : evFieldAddr Tryz.prog 46 (.ptr r 33) 7 = some (.ptr r 46) := by kernel_rfl
theorem lpTnSSwa {m : Mem} {r : Nat} {x : Tn} {g : Grow} (hv : m.var r = some (x.rowG g)) : evLoad Tryz.prog m 44 (.ptr r 46) = some (.agg x.s.swa.row) := load_sub hv (k := 2) (by kernel_rfl) (by kernel_rfl) (Nat.le_of_ble_eq_true rfl) rfl
theorem fpTnSSwaCount {r : Nat} : evFieldAddr Tryz.prog 44 (.ptr r 46) 0 = some (.ptr r 46) := by kernel_rfl
theorem lpTnSSwaCount {m : Mem} {r : Nat} {x : Tn} {g : Grow} (hv : m.var r = some (x.rowG g)) : evLoad Tryz.prog m 3 (.ptr r 46) = some (iv x.s.swa.count) := load_cell (k := 1) hv (by kernel_rfl) (by kernel_rfl) rfl
theorem fpTnX {r : Nat} : evFieldAddr Tryz.prog 137 (.ptr r 0) 2 = some (.ptr r 48) := by kernel_rfl
theorem lpTnX {m : Mem} {r : Nat} {x : Tn} {g : Grow} (hv : m.var r = some (x.rowG g)) : evLoad Tryz.prog m 82 (.ptr r 48) = some (.agg x.x.row) := load_sub hv (k := 2) (by kernel_rfl) (by kernel_rfl) (Nat.le_of_ble_eq_true rfl) rfl
theorem fpTnXReadings {r : Nat} : evFieldAddr Tryz.prog 82 (.ptr r 48) 0 = some (.ptr r 48) := by kernel_rfl
theorem fpTnXWeights {r : Nat} : evFieldAddr Tryz.prog 82 (.ptr r 48) 1 = some (.ptr r 49) := by kernel_rfl
theorem lpTnXWeights {m : Mem} {r : Nat} {x : Tn} {g : Grow} (hv : m.var r = some (x.rowG g)) : evLoad Tryz.prog m 42 (.ptr r 49) = some (.lst .no 1 (rowsI x.x.weights)) := load_cell (k := 1) hv (by kernel_rfl) (by kernel_rfl) rfl
theorem fpTnStep {r : Nat} : evFieldAddr Tryz.prog 137 (.ptr r 0) 3 = some (.ptr r 50) := by kernel_rfl
theorem lpTnStep {m : Mem} {r : Nat} {x : Tn} {g : Grow} (hv : m.var r = some (x.rowG g)) : evLoad Tryz.prog m 3 (.ptr r 50) = some (iv x.step) := load_cell (k := 1) hv (by kernel_rfl) (by kernel_rfl) rfl
theorem fpTnPhase {r : Nat} : evFieldAddr Tryz.prog 137 (.ptr r 0) 4 = some (.ptr r 51) := by kernel_rfl
theorem lpTnPhase {m : Mem} {r : Nat} {x : Tn} {g : Grow} (hv : m.var r = some (x.rowG g)) : evLoad Tryz.prog m 3 (.ptr r 51) = some (iv x.phase) := load_cell (k := 1) hv (by kernel_rfl) (by kernel_rfl) rfl
theorem fpTnEvents {r : Nat} : evFieldAddr Tryz.prog 137 (.ptr r 0) 5 = some (.ptr r 52) := by kernel_rfl
theorem lpTnEvents {m : Mem} {r : Nat} {x : Tn} {g : Grow} (hv : m.var r = some (x.rowG g)) : evLoad Tryz.prog m 63 (.ptr r 52) = some (.lst g 3 (rowsEvt x.events)) := load_cell (k := 1) hv (by kernel_rfl) (by kernel_rfl) rfl
/-! ### run.Runner -/
structure Rn where
 is : Bool
 p : Pn
 s : Ss
def Rn.row (x : Rn) : List AV := [.v (.bool x.is), iv x.p.steps, iv x.p.weights, iv x.p.metrics, iv x.p.groups, iv x.p.eval, .lst .no 2 (rowsSp x.p.spans), .lst .no 1 (rowsBs x.p.frozen), .lst .no 3 (rowsTk x.p.tracks), .v (.bool x.p.stop.On), .v (.string x.p.stop.Metric), .v (.bool x.p.stop.Max), iv x.p.stop.Patience, iv x.p.stop.Delta, .v (.bool x.p.stop.Rel), .v (.bool x.p.plateau.On), .v (.string x.p.plateau.Metric), .v (.bool x.p.plateau.Max), iv x.p.plateau.Factor, iv x.p.plateau.Patience, iv x.p.plateau.Cooldown, iv x.p.plateau.Floor, iv x.p.plateau.Delta, .v (.bool x.p.keep.On), .v (.string x.p.keep.Metric), .v (.bool x.p.keep.Max), iv x.p.keep.Count, .v (.bool x.p.ema.On), iv x.p.ema.Decay, iv x.p.stopAt, iv x.p.cutAt, iv x.p.keepAt, iv x.p.swaFrom, iv x.p.swaEvery, iv x.s.step, iv x.s.status, iv x.s.ended, .v (.bool x.s.stop.has), iv x.s.stop.best, iv x.s.stop.bad, .v (.bool x.s.cut.watch.has), iv x.s.cut.watch.best, iv x.s.cut.watch.bad, iv x.s.cut.rest, iv x.s.cut.scale, .lst .no 2 (rowsKt x.s.kept), .lst .no 1 (rowsI x.s.ema), iv x.s.swa.count, .lst .no 1 (rowsI x.s.swa.sums)]
theorem cellsRn {x : Rn} : cellsOf (.agg x.row) = some x.row := rfl
theorem fpRnIs {r : Nat} : evFieldAddr Tryz.prog 106 (.ptr r 0) 0 = some (.ptr r 0) := by kernel_rfl
theorem fpRnP {r : Nat} : evFieldAddr Tryz.prog 106 (.ptr r 0) 1 = some (.ptr r 1) := by kernel_rfl
theorem lpRnP {m : Mem} {r : Nat} {x : Rn} (hv : m.var r = some x.row) : evLoad Tryz.prog m 34 (.ptr r 1) = some (.agg x.p.row) := load_sub hv (k := 33) (by kernel_rfl) (by kernel_rfl) (Nat.le_of_ble_eq_true rfl) rfl
theorem fpRnS {r : Nat} : evFieldAddr Tryz.prog 106 (.ptr r 0) 2 = some (.ptr r 34) := by kernel_rfl
theorem lpRnS {m : Mem} {r : Nat} {x : Rn} (hv : m.var r = some x.row) : evLoad Tryz.prog m 46 (.ptr r 34) = some (.agg x.s.row) := load_sub hv (k := 15) (by kernel_rfl) (by kernel_rfl) (Nat.le_of_ble_eq_true rfl) rfl
theorem fpRnSStatus {r : Nat} : evFieldAddr Tryz.prog 46 (.ptr r 34) 1 = some (.ptr r 35) := by kernel_rfl
theorem lpRnSStatus {m : Mem} {r : Nat} {x : Rn} (hv : m.var r = some x.row) : evLoad Tryz.prog m 3 (.ptr r 35) = some (iv x.s.status) := load_cell (k := 1) hv (by kernel_rfl) (by kernel_rfl) rfl
end
section
attribute [local irreducible] Next Inside Runs Ops table
/-! ### a turn's row -/
def unTn (row : List AV) : Option (Tn × Grow) :=
 match unPn (row.take 33), unSs ((row.drop 33).take 15), unIn ((row.drop 48).take 2), row.drop 50 with
 | some p, some s, some x, [.v (.int .i64 a), .v (.int .i64 b), .lst g 3 evs] =>
  match unsEvt evs with
  | some l => some (⟨p, s, x, a, b, l⟩, g)
  | none => none
 | _, _, _, _ => none
theorem tn_p (T : Tn) (g : Grow) : (T.rowG g).take 33 = T.p.row := rfl
theorem tn_s (T : Tn) (g : Grow) : ((T.rowG g).drop 33).take 15 = T.s.row := rfl
theorem tn_x (T : Tn) (g : Grow) : ((T.rowG g).drop 48).take 2 = T.x.row := rfl
theorem tn_r (T : Tn) (g : Grow) : (T.rowG g).drop 50 = [.v (.int .i64 T.step), .v (.int .i64 T.phase), .lst g 3 (rowsEvt T.events)] := rfl
theorem unTn_row (T : Tn) (g : Grow) : unTn (T.rowG g) = some (T, g) := by
 unfold unTn
 rw [tn_p, tn_s, tn_x, tn_r, unPn_row, unSs_row, unIn_row]
 simp only [unsEvt_rowsEvt]
theorem tn_parts (row : List AV) : row = row.take 33 ++ ((row.drop 33).take 15 ++ ((row.drop 48).take 2 ++ row.drop 50)) := by
 have e1 : row.drop 50 = (row.drop 48).drop 2 := by rw [List.drop_drop]
 have e2 : row.drop 48 = (row.drop 33).drop 15 := by rw [List.drop_drop]
 rw [e1, List.take_append_drop, e2, List.take_append_drop, List.take_append_drop]
theorem unTn_some {row : List AV} {T : Tn} {g : Grow} (h : unTn row = some (T, g)) : row = T.rowG g := by
 unfold unTn at h
 split at h
 ·rename_i p s x a b g' evs h1 h2 h3 h4
  split at h
  ·rename_i l h5
   cases h
   rw [tn_parts row, unPn_some h1, unSs_some h2, unIn_some h3, h4, unsEvt_some h5]
   rfl
  ·cases h
 ·cases h
theorem tn_inj {T T' : Tn} {g g' : Grow} (h : T.rowG g = T'.rowG g') : T = T' ∧ g = g' := by
 have := unTn_row T g
 rw [h, unTn_row] at this
 cases this
 exact ⟨rfl, rfl⟩
/-! ### how the events grow -/
def growN : Nat → Grow → List Nat → Grow × List Nat
 | 0, g, ts => (g, ts)
 | k + 1, .full, ts => (.tok ts.length k, ts ++ [k])
 | k + 1, .tok id v, ts => (.tok id (v + (k + 1)), ts.set id (v + (k + 1)))
 | _ + 1, g, ts => (g, ts)
def okG (g : Grow) (ts : List Nat) : Prop :=
 match g with
 | .full => True
 | .tok id v => ts[id]? = some v
 | _ => False
instance (g : Grow) (ts : List Nat) : Decidable (okG g ts) := by unfold okG; cases g <;> exact inferInstance
theorem growN_ok {g : Grow} {ts : List Nat} (h : okG g ts) : ∀ n, okG (growN n g ts).1 (growN n g ts).2
 | 0 => h
 | n + 1 => by
  cases g with
  | no => exact h.elim
  | here => exact h.elim
  | full => show (ts ++ [n])[ts.length]? = some n; simp
  | tok id v =>
   show (ts.set id (v + (n + 1)))[id]? = some (v + (n + 1))
   have := (List.getElem?_eq_some_iff.1 h).1
   simp [this]
theorem growN_add {g : Grow} {ts : List Nat} (h : okG g ts) : ∀ a b, growN b (growN a g ts).1 (growN a g ts).2 = growN (a + b) g ts
 | 0, b => by rw [Nat.zero_add]; rfl
 | a + 1, 0 => rfl
 | a + 1, b + 1 => by
  cases g with
  | no => exact h.elim
  | here => exact h.elim
  | full =>
   show (Grow.tok ts.length (a + (b + 1)), (ts ++ [a]).set ts.length (a + (b + 1))) = (Grow.tok ts.length (a + 1 + b), ts ++ [a + 1 + b])
   rw [show a + (b + 1) = a + 1 + b by omega, List.set_append_right _ _ (Nat.le_refl _), Nat.sub_self]
   rfl
  | tok id v =>
   show (Grow.tok id (v + (a + 1) + (b + 1)), (ts.set id (v + (a + 1))).set id (v + (a + 1) + (b + 1))) = (Grow.tok id (v + (a + 1 + b + 1)), ts.set id (v + (a + 1 + b + 1)))
   rw [List.set_set, show v + (a + 1) + (b + 1) = v + (a + 1 + b + 1) by omega]
theorem app_growN {P : Program} {t t2 : TypeId} {k : Nat} (ha : appB P t t2 k = true) {m : Mem} {g g2 : Grow} {xs ys : List (List AV)} (h : okG g m.toks) (hl : xs.length + ys.length ≤ lim) :
  evAppend P t t2 m (.lst g k xs) (.lst g2 k ys) = some (.lst (growN 1 g m.toks).1 k (xs ++ ys), { m with toks := (growN 1 g m.toks).2 }) := by
 rw [app_of ha asList_lst asList_lst hl]
 cases g with
 | no => exact h.elim
 | here => exact h.elim
 | full => rfl
 | tok id v =>
  have h' : m.toks[id]? = some v := h
  simp only [h', if_true]
  rfl
/-! ### the memory with another turn -/
def putT (m : Mem) (r : Nat) (T : Tn) (n : Nat) (g : Grow) : Mem := { vars := m.vars.set r (some (T.rowG (growN n g m.toks).1)), toks := (growN n g m.toks).2 }
theorem putT_var {m : Mem} {r n : Nat} {T : Tn} {g : Grow} {cs : List AV} (h : m.var r = some cs) : (putT m r T n g).var r = some (T.rowG (growN n g m.toks).1) := var_of (by show (m.vars.set r _)[r]? = _; rw [List.getElem?_set_self (var_lt h).1])
theorem putT_other {m : Mem} {r q n : Nat} {T : Tn} {g : Grow} (hq : q ≠ r) : (putT m r T n g).var q = m.var q := by
 unfold Mem.var putT
 rw [List.getElem?_set_ne (fun h => hq h.symm)]
theorem putT_len {m : Mem} {r n : Nat} {T : Tn} {g : Grow} : (putT m r T n g).vars.length = m.vars.length := by simp [putT]
theorem putT_put {m : Mem} {r a b : Nat} {T T2 : Tn} {g : Grow} (h : okG g m.toks) : putT (putT m r T a g) r T2 b (growN a g m.toks).1 = putT m r T2 (a + b) g := by
 unfold putT
 simp only [List.set_set, growN_add h a b]
theorem putT_above {m m' : Mem} {r n : Nat} {T : Tn} {g : Grow} (hA : Above m m') (hr : r < m.vars.length) : Above (putT m r T n g) (putT m' r T n g) := by
 obtain ⟨L, rfl⟩ := hA
 refine ⟨L, ?_⟩
 unfold putT
 simp only [List.set_append_left _ _ hr]
theorem putT_same {m : Mem} {r : Nat} {T : Tn} {g : Grow} (h : m.var r = some (T.rowG g)) : putT m r T 0 g = m := by
 obtain ⟨hlt, hx⟩ := var_lt h
 unfold putT
 show ({ vars := m.vars.set r (some (T.rowG g)), toks := m.toks } : Mem) = m
 have : m.vars.set r (some (T.rowG g)) = m.vars := by
  apply List.ext_getElem?
  intro j
  by_cases hj : r = j
  ·subst hj
   rw [List.getElem?_set_self hlt, hx]
  ·rw [List.getElem?_set_ne hj]
 rw [this]
theorem fin_putT {m m' : Mem} {r : Nat} {cs cs' : List AV} {ts : List Nat} (h : m.var r = some cs) (hne : cs ≠ cs' ∨ ts = m.toks) (hA : Above { vars := m.vars.set r (some cs'), toks := ts } m') : finMem m m' = { vars := m.vars.set r (some cs'), toks := ts } := by
 obtain ⟨L, rfl⟩ := hA
 obtain ⟨hlt, hx⟩ := var_lt h
 unfold finMem
 have e : (m.vars.set r (some cs') ++ L).take m.vars.length = m.vars.set r (some cs') := by
  rw [List.take_append_of_le_length (by simp), List.take_of_length_le (by simp)]
 by_cases hs : m.vars.set r (some cs') = m.vars
 ·rw [if_pos (e.trans hs)]
  have hcs : cs = cs' := by
   have : (m.vars.set r (some cs'))[r]? = m.vars[r]? := by rw [hs]
   rw [List.getElem?_set_self hlt, hx] at this
   cases this
   rfl
  rcases hne with hne | rfl
  ·exact absurd hcs hne
  ·rw [List.take_of_length_le (Nat.le_refl _), hs]
 ·rw [if_neg (by rw [e]; exact hs)]
  simp only [e]
/-! ### a turn on its way: what it was at first, what it is -/
structure TAt (m0 : Mem) (r : Nat) (T0 : Tn) (g0 : Grow) (T : Tn) (g : Grow) (m : Mem) : Prop where
 hv0 : m0.var r = some (T0.rowG g0)
 hg0 : okG g0 m0.toks
 hv : m.var r = some (T.rowG g)
 hg : okG g m.toks
 ev : ∃ l, T.events = T0.events ++ l
 ab : Above (putT m0 r T (T.events.length - T0.events.length) g0) m
variable {m0 : Mem} {r : Nat} {T0 T : Tn} {g0 g : Grow} {m : Mem}
theorem TAt.start (hv : m0.var r = some (T0.rowG g0)) (hg : okG g0 m0.toks) : TAt m0 r T0 g0 T0 g0 m0 :=
 ⟨hv, hg, hv, hg, ⟨[], by simp⟩, by rw [Nat.sub_self, putT_same hv]; exact above_self _⟩
theorem TAt.push {cs : List AV} (h : TAt m0 r T0 g0 T g m) : TAt m0 r T0 g0 T g (m.push cs) :=
 ⟨h.hv0, h.hg0, push_old h.hv, h.hg, h.ev, above_push h.ab⟩
theorem TAt.lt (h : TAt m0 r T0 g0 T g m) : r < m0.vars.length := (var_lt h.hv0).1
theorem TAt.len (h : TAt m0 r T0 g0 T g m) : m0.vars.length ≤ m.vars.length := by
 have := above_len h.ab
 rwa [putT_len] at this
/-- Another turn is put, with so many more events. -/
theorem TAt.put {T2 : Tn} {l : List Evt} {n : Nat} (h : TAt m0 r T0 g0 T g m) (h2 : T2.events = T.events ++ l) (hn : n = l.length) : TAt m0 r T0 g0 T2 (growN n g m.toks).1 (putT m r T2 n g) := by
 obtain ⟨hv0, hg0, hv, hg, ⟨l0, he⟩, L, rfl⟩ := h
 subst hn
 have hl : T.events.length - T0.events.length = l0.length := by rw [he, List.length_append]; omega
 have hl2 : T2.events.length - T0.events.length = l0.length + l.length := by rw [h2, he, List.length_append, List.length_append]; omega
 rw [hl] at hv hg ⊢
 have hlt := (var_lt hv0).1
 have hgr : (growN l0.length g0 m0.toks).1 = g := by
  have e1 : ({ vars := (putT m0 r T l0.length g0).vars ++ L, toks := (putT m0 r T l0.length g0).toks } : Mem).var r = some (T.rowG (growN l0.length g0 m0.toks).1) := by
   apply var_of
   show ((putT m0 r T l0.length g0).vars ++ L)[r]? = _
   rw [List.getElem?_append_left (by rw [putT_len]; exact hlt)]
   show (m0.vars.set r _)[r]? = _
   rw [List.getElem?_set_self hlt]
  rw [e1] at hv
  exact (tn_inj (Option.some.inj hv)).2
 refine ⟨hv0, hg0, putT_var hv, growN_ok hg _, ⟨l0 ++ l, by rw [h2, he, List.append_assoc]⟩, ?_⟩
 rw [hl2, ← putT_put hg0, hgr]
 exact putT_above ⟨L, rfl⟩ (by rw [putT_len]; exact hlt)
theorem TAt.set {T2 : Tn} (h : TAt m0 r T0 g0 T g m) (h2 : T2.events = T.events) : TAt m0 r T0 g0 T2 g (setv m r (T2.rowG g)) := by
 have := TAt.put (l := []) (n := 0) h (T2 := T2) (by rw [h2]; simp) rfl
 exact this
theorem TAt.other {q : Nat} {cs cs' : List AV} (h : TAt m0 r T0 g0 T g m) (hq : m0.vars.length ≤ q) (hm : m.var q = some cs) : TAt m0 r T0 g0 T g (setv m q cs') :=
 ⟨h.hv0, h.hg0, setv_other h.hv (by have := h.lt; omega), h.hg, h.ev, above_setv h.ab (by rw [putT_len]; exact hq)⟩
theorem TAt.fin (h : TAt m0 r T0 g0 T g m) : finMem m0 m = putT m0 r T (T.events.length - T0.events.length) g0 := by
 obtain ⟨hv0, hg0, hv, hg, ⟨l0, he⟩, hA⟩ := h
 refine fin_putT hv0 ?_ hA
 by_cases hz : l0 = []
 ·right
  have : T.events.length - T0.events.length = 0 := by rw [he, hz]; simp
  rw [this]
  rfl
 ·left
  intro e
  obtain ⟨rfl, _⟩ := tn_inj e
  have : T0.events.length = T0.events.length + l0.length := by
   conv => lhs; rw [he]
   rw [List.length_append]
  exact hz (List.length_eq_zero_iff.1 (by omega))
/-! ### contracts of methods -/
open Classical in
noncomputable def turnM (r : Nat) (m : Mem) (dom : Tn → Prop) (f : Tn → Tn) (res : Tn → AV) : Option (AV × Mem) :=
 match (m.var r).bind unTn with
 | some (T, g) => if okG g m.toks ∧ dom T then some (res T, putT m r (f T) ((f T).events.length - T.events.length) g) else none
 | none => none
theorem turnM_eq {dom : Tn → Prop} {f : Tn → Tn} {res : Tn → AV} (h : TAt m0 r T0 g0 T g m) (hd : dom T) : turnM r m dom f res = some (res T, putT m r (f T) ((f T).events.length - T.events.length) g) := by
 unfold turnM
 rw [h.hv, Option.bind_some, unTn_row]
 exact if_pos ⟨h.hg, hd⟩
theorem turnM_some {dom : Tn → Prop} {f : Tn → Tn} {res : Tn → AV} {y : AV × Mem} (h : turnM r m dom f res = some y) : ∃ T g, TAt m r T g T g m ∧ dom T ∧ y = (res T, putT m r (f T) ((f T).events.length - T.events.length) g) := by
 unfold turnM at h
 split at h
 ·rename_i T g hb
  rw [Option.bind_eq_some_iff] at hb
  obtain ⟨row, hv, hu⟩ := hb
  rw [unTn_some hu] at hv
  split at h
  ·rename_i hd
   exact ⟨T, g, TAt.start hv hd.1, hd.2, (Option.some.inj h).symm⟩
  ·cases h
 ·cases h
open Classical in
noncomputable def turnR (r : Nat) (m : Mem) (dom : Tn → Prop) (res : Tn → AV) : Option (AV × Mem) :=
 match (m.var r).bind unTn with
 | some (T, _) => if dom T then some (res T, m) else none
 | none => none
theorem turnR_eq {dom : Tn → Prop} {res : Tn → AV} (h : m.var r = some (T.rowG g)) (hd : dom T) : turnR r m dom res = some (res T, m) := by
 unfold turnR
 rw [h, Option.bind_some, unTn_row]
 exact if_pos hd
theorem turnR_some {dom : Tn → Prop} {res : Tn → AV} {y : AV × Mem} (h : turnR r m dom res = some y) : ∃ T g, m.var r = some (T.rowG g) ∧ dom T ∧ y = (res T, m) := by
 unfold turnR at h
 split at h
 ·rename_i T g hb
  rw [Option.bind_eq_some_iff] at hb
  obtain ⟨row, hv, hu⟩ := hb
  rw [unTn_some hu] at hv
  split at h
  ·rename_i hd
   exact ⟨T, g, hv, hd, (Option.some.inj h).symm⟩
  ·cases h
 ·cases h
theorem leaves_turn {P : Program} {fn : Func} {f : Tn → Tn} {e : Env} {m' : Mem} (h : fn.results = #[]) (hT : TAt m0 r T0 g0 (f T0) g m') :
  Leaves P false fn m0 (.tup [], putT m0 r (f T0) ((f T0).events.length - T0.events.length) g0) .ret e m' := by
 show evRet P false fn m0 e m' = _
 unfold evRet
 rw [h]
 simp [hT.fin]
theorem leaves_turnN {P : Program} {fn : Func} {f : Tn → Tn} {e : Env} {m' : Mem} (h : fn.results = #[]) (hT : TAt m0 r T0 g0 (f T0) g m') :
  Leaves P false fn m0 (.tup [], putT m0 r (f T0) ((f T0).events.length - T0.events.length) g0) .normal e m' := leaves_turn (P := P) (e := e) h hT
theorem leaves_turnB {P : Program} {fn : Func} {f : Tn → Tn} {e : Env} {m' : Mem} {t : Tmp} {x : Value} (h : fn.results = #[.tmp t]) (hx : Ev.get e t = .v x) (hT : TAt m0 r T0 g0 (f T0) g m') :
  Leaves P false fn m0 (.v x, putT m0 r (f T0) ((f T0).events.length - T0.events.length) g0) .ret e m' := by
 show evRet P false fn m0 e m' = _
 unfold evRet
 rw [h]
 simp [evResult, hx, growRes, resAV, resCell, hT.fin]
end
noncomputable section
attribute [local irreducible] Next Inside Runs Ops table
attribute [local go_sem] szStr szInt Option.getD_some isNil evMinMax evFoldI iv fpTnP fpTnS fpTnX fpTnStep fpTnPhase fpTnEvents fpTnPFrozen fpTnPSwaFrom fpTnPSwaEvery fpTnSStatus fpTnSEnded List.cons_append rowsBs_len rowsBo_len ldBs ldBool
def Tn.tell (T : Tn) (kind item : Int) : Tn := { T with events := T.events ++ [⟨T.step, kind, item⟩] }
theorem mkEvt3 {a b c : Int} : evBuild Tryz.prog 98 [(0, .v (.int .i64 a)), (1, .v (.int .i64 b)), (2, .v (.int .i64 c))] = some (.agg (Evt.mk a b c).row) := by kernel_rfl
attribute [local go_sem] mkEvt3
theorem szEvts : tSize Tryz.prog 63 = some 1 := by kernel_rfl
theorem stEvents {m : Mem} {r : Nat} {T : Tn} {g g' : Grow} {ts : List Nat} {evs : List Evt} (hv : m.var r = some (T.rowG g)) :
  evStore Tryz.prog { m with toks := ts } 63 (.ptr r 52) (.lst g' 3 (rowsEvt evs)) = some { vars := m.vars.set r (some (({ T with events := evs } : Tn).rowG g')), toks := ts } :=
 store_part (m := { m with toks := ts }) (old := T.rowG g) hv szEvts rfl rfl (Nat.le_of_ble_eq_true rfl) rfl rfl
def evLim : Nat := 1000000
def tellG : List AV → Mem → Option (AV × Mem)
 | [.ptr r 0, .v (.int .i64 k), .v (.int .i64 i)], m => turnM r m (fun T => T.events.length < evLim) (fun T => T.tell k i) fun _ => .tup []
 | _, _ => none
theorem tell_len (T : Tn) (k i : Int) : (T.tell k i).events.length - T.events.length = 1 := by unfold Tn.tell; simp
theorem tell_eq {m0 m : Mem} {r : Nat} {T0 T : Tn} {g0 g : Grow} (h : TAt m0 r T0 g0 T g m) (hd : T.events.length < evLim) (k i : Int) : tellG [.ptr r 0, .v (.int .i64 k), .v (.int .i64 i)] m = some (.tup [], putT m r (T.tell k i) 1 g) := by
 have := turnM_eq (dom := fun T => T.events.length < evLim) (f := fun T => T.tell k i) (res := fun _ => .tup []) h hd
 rw [tell_len] at this
 exact this
theorem TAt.tell {m0 m : Mem} {r : Nat} {T0 T : Tn} {g0 g : Grow} (h : TAt m0 r T0 g0 T g m) (k i : Int) : TAt m0 r T0 g0 (T.tell k i) (growN 1 g m.toks).1 (putT m r (T.tell k i) 1 g) := h.put (l := [⟨T.step, k, i⟩]) rfl rfl
def kpTell : Nat → Option (List Nat) := fun
 | 0 => some []
 | _ => none
attribute [go_sem] kpTell
theorem tell_ok : FunOk Tryz.prog 102 tellG := by
 have hC := table_ok (P := Tryz.prog) (l := []) table_nil
 refine fun_ok mixed hC Tryz.func102 rfl kpTell false rfl fun args m r h => ?_
 unfold tellG at h
 split at h
 ·rename_i r0 kd it
  obtain ⟨T, g, hT, hd, rfl⟩ := turnM_some h
  refine ⟨Nat.le_of_ble_eq_true rfl, ?_⟩
  refine en ?_
  have l1 := lpTnEvents hT.hv
  have l2 := lpTnStep hT.hv
  have mk := mk1Evt (x := Evt.mk T.step kd it)
  have ap := app_growN (P := Tryz.prog) (t := 63) (t2 := 63) (k := 3) appEvt (g2 := .full) (xs := rowsEvt T.events) (ys := rowsEvt [⟨T.step, kd, it⟩]) hT.hg (by rw [rowsEvt_len, rowsEvt_len]; unfold lim; unfold evLim at hd; simp; omega)
  rw [rowsEvt_app] at ap
  have st := stEvents (g' := (growN 1 g m.toks).1) (ts := (growN 1 g m.toks).2) (evs := T.events ++ [⟨T.step, kd, it⟩]) hT.hv
  refine runs_ops_drawn_tight (kp := kpTell) (by kernel_rfl) (by kernel_rfl) ?_
  refine go1 (jn @l1 (jn @l2 (jn @mk (jn @ap @st)))) ?_
  exact leaves_turnN (f := fun T => T.tell kd it) rfl (hT.tell kd it)
 ·cases h
/-! ### end -/
def Tn.stat (T : Tn) (st : Int) : Tn := { T with s := { T.s with status := st, ended := T.step } }
def endG : List AV → Mem → Option (AV × Mem)
 | [.ptr r 0, .v (.int .i64 st)], m => turnM r m (fun _ => True) (fun T => T.stat st) fun _ => .tup []
 | _, _ => none
theorem end_eq {m0 m : Mem} {r : Nat} {T0 T : Tn} {g0 g : Grow} (h : TAt m0 r T0 g0 T g m) (st : Int) : endG [.ptr r 0, .v (.int .i64 st)] m = some (.tup [], putT m r (T.stat st) 0 g) := by
 have := turnM_eq (dom := fun _ => True) (f := fun T => T.stat st) (res := fun _ => .tup []) h trivial
 rw [show (T.stat st).events.length - T.events.length = 0 from Nat.sub_self _] at this
 exact this
theorem TAt.stat {m0 m : Mem} {r : Nat} {T0 T : Tn} {g0 g : Grow} (h : TAt m0 r T0 g0 T g m) (st : Int) : TAt m0 r T0 g0 (T.stat st) g (putT m r (T.stat st) 0 g) := h.put (l := []) (n := 0) (by show T.events = _; simp) rfl
def kpEnd : Nat → Option (List Nat) := fun
 | 0 => some []
 | _ => none
attribute [go_sem] kpEnd
theorem end_ok : FunOk Tryz.prog 100 endG := by
 have hC := table_ok (P := Tryz.prog) (l := []) table_nil
 refine fun_ok mixed hC Tryz.func100 rfl kpEnd false rfl fun args m r h => ?_
 unfold endG at h
 split at h
 ·rename_i r0 st
  obtain ⟨T, g, hT, hd, rfl⟩ := turnM_some h
  refine ⟨Nat.le_of_ble_eq_true rfl, ?_⟩
  refine en ?_
  have l2 := lpTnStep hT.hv
  have st1 : evStore Tryz.prog m 3 (.ptr r0 34) (.v (.int .i64 st)) = some (setv m r0 (({ T with s := { T.s with status := st } } : Tn).rowG g)) := store_part hT.hv szInt rfl rfl (Nat.le_of_ble_eq_true rfl) rfl rfl
  have v2 : (setv m r0 (({ T with s := { T.s with status := st } } : Tn).rowG g)).var r0 = some (({ T with s := { T.s with status := st } } : Tn).rowG g) := setv_var hT.hv
  have st2 : evStore Tryz.prog (setv m r0 (({ T with s := { T.s with status := st } } : Tn).rowG g)) 3 (.ptr r0 35) (.v (.int .i64 T.step)) = some (setv (setv m r0 (({ T with s := { T.s with status := st } } : Tn).rowG g)) r0 ((T.stat st).rowG g)) := store_part v2 szInt rfl rfl (Nat.le_of_ble_eq_true rfl) rfl rfl
  rw [setv_setv] at st2
  refine go1 (jn @l2 (jn @st1 @st2)) ?_
  exact leaves_turnN (f := fun T => T.stat st) rfl (hT.stat st)
 ·cases h
/-! ### was -/
def frz (p : Pn) (ph j : Nat) : Bool := (p.frozen.getD ph []).getD j false
def wasV (T : Tn) (j : Int) : Bool := decide (T.phase > 0) && frz T.p (T.phase - 1).toNat j.toNat
def wasDom (T : Tn) (j : Int) : Prop := T.phase ≤ 1000000 ∧ (T.phase > 0 → T.phase - 1 < T.p.frozen.length ∧ 0 ≤ j ∧ j < (T.p.frozen.getD (T.phase - 1).toNat []).length)
def wasG : List AV → Mem → Option (AV × Mem)
 | [.ptr r 0, .v (.int .i64 j)], m => turnR r m (fun T => wasDom T j) fun T => .v (.bool (wasV T j))
 | _, _ => none
theorem was_eq {m : Mem} {r : Nat} {T : Tn} {g : Grow} {j : Int} (h : m.var r = some (T.rowG g)) (hd : wasDom T j) : wasG [.ptr r 0, .v (.int .i64 j)] m = some (.v (.bool (wasV T j)), m) := turnR_eq h hd
def kpWas : Nat → Option (List Nat) := fun
 | 0 => some [0, 1]
 | 1 => some [4]
 | _ => none
attribute [go_sem] kpWas
theorem was_ok : FunOk Tryz.prog 115 wasG := by
 have hC := table_ok (P := Tryz.prog) (l := []) table_nil
 refine fun_ok mixed hC Tryz.func115 rfl kpWas false rfl fun args m r h => ?_
 unfold wasG at h
 split at h
 ·rename_i r0 j
  obtain ⟨T, g, hv, ⟨hp, hd⟩, rfl⟩ := turnR_some h
  refine ⟨Nat.le_of_ble_eq_true rfl, ?_⟩
  refine en ?_
  have l1 := lpTnPhase hv
  have l2 := lpTnPFrozen hv
  unfold wasV
  by_cases h0 : T.phase > 0
  ·obtain ⟨h1, h2, h3⟩ := hd h0
   have k0 : decide (T.phase > 0) = true := decide_eq_true h0
   have hpn : 0 ≤ T.phase - 1 := by omega
   obtain ⟨q, hq⟩ := Int.eq_ofNat_of_zero_le hpn
   obtain ⟨i, rfl⟩ := Int.eq_ofNat_of_zero_le h2
   have w1 : IntKind.i64.wrap (T.phase - 1) = ((q : Nat) : Int) := by rw [wrap_i64 (by omega) (by omega)]; exact hq
   rw [hq] at h1 h3
   rw [k0, hq]
   rw [Int.toNat_natCast] at h3
   rw [Int.toNat_natCast, Int.toNat_natCast]
   have f1 := atBs (g := .no) (kk := .i64) (show q < T.p.frozen.length by omega)
   have f2 := atBools (g := .no) (kk := .i64) (show i < (T.p.frozen.getD q []).length by omega)
   refine runs_seq ?_
   refine go0 ?_
   refine runs_ops_drawn_tight (kp := kpWas) (by kernel_rfl) (by kernel_rfl) ?_
   refine go1 (jn @l1 (jn @l2 (jn @k0 (jn @w1 (jn @f1 @f2))))) ?_
   exact leaves_v rfl rfl
  ·have k0 : decide (T.phase > 0) = false := decide_eq_false h0
   rw [k0]
   refine runs_seq ?_
   refine go0 ?_
   refine runs_ops_drawn_tight (kp := kpWas) (by kernel_rfl) (by kernel_rfl) ?_
   refine go1 (jn @l1 @k0) ?_
   exact leaves_v rfl rfl
 ·cases h
/-! ### summed -/
def summedB (T : Tn) : Bool := decide (T.p.swaEvery > 0) && decide (T.step ≥ T.p.swaFrom) && ((IntKind.i64.wrap (T.step - T.p.swaFrom)).tmod T.p.swaEvery == 0)
def summedG : List AV → Mem → Option (AV × Mem)
 | [.ptr r 0], m => turnR r m (fun _ => True) fun T => .v (.bool (summedB T))
 | _, _ => none
theorem summed_eq {m : Mem} {r : Nat} {T : Tn} {g : Grow} (h : m.var r = some (T.rowG g)) : summedG [.ptr r 0] m = some (.v (.bool (summedB T)), m) := turnR_eq h trivial
def kpSummed : Nat → Option (List Nat) := fun
 | 0 => some [0]
 | 1 => some [2]
 | _ => none
attribute [go_sem] kpSummed
theorem summed_ok : FunOk Tryz.prog 116 summedG := by
 have hC := table_ok (P := Tryz.prog) (l := []) table_nil
 refine fun_ok mixed hC Tryz.func116 rfl kpSummed false rfl fun args m r h => ?_
 unfold summedG at h
 split at h
 ·rename_i r0
  obtain ⟨T, g, hv, hd, rfl⟩ := turnR_some h
  refine ⟨Nat.le_of_ble_eq_true rfl, ?_⟩
  refine en ?_
  have l1 := lpTnPSwaEvery hv
  have l2 := lpTnStep hv
  have l3 := lpTnPSwaFrom hv
  unfold summedB
  refine runs_seq ?_
  refine go0 ?_
  refine runs_ops_drawn_tight (kp := kpSummed) (by kernel_rfl) (by kernel_rfl) ?_
  cases h1 : decide (T.p.swaEvery > 0) with
  | false =>
   refine go1 (jn @l1 @h1) ?_
   exact leaves_v rfl rfl
  | true =>
   have hz : (T.p.swaEvery = 0) = False := eq_false (by have := of_decide_eq_true h1; omega)
   cases h2 : decide (T.step ≥ T.p.swaFrom) with
   | false =>
    refine go1 (jn @l1 (jn @l2 (jn @l3 (jn @h1 @h2)))) ?_
    exact leaves_v rfl rfl
   | true =>
    refine go1 (jn @l1 (jn @l2 (jn @l3 (jn @h1 (jn @h2 @hz))))) ?_
    exact leaves_v rfl rfl
 ·cases h
end
section
attribute [local irreducible] Next Inside Runs Ops table
/-- Results, one by one. -/
inductive ResAll (P : Program) (e : Env) (m' : Mem) (n : Nat) : List ResultVar → List AV → Prop
 | nil : ResAll P e m' n [] []
 | cons {r : ResultVar} {rs : List ResultVar} {x0 x : AV} {xs : List AV} (h1 : evResult P e m' r = some x0) (h2 : resAV n m' x0 = some x) (t : ResAll P e m' n rs xs) : ResAll P e m' n (r :: rs) (x :: xs)
theorem resAll_maps {P : Program} {e : Env} {m' : Mem} {n : Nat} {rs : List ResultVar} {xs : List AV} (h : ResAll P e m' n rs xs) : ∃ vs, rs.mapM (evResult P e m') = some vs ∧ vs.mapM (resAV n m') = some xs := by
 induction h with
 | nil => exact ⟨[], rfl, rfl⟩
 | @cons r rs x0 x xs h1 h2 t ih =>
  obtain ⟨vs, a, b⟩ := ih
  exact ⟨x0 :: vs, by simp [h1, a], by simp [h2, b]⟩
theorem leaves_all {P : Program} {fn : Func} {m : Mem} {e : Env} {m' m2 : Mem} {rs : List ResultVar} {xs : List AV} (h : fn.results.toList = rs) (hn : 2 ≤ rs.length) (hr : ResAll P e m' m.vars.length rs xs) (hm : finMem m m' = m2) : Leaves P false fn m (.tup xs, m2) .ret e m' := by
 obtain ⟨vs, a, b⟩ := resAll_maps hr
 show evRet P false fn m e m' = _
 unfold evRet
 rw [h]
 match rs, hn with
 | r1 :: r2 :: rs, _ =>
  simp only [a, Option.bind_some, b, Option.map_some, hm]
theorem leaves_cell1 {P : Program} {fn : Func} {m m' m2 : Mem} {e : Env} {a : Tmp} {t : TypeId} {x0 x : AV} (h : fn.results = #[.cell a t]) (hl : evLoad P m' t (Ev.get e a) = some x0) (hx : resAV m.vars.length m' x0 = some x) (hm : finMem m m' = m2) : Leaves P false fn m (x, m2) .ret e m' := by
 show evRet P false fn m e m' = _
 unfold evRet
 rw [h]
 simp only [evResult, hl, Option.bind_some, growRes, hx, Option.map_some, hm]
/-! ### words of 64 bits -/
abbrev W64 : Int := 18446744073709551616
theorem w64 {n : Int} (h0 : 0 ≤ n) (h1 : n < 18446744073709551616) : IntKind.u64.wrap n = n := wrap_of _ _ (by simpa [IntKind.min, IntKind.signed] using h0) (by simp [IntKind.max, IntKind.signed, IntKind.bits]; omega)
theorem wrap64 (n : Int) : IntKind.u64.wrap n = n % 18446744073709551616 := by
 unfold IntKind.wrap
 simp [IntKind.signed, IntKind.bits]
theorem lt32 : ((32 : Int) < 0) = False := by decide
theorem shr32 (x : Int) : x.fdiv (2 ^ min (Int.toNat 32) 64) = x / 4294967296 := by
 show x.fdiv 4294967296 = _
 exact Int.fdiv_eq_ediv_of_nonneg _ (by decide)
theorem shl32 (x : Int) (h : 0 ≤ x) : IntKind.u64.wrap (x * 2 ^ min (Int.toNat 32) 64) = x % 4294967296 * 4294967296 := by
 show IntKind.u64.wrap (x * 4294967296) = _
 rw [wrap64]
 omega
theorem and32 (x : Int) (h : 0 ≤ x) (h2 : x < 18446744073709551616) : IntKind.u64.wrap (BitVec.ofInt 64 x &&& BitVec.ofInt 64 4294967295).toNat = x % 4294967296 := by
 obtain ⟨n, rfl⟩ := Int.eq_ofNat_of_zero_le h
 have e1 : (BitVec.ofInt 64 (n : Int)).toNat = n := by
  rw [BitVec.toNat_ofInt]; omega
 have e2 : (BitVec.ofInt 64 4294967295).toNat = 2^32 - 1 := by decide
 have e3 : (BitVec.ofInt 64 (n : Int) &&& BitVec.ofInt 64 4294967295).toNat = n % 2 ^ 32 := by rw [BitVec.toNat_and, e1, e2, Nat.and_two_pow_sub_one_eq_mod]
 show IntKind.u64.wrap ((BitVec.ofInt 64 (n : Int) &&& BitVec.ofInt 64 4294967295).toNat : Int) = _
 rw [e3, w64 (by omega) (by omega)]
 omega
theorem or32 (x y : Int) (h : 0 ≤ x) (h2 : x < 4294967296) (h3 : 0 ≤ y) (h4 : y < 4294967296) : IntKind.u64.wrap (BitVec.ofInt 64 (x * 4294967296) ||| BitVec.ofInt 64 y).toNat = x * 4294967296 + y := by
 obtain ⟨n, rfl⟩ := Int.eq_ofNat_of_zero_le h
 obtain ⟨k, rfl⟩ := Int.eq_ofNat_of_zero_le h3
 have e1 : (BitVec.ofInt 64 ((n : Int) * 4294967296)).toNat = n <<< 32 := by
  rw [BitVec.toNat_ofInt, Nat.shiftLeft_eq]; omega
 have e2 : (BitVec.ofInt 64 (k : Int)).toNat = k := by
  rw [BitVec.toNat_ofInt]; omega
 have e3 : (BitVec.ofInt 64 ((n : Int) * 4294967296) ||| BitVec.ofInt 64 (k : Int)).toNat = n * 2 ^ 32 + k := by
  rw [BitVec.toNat_or, e1, e2, ← Nat.shiftLeft_add_eq_or_of_lt (by omega), Nat.shiftLeft_eq]
 show IntKind.u64.wrap ((BitVec.ofInt 64 ((n : Int) * 4294967296) ||| BitVec.ofInt 64 (k : Int)).toNat : Int) = _
 rw [e3, w64 (by omega) (by omega)]
 omega
theorem or_0 (y : Int) (h3 : 0 ≤ y) (h4 : y < 18446744073709551616) : IntKind.u64.wrap (BitVec.ofInt 64 0 ||| BitVec.ofInt 64 y).toNat = y := by
 obtain ⟨k, rfl⟩ := Int.eq_ofNat_of_zero_le h3
 have e2 : (BitVec.ofInt 64 (k : Int)).toNat = k := by
  rw [BitVec.toNat_ofInt]; omega
 show IntKind.u64.wrap ((BitVec.ofInt 64 (0 : Int) ||| BitVec.ofInt 64 (k : Int)).toNat : Int) = _
 rw [BitVec.toNat_or, e2, show (BitVec.ofInt 64 (0 : Int)).toNat = 0 from rfl, Nat.zero_or, w64 (by omega) (by omega)]
theorem or0_ (y : Int) (h3 : 0 ≤ y) (h4 : y < 18446744073709551616) : IntKind.u64.wrap (BitVec.ofInt 64 y ||| BitVec.ofInt 64 0).toNat = y := by
 rw [BitVec.or_comm]
 exact or_0 y h3 h4
theorem evAnd32 (x : Int) (h : 0 ≤ x) (h2 : x < 18446744073709551616) : evInt .and .u64 x .u64 4294967295 = some (.v (.int .u64 (x % 4294967296))) := by
 have := and32 x h h2
 unfold evInt
 simp only [if_true]
 exact congrArg (fun z => some (AV.v (Value.int .u64 z))) this
theorem evOr32 (x y : Int) (h : 0 ≤ x) (h2 : x < 4294967296) (h3 : 0 ≤ y) (h4 : y < 4294967296) : evInt .or .u64 (x * 4294967296) .u64 y = some (.v (.int .u64 (x * 4294967296 + y))) := by
 have := or32 x y h h2 h3 h4
 unfold evInt
 simp only [if_true]
 exact congrArg (fun z => some (AV.v (Value.int .u64 z))) this
theorem evOr_0 (y : Int) (h3 : 0 ≤ y) (h4 : y < 18446744073709551616) : evInt .or .u64 0 .u64 y = some (.v (.int .u64 y)) := by
 have := or_0 y h3 h4
 unfold evInt
 simp only [if_true]
 exact congrArg (fun z => some (AV.v (Value.int .u64 z))) this
theorem evOr0_ (y : Int) (h3 : 0 ≤ y) (h4 : y < 18446744073709551616) : evInt .or .u64 y .u64 0 = some (.v (.int .u64 y)) := by
 have := or0_ y h3 h4
 unfold evInt
 simp only [if_true]
 exact congrArg (fun z => some (AV.v (Value.int .u64 z))) this
def uv (x : Int) : AV := .v (.int .u64 x)
/-! ### api.Pair -/
theorem mkP {a b : AV} {x y : Int} (ha : a = .v (.int .u64 x)) (hb : b = .v (.int .u64 y)) : evBuild Tryz.prog 126 [(0, a), (1, b)] = some (.agg [.v (.int .u64 x), .v (.int .u64 y)]) := by
 subst ha hb
 kernel_rfl
theorem mkP' {x y : Int} : evBuild Tryz.prog 126 [(0, .v (.int .u64 x)), (1, .v (.int .u64 y))] = some (.agg [.v (.int .u64 x), .v (.int .u64 y)]) := mkP rfl rfl
theorem szP : tSize Tryz.prog 126 = some 2 := by kernel_rfl
theorem agP : tAgg Tryz.prog 126 = some true := by kernel_rfl
theorem ixP0 {r : Nat} : evIndexAddr Tryz.prog 126 (.ptr r 0) (.v (.int .i64 0)) = some (.ptr r 0) := by kernel_rfl
theorem ixP1 {r : Nat} : evIndexAddr Tryz.prog 126 (.ptr r 0) (.v (.int .i64 1)) = some (.ptr r 1) := by kernel_rfl
def zeroP : List AV := [.v (.int .u64 0), .v (.int .u64 0)]
theorem zrP : zeroCells Tryz.prog 126 = some zeroP := by kernel_rfl
theorem zoP : zeroP.all okCell = true := rfl
theorem znP {m : Mem} : newVar m m.vars.length zeroP = some (m.push zeroP) := newVar_push rfl
theorem newP {m : Mem} {x y : Int} : newVar m m.vars.length [.v (.int .u64 x), .v (.int .u64 y)] = some (m.push [.v (.int .u64 x), .v (.int .u64 y)]) := newVar_push rfl
theorem cellsP {x y : Int} : cellsOf (.agg [.v (.int .u64 x), .v (.int .u64 y)]) = some [.v (.int .u64 x), .v (.int .u64 y)] := rfl
theorem vrP {m : Mem} {r : Nat} {x y : Int} (hv : m.var r = some [.v (.int .u64 x), .v (.int .u64 y)]) : evLoad Tryz.prog m 126 (.ptr r 0) = some (.agg [.v (.int .u64 x), .v (.int .u64 y)]) := load_sub (off := 0) hv szP agP (Nat.le_of_ble_eq_true rfl) rfl
theorem lpP0 {m : Mem} {r : Nat} {x y : Int} (hv : m.var r = some [.v (.int .u64 x), .v (.int .u64 y)]) : evLoad Tryz.prog m 124 (.ptr r 0) = some (.v (.int .u64 x)) := load_cell (k := 1) hv (by kernel_rfl) (by kernel_rfl) rfl
theorem lpP1 {m : Mem} {r : Nat} {x y : Int} (hv : m.var r = some [.v (.int .u64 x), .v (.int .u64 y)]) : evLoad Tryz.prog m 124 (.ptr r 1) = some (.v (.int .u64 y)) := load_cell (k := 1) hv (by kernel_rfl) (by kernel_rfl) rfl
theorem stP {m : Mem} {r : Nat} {x y x0 y0 : Int} (hv : m.var r = some [.v (.int .u64 x0), .v (.int .u64 y0)]) : evStore Tryz.prog m 126 (.ptr r 0) (.agg [.v (.int .u64 x), .v (.int .u64 y)]) = some (setv m r [.v (.int .u64 x), .v (.int .u64 y)]) := store_part hv szP cellsP rfl (Nat.le_refl _) rfl rfl
theorem niP : noIface Tryz.prog 8 126 = true := by kernel_rfl
theorem eqP {x y x2 y2 : Int} : eqTy Tryz.prog 8 126 (.agg [.v (.int .u64 x), .v (.int .u64 y)]) (.agg [.v (.int .u64 x2), .v (.int .u64 y2)]) = some ((x == x2) && ((y == y2) && true)) := by kernel_rfl
/-! ### pair.Mul -/
attribute [local go_sem] szStr szInt Option.getD_some isNil evMinMax evFoldI mkP' ixP0 ixP1 zrP zoP znP newP cellsP niP eqP
def pmulG : List AV → Mem → Option (AV × Mem)
 | [.v (.int .u64 x), .v (.int .u64 y)], m => if 0 ≤ x ∧ x < 18446744073709551616 ∧ 0 ≤ y ∧ y < 18446744073709551616 then some (.agg [uv (x * y / 18446744073709551616), uv (x * y % 18446744073709551616)], m) else none
 | _, _ => none
theorem split32 {x : Int} (h : 0 ≤ x) (h2 : x < 18446744073709551616) : ∃ a b, x = a * 4294967296 + b ∧ 0 ≤ a ∧ a ≤ 4294967295 ∧ 0 ≤ b ∧ b ≤ 4294967295 := ⟨x / 4294967296, x % 4294967296, by omega, by omega, by omega, by omega, by omega⟩
theorem mul_le {a b : Int} (h0 : 0 ≤ a) (h1 : a ≤ 4294967295) (h2 : 0 ≤ b) (h3 : b ≤ 4294967295) : 0 ≤ a * b ∧ a * b ≤ 18446744065119617025 := ⟨Int.mul_nonneg h0 h2, by
 have := Int.mul_le_mul h1 h3 h2 (by decide)
 exact this⟩
def kpPmul : Nat → Option (List Nat) := fun
 | 0 => some [0, 1, 4]
 | 1 => some [4, 5, 6, 7, 8]
 | 2 => some [4, 5, 6, 7, 8, 9]
 | 3 => some [4]
 | _ => none
attribute [go_sem] kpPmul
theorem pmul_ok : FunOk Tryz.prog 130 pmulG := by
 have hC := table_ok (P := Tryz.prog) (l := []) table_nil
 refine fun_ok mixed hC Tryz.func130 rfl kpPmul false rfl fun args m r h => ?_
 unfold pmulG at h
 split at h
 ·rename_i x y
  split at h
  ·rename_i hyp
   obtain ⟨x0, x1, y0, y1⟩ := hyp
   simp only [Option.some.injEq] at h
   subst h
   refine ⟨Nat.le_of_ble_eq_true rfl, ?_⟩
   refine en ?_
   obtain ⟨a, b, rfl, a0, a1, b0, b1⟩ := split32 x0 x1
   obtain ⟨c, d, rfl, c0, c1, d0, d1⟩ := split32 y0 y1
   have s1 : (a * 4294967296 + b).fdiv (2 ^ min (Int.toNat 32) 64) = a := by rw [shr32]; omega
   have s2 : (c * 4294967296 + d).fdiv (2 ^ min (Int.toNat 32) 64) = c := by rw [shr32]; omega
   have m1 : evInt .and .u64 (a * 4294967296 + b) .u64 4294967295 = some (.v (.int .u64 b)) := by rw [evAnd32 _ x0 x1, show (a * 4294967296 + b) % 4294967296 = b by omega]
   have m2 : evInt .and .u64 (c * 4294967296 + d) .u64 4294967295 = some (.v (.int .u64 d)) := by rw [evAnd32 _ y0 y1, show (c * 4294967296 + d) % 4294967296 = d by omega]
   have hP : (a * 4294967296 + b) * (c * 4294967296 + d) = a * c * 18446744073709551616 + (a * d + b * c) * 4294967296 + b * d := by grind
   obtain ⟨p0, p1⟩ := mul_le a0 a1 c0 c1
   obtain ⟨q0, q1⟩ := mul_le a0 a1 d0 d1
   obtain ⟨r0, r1⟩ := mul_le b0 b1 c0 c1
   obtain ⟨t0, t1⟩ := mul_le b0 b1 d0 d1
   rw [hP]
   have w1 : IntKind.u64.wrap (b * d) = b * d := w64 t0 (by omega)
   have w2 : IntKind.u64.wrap (a * d) = a * d := w64 q0 (by omega)
   have w3 : IntKind.u64.wrap (b * c) = b * c := w64 r0 (by omega)
   have w4 : IntKind.u64.wrap (a * c) = a * c := w64 p0 (by omega)
   have u1 : (b * d).fdiv (2 ^ min (Int.toNat 32) 64) = (b * d) / 4294967296 := shr32 (b * d)
   have u2 := evAnd32 (a * d) q0 (by omega)
   have u3 := evAnd32 (b * c) r0 (by omega)
   have u4 := evAnd32 (b * d) t0 (by omega)
   have u5 : (a * d).fdiv (2 ^ min (Int.toNat 32) 64) = (a * d) / 4294967296 := shr32 (a * d)
   have u6 : (b * c).fdiv (2 ^ min (Int.toNat 32) 64) = (b * c) / 4294967296 := shr32 (b * c)
   have v1 : IntKind.u64.wrap ((b * d) / 4294967296 + (a * d) % 4294967296) = (b * d) / 4294967296 + (a * d) % 4294967296 := w64 (by omega) (by omega)
   have v2 : IntKind.u64.wrap ((b * d) / 4294967296 + (a * d) % 4294967296 + (b * c) % 4294967296) = (b * d) / 4294967296 + (a * d) % 4294967296 + (b * c) % 4294967296 := w64 (by omega) (by omega)
   have v3 : IntKind.u64.wrap ((a * c) + (a * d) / 4294967296) = (a * c) + (a * d) / 4294967296 := w64 (by omega) (by omega)
   have v4 : IntKind.u64.wrap ((a * c) + (a * d) / 4294967296 + (b * c) / 4294967296) = (a * c) + (a * d) / 4294967296 + (b * c) / 4294967296 := w64 (by omega) (by omega)
   have v5 := shr32 ((b * d) / 4294967296 + (a * d) % 4294967296 + (b * c) % 4294967296)
   have v6 : IntKind.u64.wrap ((a * c) + (a * d) / 4294967296 + (b * c) / 4294967296 + ((b * d) / 4294967296 + (a * d) % 4294967296 + (b * c) % 4294967296) / 4294967296) = (a * c) + (a * d) / 4294967296 + (b * c) / 4294967296 + ((b * d) / 4294967296 + (a * d) % 4294967296 + (b * c) % 4294967296) / 4294967296 := w64 (by omega) (by omega)
   have v7 := shl32 ((b * d) / 4294967296 + (a * d) % 4294967296 + (b * c) % 4294967296) (by omega)
   have v8 := evOr32 (((b * d) / 4294967296 + (a * d) % 4294967296 + (b * c) % 4294967296) % 4294967296) ((b * d) % 4294967296) (by omega) (by omega) (by omega) (by omega)
   simp only [go_sem, reduceIte, Nat.reduceEqDiff, reduceCtorEq, Int.reduceEq] at m1 m2 u2 u3 u4 v8
   have st := fun (x y : Int) => stP (m := m.push zeroP) (r := m.vars.length) (x := x) (y := y) push_var
   have sp := fun (x y : Int) => setv_push (m := m) (cs := zeroP) (cs' := [.v (.int .u64 x), .v (.int .u64 y)])
   have E1 : (a * c * 18446744073709551616 + (a * d + b * c) * 4294967296 + b * d) / 18446744073709551616 = a * c + a * d / 4294967296 + b * c / 4294967296 + (b * d / 4294967296 + a * d % 4294967296 + b * c % 4294967296) / 4294967296 := by omega
   have E2 : (a * c * 18446744073709551616 + (a * d + b * c) * 4294967296 + b * d) % 18446744073709551616 = (b * d / 4294967296 + a * d % 4294967296 + b * c % 4294967296) % 4294967296 * 4294967296 + b * d % 4294967296 := by omega
   rw [E1, E2]
   refine go1 (jn @lt32 (jn @s1 (jn @s2 (jn @m1 (jn @m2 (jn @w1 (jn @w2 (jn @w3 (jn @w4 (jn @u1 (jn @u2 (jn @u3 (jn @u4 (jn @u5 (jn @u6 (jn @v1 (jn @v2 (jn @v3 (jn @v4 (jn @v5 (jn @v6 (jn @v7 (jn @v8 (jn @st @sp)))))))))))))))))))))))) ?_
   exact leaves_cell1 rfl (vrP push_var) rfl fin_push
  ·cases h
 ·cases h
end
end Go.Proofs.YtmockbddhhmmeaaGreat.Ev
