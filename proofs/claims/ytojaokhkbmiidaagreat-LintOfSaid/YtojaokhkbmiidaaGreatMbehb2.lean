/- Words of struct types: Tp, Pt, Kp, Em, Sw. -/
import Derived.Test.YtojaokhkbmiidaaGreatMbehb1
namespace Go.Proofs.YtojaokhkbmiidaaGreat.Ev
open Go Go.Proofs
set_option maxRecDepth 10000
set_option maxHeartbeats 8000000
set_option linter.unusedVariables false
set_option linter.unusedSimpArgs false
section
attribute [local irreducible] Next Inside Runs Ops table
/-! ### api.Stop -/
structure Tp where
 On : Bool
 Metric : ByteArray
 Max : Bool
 Patience : Int
 Delta : Int
 Rel : Bool
def tp0 : Tp := ⟨false, ⟨#[]⟩, false, 0, 0, false⟩
def Tp.row (x : Tp) : List AV := [.v (.bool x.On), .v (.string x.Metric), .v (.bool x.Max), iv x.Patience, iv x.Delta, .v (.bool x.Rel)]
theorem szTp : tSize Tryz.prog 25 = some 6 := by kernel_rfl
theorem agTp : tAgg Tryz.prog 25 = some true := by kernel_rfl
theorem vrTp {m : Mem} {r : Nat} {x : Tp} (hv : m.var r = some x.row) : evLoad Tryz.prog m 25 (.ptr r 0) = some (.agg x.row) := by
 unfold evLoad
 simp only [ptrCells, hv, Option.map_some, szTp, agTp]
 rfl
def zeroTp : List AV := [.v (.bool false), .v (.string ⟨#[]⟩), .v (.bool false), .v (.int .i64 0), .v (.int .i64 0), .v (.bool false)]
theorem zrTp : zeroCells Tryz.prog 25 = some zeroTp := by kernel_rfl
theorem zoTp : zeroTp.all okCell = true := rfl
theorem znTp {m : Mem} : newVar m m.vars.length zeroTp = some (m.push zeroTp) := newVar_push rfl
theorem niTp : noIface Tryz.prog 8 25 = true := by kernel_rfl
theorem eqTp {x y : Tp} : eqTy Tryz.prog 8 25 (.agg x.row) (.agg y.row) = some ((x.On == y.On) && ((x.Metric == y.Metric) && ((x.Max == y.Max) && ((x.Patience == y.Patience) && ((x.Delta == y.Delta) && ((x.Rel == y.Rel) && true)))))) := by kernel_rfl
theorem mk0Tp : evBuild Tryz.prog 25 [] = some (.agg tp0.row) := by kernel_rfl
theorem fpTpOn {r : Nat} : evFieldAddr Tryz.prog 25 (.ptr r 0) 0 = some (.ptr r 0) := by kernel_rfl
theorem lpTpOn {m : Mem} {r : Nat} {x : Tp} (hv : m.var r = some x.row) : evLoad Tryz.prog m 4 (.ptr r 0) = some (.v (.bool x.On)) := by
 unfold evLoad
 simp only [ptrCells, hv, Option.map_some]
 rw [show tAgg Tryz.prog 4 = some false by kernel_rfl, show tSize Tryz.prog 4 = some 1 by kernel_rfl]
 rfl
theorem fpTpMetric {r : Nat} : evFieldAddr Tryz.prog 25 (.ptr r 0) 1 = some (.ptr r 1) := by kernel_rfl
theorem lpTpMetric {m : Mem} {r : Nat} {x : Tp} (hv : m.var r = some x.row) : evLoad Tryz.prog m 9 (.ptr r 1) = some (.v (.string x.Metric)) := by
 unfold evLoad
 simp only [ptrCells, hv, Option.map_some]
 rw [show tAgg Tryz.prog 9 = some false by kernel_rfl, show tSize Tryz.prog 9 = some 1 by kernel_rfl]
 rfl
theorem fpTpPatience {r : Nat} : evFieldAddr Tryz.prog 25 (.ptr r 0) 3 = some (.ptr r 3) := by kernel_rfl
theorem lpTpPatience {m : Mem} {r : Nat} {x : Tp} (hv : m.var r = some x.row) : evLoad Tryz.prog m 3 (.ptr r 3) = some (iv x.Patience) := by
 unfold evLoad
 simp only [ptrCells, hv, Option.map_some]
 rw [show tAgg Tryz.prog 3 = some false by kernel_rfl, show tSize Tryz.prog 3 = some 1 by kernel_rfl]
 rfl
theorem fpTpDelta {r : Nat} : evFieldAddr Tryz.prog 25 (.ptr r 0) 4 = some (.ptr r 4) := by kernel_rfl
theorem lpTpDelta {m : Mem} {r : Nat} {x : Tp} (hv : m.var r = some x.row) : evLoad Tryz.prog m 3 (.ptr r 4) = some (iv x.Delta) := by
 unfold evLoad
 simp only [ptrCells, hv, Option.map_some]
 rw [show tAgg Tryz.prog 3 = some false by kernel_rfl, show tSize Tryz.prog 3 = some 1 by kernel_rfl]
 rfl
/-! ### api.Plateau -/
structure Pt where
 On : Bool
 Metric : ByteArray
 Max : Bool
 Factor : Int
 Patience : Int
 Cooldown : Int
 Floor : Int
 Delta : Int
def pt0 : Pt := ⟨false, ⟨#[]⟩, false, 0, 0, 0, 0, 0⟩
def Pt.row (x : Pt) : List AV := [.v (.bool x.On), .v (.string x.Metric), .v (.bool x.Max), iv x.Factor, iv x.Patience, iv x.Cooldown, iv x.Floor, iv x.Delta]
theorem szPt : tSize Tryz.prog 27 = some 8 := by kernel_rfl
theorem agPt : tAgg Tryz.prog 27 = some true := by kernel_rfl
theorem vrPt {m : Mem} {r : Nat} {x : Pt} (hv : m.var r = some x.row) : evLoad Tryz.prog m 27 (.ptr r 0) = some (.agg x.row) := by
 unfold evLoad
 simp only [ptrCells, hv, Option.map_some, szPt, agPt]
 rfl
def zeroPt : List AV := [.v (.bool false), .v (.string ⟨#[]⟩), .v (.bool false), .v (.int .i64 0), .v (.int .i64 0), .v (.int .i64 0), .v (.int .i64 0), .v (.int .i64 0)]
theorem zrPt : zeroCells Tryz.prog 27 = some zeroPt := by kernel_rfl
theorem zoPt : zeroPt.all okCell = true := rfl
theorem znPt {m : Mem} : newVar m m.vars.length zeroPt = some (m.push zeroPt) := newVar_push rfl
theorem niPt : noIface Tryz.prog 8 27 = true := by kernel_rfl
theorem eqPt {x y : Pt} : eqTy Tryz.prog 8 27 (.agg x.row) (.agg y.row) = some ((x.On == y.On) && ((x.Metric == y.Metric) && ((x.Max == y.Max) && ((x.Factor == y.Factor) && ((x.Patience == y.Patience) && ((x.Cooldown == y.Cooldown) && ((x.Floor == y.Floor) && ((x.Delta == y.Delta) && true)))))))) := by kernel_rfl
theorem mk0Pt : evBuild Tryz.prog 27 [] = some (.agg pt0.row) := by kernel_rfl
theorem fpPtOn {r : Nat} : evFieldAddr Tryz.prog 27 (.ptr r 0) 0 = some (.ptr r 0) := by kernel_rfl
theorem lpPtOn {m : Mem} {r : Nat} {x : Pt} (hv : m.var r = some x.row) : evLoad Tryz.prog m 4 (.ptr r 0) = some (.v (.bool x.On)) := by
 unfold evLoad
 simp only [ptrCells, hv, Option.map_some]
 rw [show tAgg Tryz.prog 4 = some false by kernel_rfl, show tSize Tryz.prog 4 = some 1 by kernel_rfl]
 rfl
theorem fpPtMetric {r : Nat} : evFieldAddr Tryz.prog 27 (.ptr r 0) 1 = some (.ptr r 1) := by kernel_rfl
theorem lpPtMetric {m : Mem} {r : Nat} {x : Pt} (hv : m.var r = some x.row) : evLoad Tryz.prog m 9 (.ptr r 1) = some (.v (.string x.Metric)) := by
 unfold evLoad
 simp only [ptrCells, hv, Option.map_some]
 rw [show tAgg Tryz.prog 9 = some false by kernel_rfl, show tSize Tryz.prog 9 = some 1 by kernel_rfl]
 rfl
theorem fpPtFactor {r : Nat} : evFieldAddr Tryz.prog 27 (.ptr r 0) 3 = some (.ptr r 3) := by kernel_rfl
theorem lpPtFactor {m : Mem} {r : Nat} {x : Pt} (hv : m.var r = some x.row) : evLoad Tryz.prog m 3 (.ptr r 3) = some (iv x.Factor) := by
 unfold evLoad
 simp only [ptrCells, hv, Option.map_some]
 rw [show tAgg Tryz.prog 3 = some false by kernel_rfl, show tSize Tryz.prog 3 = some 1 by kernel_rfl]
 rfl
theorem fpPtPatience {r : Nat} : evFieldAddr Tryz.prog 27 (.ptr r 0) 4 = some (.ptr r 4) := by kernel_rfl
theorem lpPtPatience {m : Mem} {r : Nat} {x : Pt} (hv : m.var r = some x.row) : evLoad Tryz.prog m 3 (.ptr r 4) = some (iv x.Patience) := by
 unfold evLoad
 simp only [ptrCells, hv, Option.map_some]
 rw [show tAgg Tryz.prog 3 = some false by kernel_rfl, show tSize Tryz.prog 3 = some 1 by kernel_rfl]
 rfl
theorem fpPtCooldown {r : Nat} : evFieldAddr Tryz.prog 27 (.ptr r 0) 5 = some (.ptr r 5) := by kernel_rfl
theorem lpPtCooldown {m : Mem} {r : Nat} {x : Pt} (hv : m.var r = some x.row) : evLoad Tryz.prog m 3 (.ptr r 5) = some (iv x.Cooldown) := by
 unfold evLoad
 simp only [ptrCells, hv, Option.map_some]
 rw [show tAgg Tryz.prog 3 = some false by kernel_rfl, show tSize Tryz.prog 3 = some 1 by kernel_rfl]
 rfl
theorem fpPtFloor {r : Nat} : evFieldAddr Tryz.prog 27 (.ptr r 0) 6 = some (.ptr r 6) := by kernel_rfl
theorem lpPtFloor {m : Mem} {r : Nat} {x : Pt} (hv : m.var r = some x.row) : evLoad Tryz.prog m 3 (.ptr r 6) = some (iv x.Floor) := by
 unfold evLoad
 simp only [ptrCells, hv, Option.map_some]
 rw [show tAgg Tryz.prog 3 = some false by kernel_rfl, show tSize Tryz.prog 3 = some 1 by kernel_rfl]
 rfl
theorem fpPtDelta {r : Nat} : evFieldAddr Tryz.prog 27 (.ptr r 0) 7 = some (.ptr r 7) := by kernel_rfl
theorem lpPtDelta {m : Mem} {r : Nat} {x : Pt} (hv : m.var r = some x.row) : evLoad Tryz.prog m 3 (.ptr r 7) = some (iv x.Delta) := by
 unfold evLoad
 simp only [ptrCells, hv, Option.map_some]
 rw [show tAgg Tryz.prog 3 = some false by kernel_rfl, show tSize Tryz.prog 3 = some 1 by kernel_rfl]
 rfl
/-! ### api.Keep -/
structure Kp where
 On : Bool
 Metric : ByteArray
 Max : Bool
 Count : Int
def kp0 : Kp := ⟨false, ⟨#[]⟩, false, 0⟩
def Kp.row (x : Kp) : List AV := [.v (.bool x.On), .v (.string x.Metric), .v (.bool x.Max), iv x.Count]
theorem szKp : tSize Tryz.prog 29 = some 4 := by kernel_rfl
theorem agKp : tAgg Tryz.prog 29 = some true := by kernel_rfl
theorem vrKp {m : Mem} {r : Nat} {x : Kp} (hv : m.var r = some x.row) : evLoad Tryz.prog m 29 (.ptr r 0) = some (.agg x.row) := by
 unfold evLoad
 simp only [ptrCells, hv, Option.map_some, szKp, agKp]
 rfl
def zeroKp : List AV := [.v (.bool false), .v (.string ⟨#[]⟩), .v (.bool false), .v (.int .i64 0)]
theorem zrKp : zeroCells Tryz.prog 29 = some zeroKp := by kernel_rfl
theorem zoKp : zeroKp.all okCell = true := rfl
theorem znKp {m : Mem} : newVar m m.vars.length zeroKp = some (m.push zeroKp) := newVar_push rfl
theorem niKp : noIface Tryz.prog 8 29 = true := by kernel_rfl
theorem eqKp {x y : Kp} : eqTy Tryz.prog 8 29 (.agg x.row) (.agg y.row) = some ((x.On == y.On) && ((x.Metric == y.Metric) && ((x.Max == y.Max) && ((x.Count == y.Count) && true)))) := by kernel_rfl
theorem mk0Kp : evBuild Tryz.prog 29 [] = some (.agg kp0.row) := by kernel_rfl
theorem fpKpOn {r : Nat} : evFieldAddr Tryz.prog 29 (.ptr r 0) 0 = some (.ptr r 0) := by kernel_rfl
theorem lpKpOn {m : Mem} {r : Nat} {x : Kp} (hv : m.var r = some x.row) : evLoad Tryz.prog m 4 (.ptr r 0) = some (.v (.bool x.On)) := by
 unfold evLoad
 simp only [ptrCells, hv, Option.map_some]
 rw [show tAgg Tryz.prog 4 = some false by kernel_rfl, show tSize Tryz.prog 4 = some 1 by kernel_rfl]
 rfl
theorem fpKpMetric {r : Nat} : evFieldAddr Tryz.prog 29 (.ptr r 0) 1 = some (.ptr r 1) := by kernel_rfl
theorem lpKpMetric {m : Mem} {r : Nat} {x : Kp} (hv : m.var r = some x.row) : evLoad Tryz.prog m 9 (.ptr r 1) = some (.v (.string x.Metric)) := by
 unfold evLoad
 simp only [ptrCells, hv, Option.map_some]
 rw [show tAgg Tryz.prog 9 = some false by kernel_rfl, show tSize Tryz.prog 9 = some 1 by kernel_rfl]
 rfl
theorem fpKpCount {r : Nat} : evFieldAddr Tryz.prog 29 (.ptr r 0) 3 = some (.ptr r 3) := by kernel_rfl
theorem lpKpCount {m : Mem} {r : Nat} {x : Kp} (hv : m.var r = some x.row) : evLoad Tryz.prog m 3 (.ptr r 3) = some (iv x.Count) := by
 unfold evLoad
 simp only [ptrCells, hv, Option.map_some]
 rw [show tAgg Tryz.prog 3 = some false by kernel_rfl, show tSize Tryz.prog 3 = some 1 by kernel_rfl]
 rfl
/-! ### api.Ema -/
structure Em where
 On : Bool
 Decay : Int
def em0 : Em := ⟨false, 0⟩
def Em.row (x : Em) : List AV := [.v (.bool x.On), iv x.Decay]
theorem niEm : noIface Tryz.prog 8 31 = true := by kernel_rfl
theorem eqEm {x y : Em} : eqTy Tryz.prog 8 31 (.agg x.row) (.agg y.row) = some ((x.On == y.On) && ((x.Decay == y.Decay) && true)) := by kernel_rfl
theorem mk0Em : evBuild Tryz.prog 31 [] = some (.agg em0.row) := by kernel_rfl
/-! ### api.Swa -/
structure Sw where
 On : Bool
 FromU : Int
 FromN : Int
 Every : Int
def sw0 : Sw := ⟨false, 0, 0, 0⟩
def Sw.row (x : Sw) : List AV := [.v (.bool x.On), iv x.FromU, iv x.FromN, iv x.Every]
theorem niSw : noIface Tryz.prog 8 35 = true := by kernel_rfl
theorem eqSw {x y : Sw} : eqTy Tryz.prog 8 35 (.agg x.row) (.agg y.row) = some ((x.On == y.On) && (((x.FromU == y.FromU) && ((x.FromN == y.FromN) && true)) && ((x.Every == y.Every) && true))) := by kernel_rfl
theorem mk0Sw : evBuild Tryz.prog 35 [] = some (.agg sw0.row) := by kernel_rfl
end
section
theorem agInt : tAgg Tryz.prog 3 = some false := by simp only [tAgg, Tryz.underlying3]
def big40 : Nat := 1099511627776
def strCells (l : List ByteArray) : List AV := l.map fun (s : ByteArray) => .v (.string s)
theorem loadVarS {m : Mem} {cs : List AV} {off : Nat} : evLoad Tryz.prog (m.push cs) 9 (.ptr m.vars.length off) = (cs.drop off).head? := by
 unfold evLoad
 simp only [ptrCells, push_var, Option.map_some, szStr]
 rw [show tAgg Tryz.prog 9 = some false by simp only [tAgg, Tryz.underlying9]]
/-! ### the first one that .. -/
def firstBy {α : Type} (p : α → Bool) : List α → Nat → Int
 | [], _ => -1
 | s :: l, i => if p s then (i : Int) else firstBy p l (i + 1)
theorem firstBy_any {α : Type} (p : α → Bool) : ∀ (l : List α) (i : Nat), decide (0 ≤ firstBy p l i) = l.any p
 | [], i => by simp [firstBy]
 | s :: l, i => by
  rw [firstBy]
  cases h : p s with
  | true => simp [h]
  | false => simp only [Bool.false_eq_true, if_false, firstBy_any p l (i + 1), List.any_cons, h, Bool.false_or]
theorem by_no {α : Type} {d : α} {p : α → Bool} {l : List α} {i : Nat} (hi : i < l.length) (hp : p (l.getD i d) = false) (h : firstBy p (l.drop i) i = firstBy p l 0) : firstBy p (l.drop (i + 1)) (i + 1) = firstBy p l 0 := by
 rw [drop_next (d := d) hi, firstBy, hp, if_neg (by simp)] at h
 exact h
theorem by_yes {α : Type} {d : α} {p : α → Bool} {l : List α} {i : Nat} (hi : i < l.length) (hp : p (l.getD i d) = true) (h : firstBy p (l.drop i) i = firstBy p l 0) : firstBy p l 0 = (i : Int) := by
 rw [drop_next (d := d) hi, firstBy, hp, if_pos rfl] at h
 exact h.symm
theorem by_end {α : Type} {p : α → Bool} {l : List α} (h : firstBy p (l.drop l.length) l.length = firstBy p l 0) : firstBy p l 0 = -1 := by
 rw [List.drop_length] at h
 exact h.symm
/-- Variables of one's own, above. -/
def Above (m m' : Mem) : Prop := ∃ L, m' = { vars := m.vars ++ L, toks := m.toks }
theorem above_self (m : Mem) : Above m m := ⟨[], by simp⟩
theorem above_push {m m' : Mem} {cs : List AV} (h : Above m m') : Above m (m'.push cs) := by
 obtain ⟨L, rfl⟩ := h
 exact ⟨L ++ [some cs], by simp [Mem.push]⟩
theorem above_fin {m m' : Mem} (h : Above m m') : finMem m m' = m := by
 obtain ⟨L, rfl⟩ := h
 unfold finMem
 rw [if_pos (by simp)]
 simp
def yesG : List AV → Mem → Option (AV × Mem)
 | [], m => some (.v (.bool true), m)
 | _, _ => none
theorem yes_eq : ∀ mm, yesG [] mm = some (.v (.bool true), mm) := fun _ => rfl
end
section
theorem ops_case {P : Program} {call : CallF} {nt : Nat} {ops : Array Oper} {pu : Bool} {e : Env} {m : Mem} {K : Env → Mem → Prop} {o : Oper} {rest : List Oper} {j g : Nat} {want B : Bool} (hg : o.guard = some (j, want)) (hj : (ops[j]?).bind (·.dst) = some g) (hb : get e g = .v (.bool B))
  (ht : B = true → Ops P call nt ops pu (o :: rest) e m K) (hf : B = false → Ops P call nt ops pu (o :: rest) e m K) : Ops P call nt ops pu (o :: rest) e m K := by
 cases B with
 | true => exact ht rfl
 | false => exact hf rfl
theorem ops_here {P : Program} {call : CallF} {nt : Nat} {ops : Array Oper} {pu : Bool} {l : List Oper} {e : Env} {m : Mem} {K : Env → Mem → Prop} (h : Ops P call nt ops pu l e m K) : Ops P call nt ops pu l e m K := h
theorem runs_here {P : Program} {call : CallF} {nt : Nat} {kp : Nat → Option (List Nat)} {c : Code} {e : Env} {m : Mem} {Q : Ex → Env → Mem → Prop} (h : Runs P call nt kp c e m Q) : Runs P call nt kp c e m Q := h
attribute [local irreducible] Next Inside Runs Ops table
attribute [local go_sem] szStr szInt Option.getD_some isNil loadStr loadInt mkInts0 mkInts1 mkStrs0 mkStrs1 rowsS_len rowsI_len rowsN_len evStr fldOp ldOp evMinMax evFoldI
def upTo (c : Int) : List AV → Mem → Option (AV × Mem)
 | [.v (.int .i64 x)], m => some (.v (.bool (decide (0 ≤ x ∧ x ≤ c))), m)
 | _, _ => none
def kpQ : Nat → Option (List Nat) := fun _ => some [0, 2]
attribute [go_sem] kpQ
theorem refQ_ok : FunOk Tryz.prog 136 (upTo 4503599627370496) := by
 have hC := table_ok (P := Tryz.prog) (l := []) table_nil
 refine fun_ok mixed hC Tryz.func136 rfl kpQ false rfl fun args m r h => ?_
 unfold upTo at h
 split at h
 ·rename_i x
  simp only [Option.some.injEq] at h
  subst h
  refine ⟨Nat.le_of_ble_eq_true rfl, ?_⟩
  refine en ?_
  have fin : ∀ (e : Env) (b : Bool), Ev.get e 2 = .v (.bool b) → b = decide (0 ≤ x ∧ x ≤ 4503599627370496) → Leaves Tryz.prog false Tryz.f136 m (.v (.bool (decide (0 ≤ x ∧ x ≤ 4503599627370496))), m) .ret e m := fun e b h1 h2 => by rw [← h2]; exact leaves_v rfl h1
  repeat' (first | refine gos0 ?_ | (refine ops_here ?_; (fail_if_success (refine ops_case (B := true) rfl rfl rfl ?_ ?_)); (fail_if_success (refine ops_case (B := false) rfl rfl rfl ?_ ?_)); refine ops_case rfl rfl rfl (fun hB => ?_) (fun hB => ?_) <;> rw [hB]) | (refine runs_here ?_; refine runs_cond rfl (fun hc => ?_) (fun hc => ?_) <;> first | (cases hc; done) | skip))
  all_goals exact fin _ _ rfl (by rw [Bool.eq_iff_iff]; simp only [decide_eq_true_eq, decide_eq_false_iff_not, Bool.false_eq_true, false_iff, true_iff] at *; omega)
 ·cases h
theorem number_ok : FunOk Tryz.prog 158 (upTo 4503599627370496) := by
 have hC := table_ok (P := Tryz.prog) (l := []) table_nil
 refine fun_ok mixed hC Tryz.func158 rfl kpQ false rfl fun args m r h => ?_
 unfold upTo at h
 split at h
 ·rename_i x
  simp only [Option.some.injEq] at h
  subst h
  refine ⟨Nat.le_of_ble_eq_true rfl, ?_⟩
  refine en ?_
  have fin : ∀ (e : Env) (b : Bool), Ev.get e 2 = .v (.bool b) → b = decide (0 ≤ x ∧ x ≤ 4503599627370496) → Leaves Tryz.prog false Tryz.f158 m (.v (.bool (decide (0 ≤ x ∧ x ≤ 4503599627370496))), m) .ret e m := fun e b h1 h2 => by rw [← h2]; exact leaves_v rfl h1
  repeat' (first | refine gos0 ?_ | (refine ops_here ?_; (fail_if_success (refine ops_case (B := true) rfl rfl rfl ?_ ?_)); (fail_if_success (refine ops_case (B := false) rfl rfl rfl ?_ ?_)); refine ops_case rfl rfl rfl (fun hB => ?_) (fun hB => ?_) <;> rw [hB]) | (refine runs_here ?_; refine runs_cond rfl (fun hc => ?_) (fun hc => ?_) <;> first | (cases hc; done) | skip))
  all_goals exact fin _ _ rfl (by rw [Bool.eq_iff_iff]; simp only [decide_eq_true_eq, decide_eq_false_iff_not, Bool.false_eq_true, false_iff, true_iff] at *; omega)
 ·cases h
theorem count_ok : FunOk Tryz.prog 160 (upTo 1099511627776) := by
 have hC := table_ok (P := Tryz.prog) (l := []) table_nil
 refine fun_ok mixed hC Tryz.func160 rfl kpQ false rfl fun args m r h => ?_
 unfold upTo at h
 split at h
 ·rename_i x
  simp only [Option.some.injEq] at h
  subst h
  refine ⟨Nat.le_of_ble_eq_true rfl, ?_⟩
  refine en ?_
  have fin : ∀ (e : Env) (b : Bool), Ev.get e 2 = .v (.bool b) → b = decide (0 ≤ x ∧ x ≤ 1099511627776) → Leaves Tryz.prog false Tryz.f160 m (.v (.bool (decide (0 ≤ x ∧ x ≤ 1099511627776))), m) .ret e m := fun e b h1 h2 => by rw [← h2]; exact leaves_v rfl h1
  repeat' (first | refine gos0 ?_ | (refine ops_here ?_; (fail_if_success (refine ops_case (B := true) rfl rfl rfl ?_ ?_)); (fail_if_success (refine ops_case (B := false) rfl rfl rfl ?_ ?_)); refine ops_case rfl rfl rfl (fun hB => ?_) (fun hB => ?_) <;> rw [hB]) | (refine runs_here ?_; refine runs_cond rfl (fun hc => ?_) (fun hc => ?_) <;> first | (cases hc; done) | skip))
  all_goals exact fin _ _ rfl (by rw [Bool.eq_iff_iff]; simp only [decide_eq_true_eq, decide_eq_false_iff_not, Bool.false_eq_true, false_iff, true_iff] at *; omega)
 ·cases h
/-! ### lengths -/
def lenMay (u n : Int) : Prop := 0 ≤ n ∧ n ≤ 1099511627776 ∧ 0 ≤ u ∧ u ≤ 3 ∧ (u = 2 → n ≤ 100) ∧ (u = 3 → n = 0)
instance (u n : Int) : Decidable (lenMay u n) := by unfold lenMay; exact inferInstance
def lenMayG : List AV → Mem → Option (AV × Mem)
 | [.agg [.v (.int .i64 u), .v (.int .i64 n)]], m => some (.v (.bool (decide (lenMay u n))), m)
 | _, _ => none
theorem len0 {r : Nat} : evFieldAddr Tryz.prog 33 (.ptr r 0) 0 = some (.ptr r 0) := by kernel_rfl
theorem len1 {r : Nat} : evFieldAddr Tryz.prog 33 (.ptr r 0) 1 = some (.ptr r (0 + 1)) := by kernel_rfl
theorem loadOne {m : Mem} {cs : List AV} {off : Nat} : evLoad Tryz.prog (m.push cs) 3 (.ptr m.vars.length off) = (cs.drop off).head? := by
 unfold evLoad
 simp only [ptrCells, push_var, Option.map_some, szInt, agInt]
theorem loadLen {m : Mem} {u n : Int} : evLoad Tryz.prog (m.push [.v (.int .i64 u), .v (.int .i64 n)]) 33 (.ptr m.vars.length 0) = some (.agg [.v (.int .i64 u), .v (.int .i64 n)]) := by
 unfold evLoad
 simp only [ptrCells, push_var, Option.map_some]
 rw [show tAgg Tryz.prog 33 = some true by kernel_rfl, show tSize Tryz.prog 33 = some 2 by kernel_rfl]
 rfl
theorem cellsLen {u n : Int} : cellsOf (.agg [.v (.int .i64 u), .v (.int .i64 n)]) = some [.v (.int .i64 u), .v (.int .i64 n)] := rfl
theorem newLen {m : Mem} {u n : Int} : newVar m m.vars.length [.v (.int .i64 u), .v (.int .i64 n)] = some (m.push [.v (.int .i64 u), .v (.int .i64 n)]) := newVar_push rfl
attribute [local go_sem] len0 len1 loadOne loadLen cellsLen newLen Nat.zero_add List.drop_zero List.drop_succ_cons List.head?_cons
def kpRefLen : Nat → Option (List Nat) := fun _ => some [0, 1, 2, 20]
attribute [go_sem] kpRefLen
theorem refLenMay_ok : FunOk Tryz.prog 43 lenMayG := by
 have hC := table_ok (P := Tryz.prog) (l := []) table_nil
 refine fun_ok mixed hC Tryz.func43 rfl kpRefLen false rfl fun args m r h => ?_
 unfold lenMayG at h
 split at h
 ·rename_i u n
  simp only [Option.some.injEq] at h
  subst h
  refine ⟨Nat.le_of_ble_eq_true rfl, ?_⟩
  refine en ?_
  have fin : ∀ (e : Env) (m' : Mem) (b : Bool), Ev.get e 2 = .v (.bool b) → finMem m m' = m → (b = true ↔ lenMay u n) → Leaves Tryz.prog false Tryz.f43 m (.v (.bool (decide (lenMay u n))), m) .ret e m' := fun e m' b h1 h2 h3 => by
   have : b = decide (lenMay u n) := by rw [Bool.eq_iff_iff, decide_eq_true_eq]; exact h3
   rw [← this]
   exact leaves_fin rfl h1 h2
  repeat' (first | refine gos0 ?_ | (refine ops_here ?_; (fail_if_success (refine ops_case (B := true) rfl rfl rfl ?_ ?_)); (fail_if_success (refine ops_case (B := false) rfl rfl rfl ?_ ?_)); refine ops_case rfl rfl rfl (fun hB => ?_) (fun hB => ?_) <;> rw [hB]) | (refine runs_here ?_; refine runs_cond rfl (fun hc => ?_) (fun hc => ?_) <;> first | (cases hc; done) | skip))
  all_goals exact fin _ _ _ rfl fin_push (by unfold lenMay; simp only [decide_eq_true_eq, decide_eq_false_iff_not, Bool.false_eq_true, false_iff, true_iff, beq_iff_eq, bne_iff_ne, beq_eq_false_iff_ne, bne_eq_false_iff_eq, ne_eq, Int.reduceEq, true_and, false_and, or_false, false_or, and_true, and_false] at *; omega)
 ·cases h
def kpWithin : Nat → Option (List Nat) := fun _ => some [0, 1, 2, 6]
attribute [go_sem] kpWithin
def withinG : List AV → Mem → Option (AV × Mem)
 | [.v (.int .i64 x), .v (.int .i64 lo), .v (.int .i64 hi)], m => some (.v (.bool (decide (lo ≤ x ∧ x ≤ hi))), m)
 | _, _ => none
theorem lenWithin_ok : FunOk Tryz.prog 105 withinG := by
 have hC := table_ok (P := Tryz.prog) (l := []) table_nil
 refine fun_ok mixed hC Tryz.func105 rfl kpWithin false rfl fun args m r h => ?_
 unfold withinG at h
 split at h
 ·rename_i x lo hi
  simp only [Option.some.injEq] at h
  subst h
  refine ⟨Nat.le_of_ble_eq_true rfl, ?_⟩
  refine en ?_
  have fin : ∀ (e : Env) (b : Bool), Ev.get e 6 = .v (.bool b) → b = decide (lo ≤ x ∧ x ≤ hi) → Leaves Tryz.prog false Tryz.f105 m (.v (.bool (decide (lo ≤ x ∧ x ≤ hi))), m) .ret e m := fun e b h1 h2 => by rw [← h2]; exact leaves_v rfl h1
  repeat' (first | refine gos0 ?_ | (refine ops_here ?_; (fail_if_success (refine ops_case (B := true) rfl rfl rfl ?_ ?_)); (fail_if_success (refine ops_case (B := false) rfl rfl rfl ?_ ?_)); refine ops_case rfl rfl rfl (fun hB => ?_) (fun hB => ?_) <;> rw [hB]) | (refine runs_here ?_; refine runs_cond rfl (fun hc => ?_) (fun hc => ?_) <;> first | (cases hc; done) | skip))
  all_goals exact fin _ _ rfl (by rw [Bool.eq_iff_iff]; simp only [decide_eq_true_eq, decide_eq_false_iff_not, Bool.false_eq_true, false_iff, true_iff] at *; omega)
 ·cases h
def lenCheckG : List AV → Mem → Option (AV × Mem)
 | [.agg [.v (.int .i64 u), .v (.int .i64 n)]], m => some (.v (.int .i64 (if lenMay u n then 0 else 1)), m)
 | _, _ => none
def kpLenCheck : Nat → Option (List Nat) := fun _ => some [0, 1, 2, 3, 5, 6, 9, 11, 17]
attribute [go_sem] kpLenCheck
theorem lenCheck_ok : FunOk Tryz.prog 104 lenCheckG := by
 have hC := table_ok (P := Tryz.prog) (l := [(105, withinG)]) (table_more lenWithin_ok table_nil)
 have t1 := fun args mm => table_at (l := [(105, withinG)]) (f := 105) (args := args) (m := mm) rfl
 refine fun_ok mixed hC Tryz.func104 rfl kpLenCheck false rfl fun args m r h => ?_
 unfold lenCheckG at h
 split at h
 ·rename_i u n
  simp only [Option.some.injEq] at h
  subst h
  refine ⟨Nat.le_of_ble_eq_true rfl, ?_⟩
  refine en ?_
  have fw : ∀ x lo hi mm, withinG [.v (.int .i64 x), .v (.int .i64 lo), .v (.int .i64 hi)] mm = some (.v (.bool (decide (lo ≤ x ∧ x ≤ hi))), mm) := fun _ _ _ _ => rfl
  have fin : ∀ (e : Env) (m' : Mem) (b : Int), Ev.get e 2 = .v (.int .i64 b) → finMem m m' = m → ((b = 0 ∧ lenMay u n) ∨ (b = 1 ∧ ¬ lenMay u n)) → Leaves Tryz.prog false Tryz.f104 m (.v (.int .i64 (if lenMay u n then 0 else 1)), m) .ret e m' := fun e m' b h1 h2 h3 => by
   have : b = (if lenMay u n then 0 else 1) := by
    rcases h3 with ⟨rfl, h⟩ | ⟨rfl, h⟩
    ·rw [if_pos h]
    ·rw [if_neg h]
   rw [← this]
   exact leaves_fin rfl h1 h2
  repeat' (first | refine gos1 (jn @t1 @fw) ?_ | (refine ops_here ?_; (fail_if_success (refine ops_case (B := true) rfl rfl rfl ?_ ?_)); (fail_if_success (refine ops_case (B := false) rfl rfl rfl ?_ ?_)); refine ops_case rfl rfl rfl (fun hB => ?_) (fun hB => ?_) <;> rw [hB]) | (refine runs_here ?_; refine runs_cond rfl (fun hc => ?_) (fun hc => ?_) <;> first | (cases hc; done) | skip))
  all_goals exact fin _ _ _ rfl fin_push (by unfold lenMay; simp only [Bool.not_eq_true', Bool.not_eq_false', decide_eq_true_eq, decide_eq_false_iff_not, Bool.false_eq_true, false_iff, true_iff, beq_iff_eq, bne_iff_ne, beq_eq_false_iff_ne, bne_eq_false_iff_eq, ne_eq, Int.reduceEq, true_and, false_and, or_false, false_or, and_true, and_false] at *; omega)
 ·cases h
end
section
attribute [local irreducible] Next Inside Runs Ops table
attribute [local go_sem] szStr szInt Option.getD_some isNil loadStr loadInt mkInts0 mkInts1 mkStrs0 mkStrs1 rowsS_len rowsI_len evStr
/-! ### the first text that .. -/
def firstAt (p : ByteArray → Bool) : List ByteArray → Nat → Int
 | [], _ => -1
 | s :: l, i => if p s then (i : Int) else firstAt p l (i + 1)
theorem firstAt_in (p : ByteArray → Bool) : ∀ (l : List ByteArray) (i : Nat), -1 ≤ firstAt p l i ∧ firstAt p l i < (i + l.length : Nat)
 | [], i => by simp [firstAt]; omega
 | s :: l, i => by
  rw [firstAt]
  split
  ·simp only [List.length_cons]; omega
  ·have := firstAt_in p l (i + 1)
   simp only [List.length_cons]; omega
theorem firstAt_any (p : ByteArray → Bool) : ∀ (l : List ByteArray) (i : Nat), decide (0 ≤ firstAt p l i) = l.any p
 | [], i => by simp [firstAt]
 | s :: l, i => by
  rw [firstAt]
  cases h : p s with
  | true => simp [h]
  | false => simp only [Bool.false_eq_true, if_false, firstAt_any p l (i + 1), List.any_cons, h, Bool.false_or]
def placeOf (l : List ByteArray) (s : ByteArray) : Int := firstAt (fun x => decide (x = s)) l 0
def placeG : List AV → Mem → Option (AV × Mem)
 | [.lst _ 1 rows, .v (.string s)], m =>
  match unS rows with
  | some l => if l.length ≤ 9223372036854775807 then some (.v (.int .i64 (placeOf l s)), m) else none
  | none => none
 | _, _ => none
theorem placeG_eq {m : Mem} {g : Grow} {l : List ByteArray} {s : ByteArray} (hl : l.length ≤ 9223372036854775807) : placeG [.lst g 1 (rowsS l), .v (.string s)] m = some (.v (.int .i64 (placeOf l s)), m) := by
 simp only [placeG, unS_rowsS]
 rw [if_pos hl]
theorem first_no {p : ByteArray → Bool} {l : List ByteArray} {i : Nat} (hi : i < l.length) (hp : p (l.getD i ⟨#[]⟩) = false) (h : firstAt p (l.drop i) i = firstAt p l 0) : firstAt p (l.drop (i + 1)) (i + 1) = firstAt p l 0 := by
 rw [drop_next (d := ⟨#[]⟩) hi, firstAt, hp, if_neg (by simp)] at h
 exact h
theorem first_yes {p : ByteArray → Bool} {l : List ByteArray} {i : Nat} (hi : i < l.length) (hp : p (l.getD i ⟨#[]⟩) = true) (h : firstAt p (l.drop i) i = firstAt p l 0) : firstAt p l 0 = (i : Int) := by
 rw [drop_next (d := ⟨#[]⟩) hi, firstAt, hp, if_pos rfl] at h
 exact h.symm
theorem first_end {p : ByteArray → Bool} {l : List ByteArray} (h : firstAt p (l.drop l.length) l.length = firstAt p l 0) : firstAt p l 0 = -1 := by
 rw [List.drop_length] at h
 exact h.symm
def kpRefPlace : Nat → Option (List Nat) := fun _ => some [0, 1, 4, 5, 9, 17]
attribute [go_sem] kpRefPlace
theorem refPlace_ok : FunOk Tryz.prog 93 placeG := by
 have hC := table_ok (P := Tryz.prog) (l := []) table_nil
 refine fun_ok mixed hC Tryz.func93 rfl kpRefPlace false rfl fun args m r h => ?_
 unfold placeG at h
 split at h
 ·rename_i g rows s
  split at h
  ·rename_i l hl0
   obtain rfl := unS_some hl0
   split at h
   ·rename_i hlen
    simp only [Option.some.injEq] at h
    subst h
    refine ⟨Nat.le_of_ble_eq_true rfl, ?_⟩
    refine en ?_
    refine go0 ?_
    refine runs_loop (fun k e m' => ∃ (i : Nat) (x9 x17 : AV), i ≤ l.length ∧ firstAt (fun x => decide (x = s)) (l.drop i) i = placeOf l s ∧ m = m' ∧ k = l.length - i ∧
     e = [(0, AV.lst g 1 (rowsS l)), (1, .v (.string s)), (4, .v (.int .i64 0)), (5, .v (.int .i64 (i : Int))), (9, x9), (17, x17)]) (k := l.length) ⟨0, _, _, Nat.zero_le _, rfl, rfl, rfl, rfl⟩ ?_
    rintro k e m' ⟨i, x9, x17, hi, hf, rfl, rfl, rfl⟩
    refine go0 ?_
    refine runs_cond rfl (fun hc => ?_) (fun hc => ?_)
    ·have hi1 : i < l.length := by have := of_decide_eq_true hc; omega
     have f1 := atStrs (g := g) (kk := .i64) hi1
     refine go1 @f1 ?_
     refine runs_cond rfl (fun hc => ?_) (fun hc => ?_)
     ·have : placeOf l s = (i : Int) := first_yes hi1 (decide_eq_true (bytes_same.1 hc)) hf
      rw [this]
      refine go0 ?_
      exact leaves_v rfl rfl
     ·have r6 := next_i64 (i := i) (by omega)
      refine go1 @r6 ?_
      exact ⟨l.length - (i + 1), by omega, i + 1, _, _, hi1, first_no hi1 (decide_eq_false (bytes_not.1 hc)) hf, rfl, rfl, rfl⟩
    ·have hi1 : i = l.length := by have := of_decide_eq_false hc; omega
     subst hi1
     have : placeOf l s = -1 := first_end hf
     rw [this]
     refine go0 ?_
     exact leaves_v rfl rfl
   ·cases h
  ·cases h
 ·cases h
def kpIndex : Nat → Option (List Nat) := fun _ => some [0, 1, 4, 5, 7, 8, 9, 16]
attribute [go_sem] kpIndex
theorem index_ok : FunOk Tryz.prog 130 placeG := by
 have hC := table_ok (P := Tryz.prog) (l := []) table_nil
 refine fun_ok mixed hC Tryz.func130 rfl kpIndex false rfl fun args m r h => ?_
 unfold placeG at h
 split at h
 ·rename_i g rows s
  split at h
  ·rename_i l hl0
   obtain rfl := unS_some hl0
   split at h
   ·rename_i hlen
    simp only [Option.some.injEq] at h
    subst h
    refine ⟨Nat.le_of_ble_eq_true rfl, ?_⟩
    refine en ?_
    refine go0 ?_
    refine runs_loop (fun k e m' => ∃ (i : Nat) (x5 x9 x16 : AV), i ≤ l.length ∧ firstAt (fun x => decide (x = s)) (l.drop i) i = placeOf l s ∧ m = m' ∧ k = l.length - i ∧
     e = [(0, AV.lst g 1 (rowsS l)), (1, .v (.string s)), (4, .v (.int .i64 0)), (5, x5), (7, .v (.int .i64 l.length)), (8, .v (.int .i64 (i : Int))), (9, x9), (16, x16)]) (k := l.length) ⟨0, _, _, _, Nat.zero_le _, rfl, rfl, rfl, rfl⟩ ?_
    rintro k e m' ⟨i, x5, x9, x16, hi, hf, rfl, rfl, rfl⟩
    refine go0 ?_
    refine runs_cond rfl (fun hc => ?_) (fun hc => ?_)
    ·have hi1 : i < l.length := by have := of_decide_eq_true hc; omega
     have f1 := atStrs (g := g) (kk := .i64) hi1
     refine go1 @f1 ?_
     refine runs_cond rfl (fun hc => ?_) (fun hc => ?_)
     ·have : placeOf l s = (i : Int) := first_yes hi1 (decide_eq_true (bytes_same.1 hc).symm) hf
      rw [this]
      refine go0 ?_
      exact leaves_v rfl rfl
     ·have r6 := next_i64 (i := i) (by omega)
      refine go1 @r6 ?_
      exact ⟨l.length - (i + 1), by omega, i + 1, _, _, _, hi1, first_no hi1 (decide_eq_false fun h => bytes_not.1 hc h.symm) hf, rfl, rfl, rfl⟩
    ·have hi1 : i = l.length := by have := of_decide_eq_false hc; omega
     subst hi1
     have : placeOf l s = -1 := first_end hf
     rw [this]
     refine go0 ?_
     exact leaves_v rfl rfl
   ·cases h
  ·cases h
 ·cases h
def kpPlace : Nat → Option (List Nat) := fun _ => some [0, 1, 4]
attribute [go_sem] kpPlace
/-! ### keywords -/
def kwRef : List ByteArray := [⟨#[114, 101, 99, 105, 112, 101]⟩, ⟨#[115, 116, 101, 112, 115]⟩, ⟨#[101, 112, 111, 99, 104]⟩, ⟨#[119, 101, 105, 103, 104, 116, 115]⟩, ⟨#[109, 101, 116, 114, 105, 99]⟩, ⟨#[103, 114, 111, 117, 112]⟩, ⟨#[101, 118, 97, 108]⟩, ⟨#[112, 104, 97, 115, 101]⟩, ⟨#[114, 101, 115, 116]⟩, ⟨#[102, 114, 101, 101, 122, 101]⟩, ⟨#[115, 101, 116]⟩, ⟨#[108, 114]⟩, ⟨#[109, 111, 109]⟩, ⟨#[119, 100]⟩, ⟨#[99, 111, 110, 115, 116]⟩, ⟨#[108, 105, 110, 101]⟩, ⟨#[112, 111, 108, 121]⟩, ⟨#[101, 120, 112]⟩, ⟨#[119, 97, 118, 101]⟩, ⟨#[99, 121, 99, 108, 101]⟩, ⟨#[114, 101, 115, 116, 97, 114, 116]⟩, ⟨#[119, 97, 114, 109]⟩, ⟨#[116, 104, 101, 110]⟩, ⟨#[115, 116, 111, 112]⟩, ⟨#[112, 108, 97, 116, 101, 97, 117]⟩, ⟨#[107, 101, 101, 112]⟩, ⟨#[101, 109, 97]⟩, ⟨#[115, 119, 97]⟩, ⟨#[109, 105, 110]⟩, ⟨#[109, 97, 120]⟩, ⟨#[97, 98, 115]⟩, ⟨#[114, 101, 108]⟩, ⟨#[101, 112, 111, 99, 104, 115]⟩]
def kwOwn : List ByteArray := [⟨#[114, 101, 99, 105, 112, 101]⟩, ⟨#[115, 116, 101, 112, 115]⟩, ⟨#[101, 112, 111, 99, 104]⟩, ⟨#[101, 112, 111, 99, 104, 115]⟩, ⟨#[119, 101, 105, 103, 104, 116, 115]⟩, ⟨#[109, 101, 116, 114, 105, 99]⟩, ⟨#[103, 114, 111, 117, 112]⟩, ⟨#[101, 118, 97, 108]⟩, ⟨#[112, 104, 97, 115, 101]⟩, ⟨#[114, 101, 115, 116]⟩, ⟨#[102, 114, 101, 101, 122, 101]⟩, ⟨#[115, 101, 116]⟩, ⟨#[108, 114]⟩, ⟨#[109, 111, 109]⟩, ⟨#[119, 100]⟩, ⟨#[99, 111, 110, 115, 116]⟩, ⟨#[108, 105, 110, 101]⟩, ⟨#[112, 111, 108, 121]⟩, ⟨#[101, 120, 112]⟩, ⟨#[119, 97, 118, 101]⟩, ⟨#[99, 121, 99, 108, 101]⟩, ⟨#[114, 101, 115, 116, 97, 114, 116]⟩, ⟨#[119, 97, 114, 109]⟩, ⟨#[116, 104, 101, 110]⟩, ⟨#[115, 116, 111, 112]⟩, ⟨#[112, 108, 97, 116, 101, 97, 117]⟩, ⟨#[107, 101, 101, 112]⟩, ⟨#[101, 109, 97]⟩, ⟨#[115, 119, 97]⟩, ⟨#[109, 105, 110]⟩, ⟨#[109, 97, 120]⟩, ⟨#[97, 98, 115]⟩, ⟨#[114, 101, 108]⟩]
theorem mkKw : evBuildSlice Tryz.prog 22 33 [(0, .v (.string ⟨#[114, 101, 99, 105, 112, 101]⟩)), (1, .v (.string ⟨#[115, 116, 101, 112, 115]⟩)), (2, .v (.string ⟨#[101, 112, 111, 99, 104]⟩)), (3, .v (.string ⟨#[119, 101, 105, 103, 104, 116, 115]⟩)), (4, .v (.string ⟨#[109, 101, 116, 114, 105, 99]⟩)), (5, .v (.string ⟨#[103, 114, 111, 117, 112]⟩)), (6, .v (.string ⟨#[101, 118, 97, 108]⟩)), (7, .v (.string ⟨#[112, 104, 97, 115, 101]⟩)), (8, .v (.string ⟨#[114, 101, 115, 116]⟩)), (9, .v (.string ⟨#[102, 114, 101, 101, 122, 101]⟩)), (10, .v (.string ⟨#[115, 101, 116]⟩)), (11, .v (.string ⟨#[108, 114]⟩)), (12, .v (.string ⟨#[109, 111, 109]⟩)), (13, .v (.string ⟨#[119, 100]⟩)), (14, .v (.string ⟨#[99, 111, 110, 115, 116]⟩)), (15, .v (.string ⟨#[108, 105, 110, 101]⟩)), (16, .v (.string ⟨#[112, 111, 108, 121]⟩)), (17, .v (.string ⟨#[101, 120, 112]⟩)), (18, .v (.string ⟨#[119, 97, 118, 101]⟩)), (19, .v (.string ⟨#[99, 121, 99, 108, 101]⟩)), (20, .v (.string ⟨#[114, 101, 115, 116, 97, 114, 116]⟩)), (21, .v (.string ⟨#[119, 97, 114, 109]⟩)), (22, .v (.string ⟨#[116, 104, 101, 110]⟩)), (23, .v (.string ⟨#[115, 116, 111, 112]⟩)), (24, .v (.string ⟨#[112, 108, 97, 116, 101, 97, 117]⟩)), (25, .v (.string ⟨#[107, 101, 101, 112]⟩)), (26, .v (.string ⟨#[101, 109, 97]⟩)), (27, .v (.string ⟨#[115, 119, 97]⟩)), (28, .v (.string ⟨#[109, 105, 110]⟩)), (29, .v (.string ⟨#[109, 97, 120]⟩)), (30, .v (.string ⟨#[97, 98, 115]⟩)), (31, .v (.string ⟨#[114, 101, 108]⟩)), (32, .v (.string ⟨#[101, 112, 111, 99, 104, 115]⟩))] = some (.lst .full 1 (rowsS kwRef)) := build_rows appStrs (by rfl) rfl (by decide)
def keyword (s : ByteArray) : Bool := kwRef.any fun x => decide (x = s)
theorem kw_own {s : ByteArray} {w : ByteArray} (h : (s == w) = true) (hw : keyword w = true) : keyword s = true := by
 rw [bytes_same.1 h]
 exact hw
theorem kw_place (s : ByteArray) : decide (0 ≤ placeOf kwRef s) = keyword s := firstAt_any _ _ _
theorem kw_none {s : ByteArray} (h : ∀ w ∈ kwOwn, (s == w) = false) : keyword s = false := by
 unfold keyword
 rw [List.any_eq_false]
 intro x hx hd
 have : x ∈ kwOwn := by
  have sub : (kwRef.all fun x => kwOwn.any fun y => decide (y = x)) = true := by decide
  obtain ⟨y, h1, h2⟩ := List.any_eq_true.1 (List.all_eq_true.1 sub x hx)
  rw [← of_decide_eq_true h2]
  exact h1
 exact bytes_not.1 (h x this) (of_decide_eq_true hd).symm
def keywordsG : List AV → Mem → Option (AV × Mem)
 | [], m => some (.lst .no 1 (rowsS kwRef), m)
 | _, _ => none
def kpKeywords : Nat → Option (List Nat) := fun _ => some [0]
attribute [go_sem] kpKeywords
theorem keywords_ok : FunOk Tryz.prog 94 keywordsG := by
 have hC := table_ok (P := Tryz.prog) (l := []) table_nil
 refine fun_ok mixed hC Tryz.func94 rfl kpKeywords false rfl fun args m r h => ?_
 unfold keywordsG at h
 split at h
 ·simp only [Option.some.injEq] at h
  subst h
  refine ⟨Nat.le_of_ble_eq_true rfl, ?_⟩
  refine en ?_
  refine go1 @mkKw ?_
  exact leaves_lst rfl rfl (finMem_self _)
 ·cases h
def keywordG : List AV → Mem → Option (AV × Mem)
 | [.v (.string s)], m => some (.v (.bool (keyword s)), m)
 | _, _ => none
def kpKeyword : Nat → Option (List Nat) := fun _ => some [0, 2, 3, 4, 17, 30]
attribute [go_sem] kpKeyword
set_option maxHeartbeats 1000000 in
theorem keyword_ok : FunOk Tryz.prog 155 keywordG := by
 have hC := table_ok (P := Tryz.prog) (l := []) table_nil
 refine fun_ok mixed hC Tryz.func155 rfl kpKeyword false rfl fun args m r h => ?_
 unfold keywordG at h
 split at h
 ·rename_i s
  simp only [Option.some.injEq] at h
  subst h
  refine ⟨Nat.le_of_ble_eq_true rfl, ?_⟩
  refine en ?_
  have fin : ∀ e, Ev.get e 2 = .v (.bool true) → keyword s = true → Leaves Tryz.prog false Tryz.f155 m (.v (.bool (keyword s)), m) .ret e m := fun e h1 h2 => by rw [h2]; exact leaves_v rfl h1
  repeat (first
   | (first | refine runs_seq ?_ | refine runs_block ?_ | refine next_normal ?_ | refine inside_normal ?_ | refine next_exit ?_ | refine inside_exit ?_ | refine inside_other (by decide) ?_ | refine next_ret ?_ | refine inside_ret ?_ | refine runs_ops_kept ?_ | refine runs_skip ?_ | refine runs_exit ?_ | refine runs_ret ?_ | ((first | refine' ops_op rfl rfl (by decide) ?_ ?_ ?_ | refine' ops_yes rfl rfl (by simp only [Ev.get, reduceIte, Nat.reduceEqDiff]; first | done | rfl) rfl (by decide) ?_ ?_ ?_); rotate_left 2; (focus (simp only [evOp, opd, constAV, constCell, Ev.get, reduceIte, Nat.reduceEqDiff, reduceCtorEq, evBinN, nilCmp, evBin, evInt, evUn, evConvert, evBuiltin, evLen, evField, evPart, tStr, tInt, tElem, tArr, tBool, tAgg, tField, Tryz.underlying9, Tryz.underlying3, Tryz.underlying4, Tryz.underlying5, Tryz.underlying21, Tryz.underlying22, Tryz.underlying2, Tryz.underlying102, Tryz.underlying33, List.zipWith, Option.map_some, Option.map_none, List.length_cons, List.length_nil, ne_eq, Int.reduceEq, not_false_eq_true, and_self, and_true, true_and]; first | done | rfl)); exact (fun h => rfl)) | refine ops_no rfl rfl (by simp only [Ev.get, reduceIte, Nat.reduceEqDiff]; first | done | rfl) (by decide) rfl (by decide) ?_ | (refine ops_nil ?_; intro e2 h2; simp only [restr, kpKeyword, List.map_cons, List.map_nil, Ev.get, reduceIte, Nat.reduceEqDiff] at h2; subst h2))
   | (refine runs_cond rfl (fun hc => by
     have hk := kw_own hc (by decide)
     repeat ((first | refine runs_seq ?_ | refine runs_block ?_ | refine next_normal ?_ | refine inside_normal ?_ | refine next_exit ?_ | refine inside_exit ?_ | refine inside_other (by decide) ?_ | refine next_ret ?_ | refine inside_ret ?_ | refine runs_ops_kept ?_ | refine runs_skip ?_ | refine runs_exit ?_ | refine runs_ret ?_ | ((first | refine' ops_op rfl rfl (by decide) ?_ ?_ ?_ | refine' ops_yes rfl rfl (by simp only [Ev.get, reduceIte, Nat.reduceEqDiff]; first | done | rfl) rfl (by decide) ?_ ?_ ?_); rotate_left 2; (focus (simp only [evOp, opd, constAV, constCell, Ev.get, reduceIte, Nat.reduceEqDiff, reduceCtorEq, evBinN, nilCmp, evBin, evInt, evUn, evConvert, evBuiltin, evLen, evField, evPart, tStr, tInt, tElem, tArr, tBool, tAgg, tField, Tryz.underlying9, Tryz.underlying3, Tryz.underlying4, Tryz.underlying5, Tryz.underlying21, Tryz.underlying22, Tryz.underlying2, Tryz.underlying102, Tryz.underlying33, List.zipWith, Option.map_some, Option.map_none, List.length_cons, List.length_nil, ne_eq, Int.reduceEq, not_false_eq_true, and_self, and_true, true_and]; first | done | rfl)); exact (fun h => rfl)) | refine ops_no rfl rfl (by simp only [Ev.get, reduceIte, Nat.reduceEqDiff]; first | done | rfl) (by decide) rfl (by decide) ?_ | (refine ops_nil ?_; intro e2 h2; simp only [restr, kpKeyword, List.map_cons, List.map_nil, Ev.get, reduceIte, Nat.reduceEqDiff] at h2; subst h2)))
     first
      | exact fin _ rfl hk
      | ((refine runs_cond rfl (fun _ => ?_) (fun hf => absurd (hc.symm.trans hf) (by decide))); (repeat ((first | refine runs_seq ?_ | refine runs_block ?_ | refine next_normal ?_ | refine inside_normal ?_ | refine next_exit ?_ | refine inside_exit ?_ | refine inside_other (by decide) ?_ | refine next_ret ?_ | refine inside_ret ?_ | refine runs_ops_kept ?_ | refine runs_skip ?_ | refine runs_exit ?_ | refine runs_ret ?_ | ((first | refine' ops_op rfl rfl (by decide) ?_ ?_ ?_ | refine' ops_yes rfl rfl (by simp only [Ev.get, reduceIte, Nat.reduceEqDiff]; first | done | rfl) rfl (by decide) ?_ ?_ ?_); rotate_left 2; (focus (simp only [evOp, opd, constAV, constCell, Ev.get, reduceIte, Nat.reduceEqDiff, reduceCtorEq, evBinN, nilCmp, evBin, evInt, evUn, evConvert, evBuiltin, evLen, evField, evPart, tStr, tInt, tElem, tArr, tBool, tAgg, tField, Tryz.underlying9, Tryz.underlying3, Tryz.underlying4, Tryz.underlying5, Tryz.underlying21, Tryz.underlying22, Tryz.underlying2, Tryz.underlying102, Tryz.underlying33, List.zipWith, Option.map_some, Option.map_none, List.length_cons, List.length_nil, ne_eq, Int.reduceEq, not_false_eq_true, and_self, and_true, true_and]; first | done | rfl)); exact (fun h => rfl)) | refine ops_no rfl rfl (by simp only [Ev.get, reduceIte, Nat.reduceEqDiff]; first | done | rfl) (by decide) rfl (by decide) ?_ | (refine ops_nil ?_; intro e2 h2; simp only [restr, kpKeyword, List.map_cons, List.map_nil, Ev.get, reduceIte, Nat.reduceEqDiff] at h2; subst h2)))); exact fin _ rfl hk)) (fun hc => ?_)))
  have hk : keyword s = false := by
   refine kw_none ?_
   simp only [kwOwn, List.mem_cons, List.not_mem_nil, or_false, forall_eq_or_imp, forall_eq]
   simp only [*, and_self]
  rw [hk]
  exact leaves_v rfl rfl
 ·cases h
def kpParamWord : Nat → Option (List Nat) := fun _ => some [0, 2, 3, 4, 6, 8]
attribute [go_sem] kpParamWord
def kpParam : Nat → Option (List Nat) := fun _ => some [0, 2, 3, 4, 5, 6, 11]
attribute [go_sem] kpParam
end
section
attribute [local irreducible] Next Inside Runs Ops table
/-! ### the list's cells -/
theorem fpRlRule {r : Nat} : evFieldAddr Tryz.prog 119 (.ptr r 0) 0 = some (.ptr r 0) := by kernel_rfl
theorem fpRlList {r : Nat} : evFieldAddr Tryz.prog 119 (.ptr r 0) 1 = some (.ptr r 1) := by kernel_rfl
theorem agFlaws : tAgg Tryz.prog 40 = some false := by kernel_rfl
theorem szFlaws : tSize Tryz.prog 40 = some 1 := by kernel_rfl
theorem lpRlRule {m : Mem} {r : Nat} {rule : Int} {l : AV} (hv : m.var r = some [.v (.int .i64 rule), l]) : evLoad Tryz.prog m 3 (.ptr r 0) = some (.v (.int .i64 rule)) := by
 unfold evLoad
 simp only [ptrCells, hv, Option.map_some, szInt, agInt]
 rfl
theorem lpRlList {m : Mem} {r : Nat} {rule : Int} {l : AV} (hv : m.var r = some [.v (.int .i64 rule), l]) : evLoad Tryz.prog m 40 (.ptr r 1) = some l := by
 unfold evLoad
 simp only [ptrCells, hv, Option.map_some, szFlaws, agFlaws]
 rfl
theorem mkFl {a b c : Int} : evBuild Tryz.prog 83 [(0, .v (.int .i64 a)), (1, .v (.int .i64 b)), (2, .v (.int .i64 c))] = some (.agg [.v (.int .i64 a), .v (.int .i64 b), .v (.int .i64 c)]) := by kernel_rfl
theorem mkFls1 {a b c : Int} : evBuildSlice Tryz.prog 40 1 [(0, .agg [.v (.int .i64 a), .v (.int .i64 b), .v (.int .i64 c)])] = some (.lst .full 3 [[.v (.int .i64 a), .v (.int .i64 b), .v (.int .i64 c)]]) := build_rows appFl rfl rfl (by decide)
theorem putList {m : Mem} {r : Nat} {rule : Int} {l : AV} {g : Grow} {rows : List (List AV)} (hv : m.var r = some [.v (.int .i64 rule), l]) :
  evStore Tryz.prog m 40 (.ptr r 1) (.lst g 3 rows) = some { m with vars := m.vars.set r (some [.v (.int .i64 rule), .lst g 3 rows]) } := by
 unfold evStore
 simp only [cellsOf, flat, List.all_cons, List.all_nil, okCell, Bool.and_true, if_true, szFlaws, hv]
 rfl
theorem var_lt {m : Mem} {r : Nat} {cs : List AV} (h : m.var r = some cs) : r < m.vars.length ∧ m.vars[r]? = some (some cs) := by
 unfold Mem.var at h
 cases hx : m.vars[r]? with
 | none => rw [hx] at h; cases h
 | some y => rw [hx] at h; cases y with
  | none => cases h
  | some z =>
   cases h
   exact ⟨(List.getElem?_eq_some_iff.1 hx).1, rfl⟩
theorem var_of {m : Mem} {r : Nat} {cs : List AV} (h : m.vars[r]? = some (some cs)) : m.var r = some cs := by
 unfold Mem.var
 rw [h]
 rfl
/-- Behind a change of a variable that was there. -/
theorem fin_set {m : Mem} {r : Nat} {cs cs' : List AV} {T : List Nat} (h : m.var r = some cs) (hne : cs ≠ cs') : finMem m { vars := m.vars.set r (some cs'), toks := T } = { vars := m.vars.set r (some cs'), toks := T } := by
 obtain ⟨hlt, hx⟩ := var_lt h
 unfold finMem
 have e : (m.vars.set r (some cs')).take m.vars.length = m.vars.set r (some cs') := List.take_of_length_le (by simp)
 rw [if_neg]
 ·simp only [e]
 ·simp only [e]
  intro he
  have : (m.vars.set r (some cs'))[r]? = m.vars[r]? := by rw [he]
  rw [List.getElem?_set_self hlt, hx] at this
  cases this
  exact hne rfl
def noteG : List AV → Mem → Option (AV × Mem)
 | [.ptr r 0, .v (.bool b), .v (.int .i64 i), .v (.int .i64 p)], m =>
  if b = true then
   match m.var r with
   | some [.v (.int .i64 rule), .lst .full 3 rows] =>
    if rows.length + 1 ≤ lim then some (.tup [], { vars := m.vars.set r (some [.v (.int .i64 rule), .lst (.tok m.toks.length 0) 3 (rows ++ [[.v (.int .i64 rule), .v (.int .i64 i), .v (.int .i64 p)]])]), toks := m.toks ++ [0] }) else none
   | some [.v (.int .i64 rule), .lst (.tok id v) 3 rows] =>
    if rows.length + 1 ≤ lim ∧ m.toks[id]? = some v then some (.tup [], { vars := m.vars.set r (some [.v (.int .i64 rule), .lst (.tok id (v + 1)) 3 (rows ++ [[.v (.int .i64 rule), .v (.int .i64 i), .v (.int .i64 p)]])]), toks := m.toks.set id (v + 1) }) else none
   | _ => none
  else some (.tup [], m)
 | _, _ => none
theorem leaves_none {P : Program} {fn : Func} {m m' m2 : Mem} {e : Env} (h : fn.results = #[]) (hm : finMem m m' = m2) : Leaves P false fn m (.tup [], m2) .normal e m' := by
 show evRet P false fn m e m' = _
 unfold evRet
 rw [h]
 simp [hm]
attribute [local go_sem] szStr szInt Option.getD_some isNil evStr loadStr loadInt fpRlRule fpRlList mkFl mkFls1
def kpNote : Nat → Option (List Nat) := fun
 | 0 => some [0, 2, 3, 8]
 | 1 => some []
 | _ => none
attribute [go_sem] kpNote
theorem note_ok : FunOk Tryz.prog 78 noteG := by
 have hC := table_ok (P := Tryz.prog) (l := []) table_nil
 refine fun_ok mixed hC Tryz.func78 rfl kpNote false rfl fun args m r h => ?_
 unfold noteG at h
 split at h
 ·rename_i r b i p
  split at h
  ·rename_i hb
   subst hb
   have app := fun (mm : Mem) (g : Grow) (rows : List (List AV)) (row : List AV) (hl : rows.length + 1 ≤ lim) => app_of (m := mm) (g := g) (xs := rows) (ys := [row]) appFl asList_lst (asList_lst (g := .full)) hl
   split at h
   ·rename_i rule rows hv
    split at h
    ·rename_i hl
     simp only [Option.some.injEq] at h
     subst h
     refine ⟨Nat.le_of_ble_eq_true rfl, ?_⟩
     refine en ?_
     have v1 := lpRlRule (rule := rule) hv
     have v2 := lpRlList (rule := rule) hv
     have v3 := app m .full rows [.v (.int .i64 rule), .v (.int .i64 i), .v (.int .i64 p)] hl
     have v4 := putList (m := { m with toks := m.toks ++ [0] }) (g := .tok m.toks.length 0) (rows := rows ++ [[.v (.int .i64 rule), .v (.int .i64 i), .v (.int .i64 p)]]) (l := .lst .full 3 rows) (rule := rule) (r := r) hv
     refine go0 ?_
     refine runs_cond rfl (fun hc => ?_) (fun hc => by cases hc)
     refine runs_ops_drawn_kept (by kernel_rfl) ?_
     refine go1 (jn @v1 (jn @v2 (jn @v3 @v4))) ?_
     refine leaves_none rfl (fin_set hv ?_)
     simp
    ·cases h
   ·rename_i rule id v rows hv
    split at h
    ·rename_i hl
     obtain ⟨hl, hid⟩ := hl
     simp only [Option.some.injEq] at h
     subst h
     refine ⟨Nat.le_of_ble_eq_true rfl, ?_⟩
     refine en ?_
     have v1 := lpRlRule (rule := rule) hv
     have v2 := lpRlList (rule := rule) hv
     have v3 := app m (.tok id v) rows [.v (.int .i64 rule), .v (.int .i64 i), .v (.int .i64 p)] hl
     simp only [hid, if_true] at v3
     have v4 := putList (m := { m with toks := m.toks.set id (v + 1) }) (g := .tok id (v + 1)) (rows := rows ++ [[.v (.int .i64 rule), .v (.int .i64 i), .v (.int .i64 p)]]) (l := .lst (.tok id v) 3 rows) (rule := rule) (r := r) hv
     refine go0 ?_
     refine runs_cond rfl (fun hc => ?_) (fun hc => by cases hc)
     refine runs_ops_drawn_kept (by kernel_rfl) ?_
     refine go1 (jn @v1 (jn @v2 (jn @v3 @v4))) ?_
     refine leaves_none rfl (fin_set hv ?_)
     simp
    ·cases h
   ·cases h
  ·rename_i hb
   simp only [Option.some.injEq] at h
   subst h
   obtain rfl : b = false := by simpa using hb
   refine ⟨Nat.le_of_ble_eq_true rfl, ?_⟩
   refine en ?_
   refine go0 ?_
   refine runs_cond rfl (fun hc => by cases hc) (fun hc => ?_)
   refine go0 ?_
   exact leaves_none rfl (finMem_self m)
 ·cases h
/-! ### a list of flaws that grows from nothing -/
def flLst (m : Mem) (fl : List Fl) : AV := if fl = [] then .lst .full 3 [] else .lst (.tok m.toks.length (fl.length - 1)) 3 (rowsFl fl)
def flMem (m : Mem) (r : Nat) (rule : Int) (fl : List Fl) : Mem := if fl = [] then m else { vars := m.vars.set r (some [.v (.int .i64 rule), .lst (.tok m.toks.length (fl.length - 1)) 3 (rowsFl fl)]), toks := m.toks ++ [fl.length - 1] }
theorem flMem_nil {m : Mem} {r : Nat} {rule : Int} : flMem m r rule [] = m := if_pos rfl
theorem above_var {m m' : Mem} (h : Above m m') {r : Nat} {cs : List AV} (hv : m.var r = some cs) : m'.var r = some cs := by
 obtain ⟨L, rfl⟩ := h
 obtain ⟨hlt, hx⟩ := var_lt hv
 apply var_of
 show (m.vars ++ L)[r]? = _
 rw [List.getElem?_append_left hlt, hx]
theorem above_set {m m' : Mem} (h : Above m m') {r : Nat} {cs : List AV} {T : List Nat} (hr : r < m.vars.length) : Above { vars := m.vars.set r (some cs), toks := T } { vars := m'.vars.set r (some cs), toks := T } := by
 obtain ⟨L, rfl⟩ := h
 refine ⟨L, ?_⟩
 simp only [List.set_append_left _ _ hr]
theorem above_toks {m m' : Mem} (h : Above m m') : m'.toks = m.toks := by obtain ⟨L, rfl⟩ := h; rfl
theorem flMem_var {m : Mem} {r : Nat} {rule : Int} {fl : List Fl} (hv : m.var r = some [.v (.int .i64 rule), .lst .full 3 []]) : (flMem m r rule fl).var r = some [.v (.int .i64 rule), flLst m fl] := by
 unfold flMem flLst
 by_cases h : fl = []
 ·rw [if_pos h, if_pos h]; exact hv
 ·rw [if_neg h, if_neg h]
  apply var_of
  rw [List.getElem?_set_self (var_lt hv).1]
theorem flMem_len {m : Mem} {r : Nat} {rule : Int} {fl : List Fl} : (flMem m r rule fl).vars.length = m.vars.length := by
 unfold flMem
 split
 ·rfl
 ·simp
theorem fin_flMem {m m' : Mem} {r : Nat} {rule : Int} {fl : List Fl} (hv : m.var r = some [.v (.int .i64 rule), .lst .full 3 []]) (h : Above (flMem m r rule fl) m') : finMem m m' = flMem m r rule fl := by
 by_cases hn : fl = []
 ·subst hn
  rw [flMem_nil] at h ⊢
  exact above_fin h
 ·unfold flMem at h ⊢
  rw [if_neg hn] at h ⊢
  obtain ⟨L, rfl⟩ := h
  obtain ⟨hlt, hx⟩ := var_lt hv
  unfold finMem
  have e : (m.vars.set r (some [.v (.int .i64 rule), .lst (.tok m.toks.length (fl.length - 1)) 3 (rowsFl fl)]) ++ L).take m.vars.length = m.vars.set r (some [.v (.int .i64 rule), .lst (.tok m.toks.length (fl.length - 1)) 3 (rowsFl fl)]) := by
   rw [List.take_append_of_le_length (by simp)]
   exact List.take_of_length_le (by simp)
  rw [if_neg]
  ·simp only [e]
  ·simp only [e]
   intro he
   have : (m.vars.set r (some [.v (.int .i64 rule), .lst (.tok m.toks.length (fl.length - 1)) 3 (rowsFl fl)]))[r]? = m.vars[r]? := by rw [he]
   rw [List.getElem?_set_self hlt, hx] at this
   simp at this
theorem var_set_ne {m : Mem} {r q : Nat} {cs cs' : List AV} {T : List Nat} (hq : q ≠ r) (h : m.var q = some cs) : ({ vars := m.vars.set r (some cs'), toks := T } : Mem).var q = some cs := by
 apply var_of
 show (m.vars.set r _)[q]? = _
 rw [List.getElem?_set_ne (fun h => hq h.symm), (var_lt h).2]
theorem push_old {m : Mem} {q : Nat} {cs cs' : List AV} (h : m.var q = some cs) : (m.push cs').var q = some cs := by
 apply var_of
 show (m.vars ++ [_])[q]? = _
 rw [List.getElem?_append_left (var_lt h).1, (var_lt h).2]
theorem above_len {m m' : Mem} (h : Above m m') : m.vars.length ≤ m'.vars.length := by
 obtain ⟨L, rfl⟩ := h
 simp
theorem note_step {m m' : Mem} {r : Nat} {rule : Int} {fl : List Fl} (hv : m.var r = some [.v (.int .i64 rule), .lst .full 3 []]) (h : Above (flMem m r rule fl) m') (hl : fl.length < 4294967295) (b : Bool) (i p : Int) :
  ∃ m'', noteG [.ptr r 0, .v (.bool b), .v (.int .i64 i), .v (.int .i64 p)] m' = some (.tup [], m'') ∧ Above (flMem m r rule (if b then fl ++ [⟨rule, i, p⟩] else fl)) m'' ∧ (∀ q cs, q ≠ r → m'.var q = some cs → m''.var q = some cs) := by
 have hv' := above_var h (flMem_var (fl := fl) hv)
 have ht := above_toks h
 have hlt := (var_lt hv).1
 cases b with
 | false => exact ⟨m', rfl, h, fun q cs _ h => h⟩
 | true =>
  by_cases hn : fl = []
  ·subst hn
   rw [flMem_nil] at h ht
   have e1 : flLst m [] = .lst .full 3 [] := if_pos rfl
   rw [e1] at hv'
   refine ⟨{ vars := m'.vars.set r (some [.v (.int .i64 rule), .lst (.tok m'.toks.length 0) 3 [[.v (.int .i64 rule), .v (.int .i64 i), .v (.int .i64 p)]]]), toks := m'.toks ++ [0] }, ?_, ?_, fun q cs hq hc => var_set_ne hq hc⟩
   ·simp only [noteG, if_true, hv', List.length_nil, List.nil_append]
    rw [if_pos (by decide)]
   ·have e2 : flMem m r rule ([] ++ [⟨rule, i, p⟩]) = { vars := m.vars.set r (some [.v (.int .i64 rule), .lst (.tok m.toks.length 0) 3 [[.v (.int .i64 rule), .v (.int .i64 i), .v (.int .i64 p)]]]), toks := m.toks ++ [0] } := if_neg (by simp)
    rw [if_pos rfl, e2, ht]
    exact above_set h hlt
  ·have e1 : flLst m fl = .lst (.tok m.toks.length (fl.length - 1)) 3 (rowsFl fl) := if_neg hn
   have e0 : flMem m r rule fl = { vars := m.vars.set r (some [.v (.int .i64 rule), .lst (.tok m.toks.length (fl.length - 1)) 3 (rowsFl fl)]), toks := m.toks ++ [fl.length - 1] } := if_neg hn
   have hpos : 0 < fl.length := by cases fl with | nil => exact absurd rfl hn | cons a b => simp
   rw [e1] at hv'
   rw [e0] at h ht
   simp only at ht
   have hid : m'.toks[m.toks.length]? = some (fl.length - 1) := by rw [ht]; simp
   refine ⟨{ vars := m'.vars.set r (some [.v (.int .i64 rule), .lst (.tok m.toks.length (fl.length - 1 + 1)) 3 (rowsFl fl ++ [[.v (.int .i64 rule), .v (.int .i64 i), .v (.int .i64 p)]])]), toks := m'.toks.set m.toks.length (fl.length - 1 + 1) }, ?_, ?_, fun q cs hq hc => var_set_ne hq hc⟩
   ·simp only [noteG, if_true, hv']
    rw [if_pos ⟨by rw [rowsFl_len]; unfold lim; omega, hid⟩]
   ·have e2 : flMem m r rule (fl ++ [⟨rule, i, p⟩]) = { vars := m.vars.set r (some [.v (.int .i64 rule), .lst (.tok m.toks.length (fl.length - 1 + 1)) 3 (rowsFl fl ++ [[.v (.int .i64 rule), .v (.int .i64 i), .v (.int .i64 p)]])]), toks := m.toks ++ [fl.length - 1 + 1] } := by
     unfold flMem
     rw [if_neg (by simp)]
     have : (fl ++ [(⟨rule, i, p⟩ : Fl)]).length - 1 = fl.length - 1 + 1 := by simp; omega
     rw [this, ← rowsFl_app]
     rfl
    rw [if_pos rfl, e2, ht, show (m.toks ++ [fl.length - 1]).set m.toks.length (fl.length - 1 + 1) = m.toks ++ [fl.length - 1 + 1] by simp [List.set_append]]
    have := above_set (T := m.toks ++ [fl.length - 1 + 1]) (cs := [.v (.int .i64 rule), .lst (.tok m.toks.length (fl.length - 1 + 1)) 3 (rowsFl fl ++ [[.v (.int .i64 rule), .v (.int .i64 i), .v (.int .i64 p)]])]) h (r := r) (by simpa using hlt)
    simpa using this
/-! ### is a text among others? -/
def among (l : List ByteArray) (s : ByteArray) : Bool := l.any fun x => decide (x = s)
def amongG : List AV → Mem → Option (AV × Mem)
 | [.lst _ 1 rows, .v (.string s)], m =>
  match unS rows with
  | some l => if l.length ≤ 9223372036854775807 then some (.v (.bool (among l s)), m) else none
  | none => none
 | _, _ => none
theorem amongG_eq {m : Mem} {g : Grow} {l : List ByteArray} {s : ByteArray} (hl : l.length ≤ 9223372036854775807) : amongG [.lst g 1 (rowsS l), .v (.string s)] m = some (.v (.bool (among l s)), m) := by
 simp only [amongG, unS_rowsS]
 rw [if_pos hl]
theorem place_in (l : List ByteArray) (s : ByteArray) : decide (placeOf l s ≥ 0) = among l s := firstAt_any (fun x => decide (x = s)) l 0
attribute [local go_sem] rowsS_len
def kpAmong : Nat → Option (List Nat) := fun
 | 0 => some [0, 1]
 | 1 => some [4]
 | _ => none
attribute [go_sem] kpAmong
def tab_among_ok : List (FuncId × (List AV → Mem → Option (AV × Mem))) := [(130, placeG)]
theorem among_ok : FunOk Tryz.prog 132 amongG := by
 have hC := table_ok (P := Tryz.prog) (l := tab_among_ok) (table_more index_ok table_nil)
 have t1 := fun args mm => table_at (l := tab_among_ok) (f := 130) (args := args) (m := mm) rfl
 refine fun_ok mixed hC Tryz.func132 rfl kpAmong false rfl fun args m r h => ?_
 unfold amongG at h
 split at h
 ·rename_i g rows s
  split at h
  ·rename_i l hl0
   obtain rfl := unS_some hl0
   split at h
   ·rename_i hl
    simp only [Option.some.injEq] at h
    subst h
    refine ⟨Nat.le_of_ble_eq_true rfl, ?_⟩
    refine en ?_
    have f1 := fun mm => placeG_eq (m := mm) (g := .no) (s := s) hl
    have f2 := place_in l s
    refine go1 (jn @t1 (jn @f1 @f2)) ?_
    exact leaves_v rfl rfl
   ·cases h
  ·cases h
 ·cases h
end
end Go.Proofs.YtojaokhkbmiidaaGreat.Ev
