/- Recipes: what stands behind the phases. -/
import Derived.Test.YtojaokhkbmiidaaMbpok5
import Derived.Test.YtojaokhkbmiidaaMbpok1
import Derived.Test.YtojaokhkbmiidaaMa2
namespace Go.Proofs.Ytojaokhkbmiidaa.Ev
open Go Go.Proofs
set_option maxRecDepth 10000
set_option maxHeartbeats 8000000
set_option linter.unusedVariables false
set_option linter.unusedSimpArgs false
attribute [local irreducible] Next Inside Runs Ops table
attribute [local irreducible] XRuns XOps XNext XInside XAny XStep
def kpPCount : Nat → Option (List Nat) := fun
  | 0 => some [0]
  | 1 => some [2]
  | _ => none
theorem pcount_ok : FunOk Try.prog 77 (upTo 1099511627776) := by
  have hC := table_ok (P := Try.prog) (l := []) table_nil
  refine fun_ok mixed hC Try.func77 rfl kpPCount false rfl fun args m r h => ?_
  unfold upTo at h
  split at h
  · rename_i x
    simp only [Option.some.injEq] at h
    subst h
    refine ⟨Nat.le_of_ble_eq_true rfl, ?_⟩
    simp only [entry, List.length_cons, List.length_nil, List.range, List.range.loop, List.zip_cons_cons, List.zip_nil_right]
    have fin : ∀ (e : Env) (b : Bool), Ev.get e 2 = .v (.bool b) → b = decide (0 ≤ x ∧ x ≤ 1099511627776) → Leaves Try.prog false Try.f77 m (.v (.bool (decide (0 ≤ x ∧ x ≤ 1099511627776))), m) .ret e m := fun e b h1 h2 => by rw [← h2]; exact leaves_v rfl h1
    repeat' (first | (first | refine runs_seq ?_ | refine runs_block ?_ | refine next_normal ?_ | refine inside_normal ?_ | refine next_exit ?_ | refine inside_exit ?_ | refine inside_other (by decide) ?_ | refine next_ret ?_ | refine inside_ret ?_ | refine runs_ops_kept ?_ | refine runs_skip ?_ | refine runs_exit ?_ | refine runs_ret ?_ | ((first | refine' ops_op rfl rfl (by decide) ?_ ?_ ?_ | refine' ops_yes rfl rfl (by simp only [Ev.get, reduceIte, Nat.reduceEqDiff]; first | done | rfl) rfl (by decide) ?_ ?_ ?_ | refine' ops_op0 rfl rfl ?_ ?_ ?_); rotate_left 2; (focus (simp only [evOp, opd, constAV, constCell, Ev.get, reduceIte, Nat.reduceEqDiff, reduceCtorEq, evBinN, nilCmp, evBin, evInt, evUn, evConvert, evBuiltin, evLen, evField, evPart, tStr, tInt, tElem, tArr, tBool, tAgg, tField, Try.underlying9, Try.underlying3, Try.underlying4, Try.underlying5, Try.underlying2, List.zipWith, Option.map_some, Option.map_none, List.length_cons, List.length_nil, ne_eq, Int.reduceEq, not_false_eq_true, and_self, and_true, true_and, szStr, szInt, Option.getD_some, isNil, evStr, evCall, List.size_toArray, List.append_nil, List.nil_append, List.map_cons, List.map_nil, argAV, argCell, List.toList_toArray, fieldTy]; first | done | rfl)); exact (fun h => by first | rfl | (simp at h; done) | exact absurd (Bool.and_eq_true_iff.mp h).2 (by decide))) | refine ops_no rfl rfl (by simp only [Ev.get, reduceIte, Nat.reduceEqDiff]; first | done | rfl) (by decide) rfl (by decide) ?_ | refine ops_off rfl rfl rfl rfl (by decide) ?_ | (refine ops_nil ?_; intro e2 h2; simp only [restr, kpPCount, List.map_cons, List.map_nil, Ev.get, reduceIte, Nat.reduceEqDiff] at h2; subst h2)) | (refine ops_here ?_; (fail_if_success (refine ops_case (B := true) rfl rfl rfl ?_ ?_)); (fail_if_success (refine ops_case (B := false) rfl rfl rfl ?_ ?_)); refine ops_case rfl rfl rfl (fun hB => ?_) (fun hB => ?_) <;> rw [hB]) | (refine runs_here ?_; refine runs_cond rfl (fun hc => ?_) (fun hc => ?_) <;> first | (cases hc; done) | skip))
    all_goals exact fin _ _ rfl (by rw [Bool.eq_iff_iff]; simp only [decide_eq_true_eq, decide_eq_false_iff_not, Bool.false_eq_true, false_iff, true_iff] at *; omega)
  · cases h
def kpPValue : Nat → Option (List Nat) := fun
  | 0 => some [0]
  | 1 => some [2]
  | _ => none
theorem pvalue_ok : FunOk Try.prog 110 (upTo 4503599627370496) := by
  have hC := table_ok (P := Try.prog) (l := []) table_nil
  refine fun_ok mixed hC Try.func110 rfl kpPValue false rfl fun args m r h => ?_
  unfold upTo at h
  split at h
  · rename_i x
    simp only [Option.some.injEq] at h
    subst h
    refine ⟨Nat.le_of_ble_eq_true rfl, ?_⟩
    simp only [entry, List.length_cons, List.length_nil, List.range, List.range.loop, List.zip_cons_cons, List.zip_nil_right]
    have fin : ∀ (e : Env) (b : Bool), Ev.get e 2 = .v (.bool b) → b = decide (0 ≤ x ∧ x ≤ 4503599627370496) → Leaves Try.prog false Try.f110 m (.v (.bool (decide (0 ≤ x ∧ x ≤ 4503599627370496))), m) .ret e m := fun e b h1 h2 => by rw [← h2]; exact leaves_v rfl h1
    repeat' (first | (first | refine runs_seq ?_ | refine runs_block ?_ | refine next_normal ?_ | refine inside_normal ?_ | refine next_exit ?_ | refine inside_exit ?_ | refine inside_other (by decide) ?_ | refine next_ret ?_ | refine inside_ret ?_ | refine runs_ops_kept ?_ | refine runs_skip ?_ | refine runs_exit ?_ | refine runs_ret ?_ | ((first | refine' ops_op rfl rfl (by decide) ?_ ?_ ?_ | refine' ops_yes rfl rfl (by simp only [Ev.get, reduceIte, Nat.reduceEqDiff]; first | done | rfl) rfl (by decide) ?_ ?_ ?_ | refine' ops_op0 rfl rfl ?_ ?_ ?_); rotate_left 2; (focus (simp only [evOp, opd, constAV, constCell, Ev.get, reduceIte, Nat.reduceEqDiff, reduceCtorEq, evBinN, nilCmp, evBin, evInt, evUn, evConvert, evBuiltin, evLen, evField, evPart, tStr, tInt, tElem, tArr, tBool, tAgg, tField, Try.underlying9, Try.underlying3, Try.underlying4, Try.underlying5, Try.underlying2, List.zipWith, Option.map_some, Option.map_none, List.length_cons, List.length_nil, ne_eq, Int.reduceEq, not_false_eq_true, and_self, and_true, true_and, szStr, szInt, Option.getD_some, isNil, evStr, evCall, List.size_toArray, List.append_nil, List.nil_append, List.map_cons, List.map_nil, argAV, argCell, List.toList_toArray, fieldTy]; first | done | rfl)); exact (fun h => by first | rfl | (simp at h; done) | exact absurd (Bool.and_eq_true_iff.mp h).2 (by decide))) | refine ops_no rfl rfl (by simp only [Ev.get, reduceIte, Nat.reduceEqDiff]; first | done | rfl) (by decide) rfl (by decide) ?_ | refine ops_off rfl rfl rfl rfl (by decide) ?_ | (refine ops_nil ?_; intro e2 h2; simp only [restr, kpPValue, List.map_cons, List.map_nil, Ev.get, reduceIte, Nat.reduceEqDiff] at h2; subst h2)) | (refine ops_here ?_; (fail_if_success (refine ops_case (B := true) rfl rfl rfl ?_ ?_)); (fail_if_success (refine ops_case (B := false) rfl rfl rfl ?_ ?_)); refine ops_case rfl rfl rfl (fun hB => ?_) (fun hB => ?_) <;> rw [hB]) | (refine runs_here ?_; refine runs_cond rfl (fun hc => ?_) (fun hc => ?_) <;> first | (cases hc; done) | skip))
    all_goals exact fin _ _ rfl (by rw [Bool.eq_iff_iff]; simp only [decide_eq_true_eq, decide_eq_false_iff_not, Bool.false_eq_true, false_iff, true_iff] at *; omega)
  · cases h
/-! ### the parts of a recipe -/
def Rc.tp (R : Rc) : Tp := ⟨R.stopOn, R.stopMetric, R.stopMax, R.stopPatience, R.stopDelta, R.stopRel⟩
def Rc.pt (R : Rc) : Pt := ⟨R.plateauOn, R.plateauMetric, R.plateauMax, R.plateauFactor, R.plateauPatience, R.plateauCooldown, R.plateauFloor, R.plateauDelta⟩
def Rc.kp (R : Rc) : Kp := ⟨R.keepOn, R.keepMetric, R.keepMax, R.keepCount⟩
def Rc.em (R : Rc) : Em := ⟨R.emaOn, R.emaDecay⟩
def Rc.sw (R : Rc) : Sw := ⟨R.swaOn, R.swaFromU, R.swaFromN, R.swaEvery⟩
def countB (x : Int) : Bool := decide (0 ≤ x ∧ x ≤ 1099511627776)
def valueB (x : Int) : Bool := decide (0 ≤ x ∧ x ≤ 4503599627370496)
def tpEq (x y : Tp) : Bool := (x.On == y.On) && ((x.Metric == y.Metric) && ((x.Max == y.Max) && ((x.Patience == y.Patience) && ((x.Delta == y.Delta) && ((x.Rel == y.Rel) && true)))))
def ptEq (x y : Pt) : Bool := (x.On == y.On) && ((x.Metric == y.Metric) && ((x.Max == y.Max) && ((x.Factor == y.Factor) && ((x.Patience == y.Patience) && ((x.Cooldown == y.Cooldown) && ((x.Floor == y.Floor) && ((x.Delta == y.Delta) && true)))))))
def kpEq (x y : Kp) : Bool := (x.On == y.On) && ((x.Metric == y.Metric) && ((x.Max == y.Max) && ((x.Count == y.Count) && true)))
def emEq (x y : Em) : Bool := (x.On == y.On) && ((x.Decay == y.Decay) && true)
def swEq (x y : Sw) : Bool := (x.On == y.On) && (((x.FromU == y.FromU) && ((x.FromN == y.FromN) && true)) && ((x.Every == y.Every) && true))
theorem eqTp' {x y : Tp} : eqTy Try.prog 8 65 (.agg x.row) (.agg y.row) = some (tpEq x y) := eqTp
theorem eqPt' {x y : Pt} : eqTy Try.prog 8 67 (.agg x.row) (.agg y.row) = some (ptEq x y) := eqPt
theorem eqKp' {x y : Kp} : eqTy Try.prog 8 69 (.agg x.row) (.agg y.row) = some (kpEq x y) := eqKp
theorem eqEm' {x y : Em} : eqTy Try.prog 8 71 (.agg x.row) (.agg y.row) = some (emEq x y) := eqEm
theorem eqSw' {x y : Sw} : eqTy Try.prog 8 73 (.agg x.row) (.agg y.row) = some (swEq x y) := eqSw
def Tp.bad (x : Tp) : Bool := x.On && !(isName x.Metric && (countB x.Patience && valueB x.Delta))
def Pt.bad (x : Pt) : Bool := x.On && !(isName x.Metric && (valueB x.Factor && (countB x.Patience && (countB x.Cooldown && (valueB x.Floor && valueB x.Delta)))))
def Kp.bad (x : Kp) : Bool := x.On && !(isName x.Metric && countB x.Count)
def Em.bad (x : Em) : Bool := x.On && !valueB x.Decay
def Sw.bad (x : Sw) : Bool := x.On && (!decide (lenMay x.FromU x.FromN) || (x.FromU == 3 || !countB x.Every))
def Tp.may (x : Tp) : Bool := !x.bad && (x.On || tpEq x tp0)
def Pt.may (x : Pt) : Bool := !x.bad && (x.On || ptEq x pt0)
def Kp.may (x : Kp) : Bool := !x.bad && (x.On || kpEq x kp0)
def Em.may (x : Em) : Bool := !x.bad && (x.On || emEq x em0)
def Sw.may (x : Sw) : Bool := !x.bad && (x.On || swEq x sw0)
def Rc.endsMay (R : Rc) : Bool := R.tp.may && (R.pt.may && (R.kp.may && (R.em.may && R.sw.may)))
def endsRG : List AV → Mem → Option (AV × Mem)
  | [.agg cs], m =>
    match unRc cs with
    | some R => if R.stopMetric.size ≤ 9223372036854775807 ∧ R.plateauMetric.size ≤ 9223372036854775807 ∧ R.keepMetric.size ≤ 9223372036854775807 then some (.v (.bool R.endsMay), m) else none
    | none => none
  | _, _ => none
theorem runs_rcut {P : Program} {call : CallF} {nt : Nat} {kp : Nat → Option (List Nat)} {c : Code} {e : Env} {m : Mem} {Q : Ex → Env → Mem → Prop} (E : Env) (M : Mem) (h : Runs P call nt kp c e m fun x e2 m2 => x = .normal ∧ e2 = E ∧ m2 = M) (hk : Q .normal E M) : Runs P call nt kp c e m Q :=
  runs_mono h fun x e2 m2 ⟨h1, h2, h3⟩ => by rw [h1, h2, h3]; exact hk
def setv (m : Mem) (q : Nat) (cs : List AV) : Mem := { m with vars := m.vars.set q (some cs) }
theorem setv_self {m : Mem} {q : Nat} {cs old : List AV} (h : m.var q = some old) : (setv m q cs).var q = some cs := by
  apply var_of
  show (m.vars.set q _)[q]? = _
  rw [List.getElem?_set_self (var_lt h).1]
theorem setv_ne {m : Mem} {q r : Nat} {cs old : List AV} (hq : r ≠ q) (h : m.var r = some old) : (setv m q cs).var r = some old := var_set_ne hq h
theorem above_setv {m m' : Mem} {q : Nat} {cs : List AV} (h : Above m m') (hq : m.vars.length ≤ q) : Above m (setv m' q cs) := by
  obtain ⟨L, rfl⟩ := h
  refine ⟨L.set (q - m.vars.length) (some cs), ?_⟩
  unfold setv
  simp only [List.set_append_right _ _ hq]
theorem store_var {P : Program} {m : Mem} {t : TypeId} {q : Nat} {x : AV} {old cs : List AV} (hc : cellsOf x = some cs) (ht : tSize P t = some cs.length) (hv : m.var q = some old) (ho : old.length = cs.length) (hr : cs.all (refLe q) = true) : evStore P m t (.ptr q 0) x = some (setv m q cs) := by
  unfold evStore
  simp only [hc, ht, hv]
  rw [if_pos ⟨trivial, by omega, hr⟩]
  have : splice old 0 cs = cs := by
    unfold splice
    simp [ho]
  rw [this]
  rfl
theorem push_len {m : Mem} {cs : List AV} : (m.push cs).vars.length = m.vars.length + 1 := by simp [Mem.push]
theorem newVar_hole {m : Mem} {p : Nat} {cs : List AV} (h : cs.all (refLe p) = true) (hp : m.vars[p]? = some none) : newVar m p cs = some (setv m p cs) := by
  have hlt : p < m.vars.length := (List.getElem?_eq_some_iff.1 hp).1
  unfold newVar
  rw [if_pos h, if_neg (by omega), hp]
  rfl
theorem setv_app {V L : List (Option (List AV))} {T : List Nat} {q : Nat} {cs : List AV} : setv { vars := V ++ L, toks := T } (V.length + q) cs = { vars := V ++ L.set q (some cs), toks := T } := by
  unfold setv
  simp only [List.set_append_right _ _ (Nat.le_add_right V.length q), Nat.add_sub_cancel_left]
def slotS (a b : Bool) (z r : List AV) : Option (List AV) := if a then some (if b then r else z) else none
def kpEndsR : Nat → Option (List Nat) := fun
  | 0 => some [1]
  | 1 => some [1, 3, 4, 5]
  | 2 => some [1, 3, 4, 5, 12]
  | 3 => some [1, 3, 4, 5, 12]
  | 5 => some [1, 4, 5, 39]
  | 6 => some [1, 4, 5, 39]
  | 8 => some [1, 5, 81]
  | 9 => some [1, 5, 81]
  | 11 => some [1, 103]
  | 12 => some [1, 103]
  | 14 => some [1, 124]
  | _ => some [2]
theorem endsR_ok : FunOk Try.prog 82 endsRG := by
  have hC := table_ok (P := Try.prog) (l := [(106, isNameG), (77, upTo 1099511627776), (110, upTo 4503599627370496), (76, lenCheckG)]) (table_more is_ok (table_more pcount_ok (table_more pvalue_ok (table_more lenCheck_ok table_nil))))
  have t1 := fun args mm => table_at (l := [(106, isNameG), (77, upTo 1099511627776), (110, upTo 4503599627370496), (76, lenCheckG)]) (f := 106) (args := args) (m := mm) rfl
  have t2 := fun args mm => table_at (l := [(106, isNameG), (77, upTo 1099511627776), (110, upTo 4503599627370496), (76, lenCheckG)]) (f := 77) (args := args) (m := mm) rfl
  have t3 := fun args mm => table_at (l := [(106, isNameG), (77, upTo 1099511627776), (110, upTo 4503599627370496), (76, lenCheckG)]) (f := 110) (args := args) (m := mm) rfl
  have t4 := fun args mm => table_at (l := [(106, isNameG), (77, upTo 1099511627776), (110, upTo 4503599627370496), (76, lenCheckG)]) (f := 76) (args := args) (m := mm) rfl
  refine fun_okX Try.func82 rfl false rfl fun args m r h => ?_
  unfold endsRG at h
  split at h
  · rename_i cs
    split at h
    · rename_i R hR
      obtain rfl := unRc_some hR
      split at h
      · rename_i hs
        simp only [Option.some.injEq] at h
        subst h
        refine ⟨Nat.le_of_ble_eq_true rfl, fun φ w => ?_⟩
        simp only [entry, List.length_cons, List.length_nil, List.range, List.range.loop, List.zip_cons_cons, List.zip_nil_right]
        repeat (first | refine x_seq ?_ | refine x_block ?_ | refine xn_normal ?_ | refine xi_normal ?_ | refine xn_exit ?_ | refine xi_exit ?_ | refine xi_other (by decide) ?_ | refine xn_ret ?_ | refine xi_ret ?_ | refine x_skip ?_ | refine x_exit ?_ | refine x_ret ?_)
        refine x_region (kp := kpEndsR) mixed hC ?_
        repeat (first | refine runs_seq ?_ | refine runs_block ?_ | refine next_normal ?_ | refine inside_normal ?_ | refine next_exit ?_ | refine inside_exit ?_ | refine inside_other (by decide) ?_ | refine next_ret ?_ | refine inside_ret ?_ | refine runs_ops_kept ?_ | refine runs_skip ?_ | refine runs_exit ?_ | refine runs_ret ?_ | ((first | refine' ops_op rfl rfl (by decide) ?_ ?_ ?_ | refine' ops_yes rfl rfl (by simp only [Ev.get, reduceIte, Nat.reduceEqDiff, iv]; first | done | rfl) rfl (by decide) ?_ ?_ ?_ | refine' ops_op0 rfl rfl ?_ ?_ ?_); rotate_left 2; (focus (simp only [evOp, opd, constAV, constCell, Ev.get, reduceIte, Nat.reduceEqDiff, reduceCtorEq, evBinN, nilCmp, evBin, evInt, evUn, evConvert, evBuiltin, evLen, evField, evPart, tStr, tInt, tElem, tArr, tBool, tAgg, tField, Try.underlying9, Try.underlying3, Try.underlying4, Try.underlying5, Try.underlying21, Try.underlying121, Try.underlying38, Try.underlying25, Try.underlying135, Try.underlying33, Try.underlying2, Try.underlying147, Try.underlying22, Try.underlying56, Try.underlying54, List.zipWith, Option.map_some, Option.map_none, List.length_cons, List.length_nil, ne_eq, Int.reduceEq, not_false_eq_true, and_self, and_true, true_and, szStr, szInt, Option.getD_some, isNil, evStr, iv, fpRcStop, fpRcPlateau, fpRcKeep, cellsRc, newRc, zrTp, zoTp, znTp, zrPt, zoPt, znPt, zrKp, zoKp, znKp, fpTpOn, fpTpMetric, fpTpPatience, fpTpDelta, mk0Tp, niTp, eqTp', fpPtOn, fpPtMetric, fpPtFactor, fpPtPatience, fpPtCooldown, fpPtFloor, fpPtDelta, mk0Pt, niPt, eqPt', fpKpOn, fpKpMetric, fpKpCount, mk0Kp, niKp, eqKp', fpRcEma, fpRcEmaOn, fpRcEmaDecay, mk0Em, niEm, eqEm', fpRcSwa, fpRcSwaOn, fpRcSwaFrom, fpRcSwaFromU, fpRcSwaEvery, mk0Sw, niSw, eqSw', evCall, List.size_toArray, List.append_nil, List.nil_append, List.map_cons, List.map_nil, argAV, argCell, List.toList_toArray, fieldTy]; first | done | rfl)); exact (fun h => by first | rfl | (simp at h; done) | exact absurd (Bool.and_eq_true_iff.mp h).2 (by decide))) | refine ops_no rfl rfl (by simp only [Ev.get, reduceIte, Nat.reduceEqDiff, iv]; first | done | rfl) (by decide) rfl (by decide) ?_ | refine ops_off rfl rfl rfl rfl (by decide) ?_ | (refine ops_nil ?_; intro e2 h2; simp only [restr, kpEndsR, List.map_cons, List.map_nil, Ev.get, reduceIte, Nat.reduceEqDiff] at h2; subst h2))
        have hA := above_push (cs := R.row) (above_self m)
        have hv1 : (m.push R.row).var m.vars.length = some R.row := push_var
        have hlt : m.vars.length < (m.push R.row).vars.length := by rw [push_len]; omega
        generalize m.push R.row = m1 at hA hv1 hlt
        generalize hn : m.vars.length = n1 at hv1 hlt
        repeat (first | refine x_seq ?_ | refine x_block ?_ | refine xn_normal ?_ | refine xi_normal ?_ | refine xn_exit ?_ | refine xi_exit ?_ | refine xi_other (by decide) ?_ | refine xn_ret ?_ | refine xi_ret ?_ | refine x_skip ?_ | refine x_exit ?_ | refine x_ret ?_)
        refine x_icut (fun e m2 F => ∃ n3 n4 n5, Above m m2 ∧ m2.var n1 = some R.row ∧ m2.var n3 = some R.tp.row ∧ m2.var n4 = some R.pt.row ∧ m2.var n5 = some R.kp.row ∧ e = [(1, .ptr n1 0), (3, .ptr n3 0), (4, .ptr n4 0), (5, .ptr n5 0)]) ?_ ?_
        · let MS : (Nat → Bool) → Mem := fun S => { vars := m1.vars ++ [slotS (S 6) (S 9) zeroTp R.tp.row, slotS (S 7) (S 10) zeroPt R.pt.row, slotS (S 8) (S 11) zeroKp R.kp.row], toks := m1.toks }
          have hMv : ∀ S, (MS S).var n1 = some R.row := fun S => by
            apply var_of
            show (m1.vars ++ _)[n1]? = _
            rw [List.getElem?_append_left hlt, (var_lt hv1).2]
          have hQ : ∀ S (q : Nat), (MS S).var (m1.vars.length + q) = ([slotS (S 6) (S 9) zeroTp R.tp.row, slotS (S 7) (S 10) zeroPt R.pt.row, slotS (S 8) (S 11) zeroKp R.kp.row][q]?).join := fun S q => by
            show ((m1.vars ++ _)[m1.vars.length + q]?).join = _
            rw [List.getElem?_append_right (by omega), Nat.add_sub_cancel_left]
          refine x_sets0 (l2 := kpEndsR 1) mixed hC (by decide +kernel) (by decide +kernel) (fun i => [.ptr n1 8, .agg R.tp.row, .ptr n1 14, .agg R.pt.row, .ptr n1 22, .agg R.kp.row, .ptr (m1.vars.length + 0) 0, .ptr (m1.vars.length + 1) 0, .ptr (m1.vars.length + 2) 0, .v (.tuple #[]), .v (.tuple #[]), .v (.tuple #[])].getD i .junk) MS
            (m' := { vars := m1.vars ++ [some R.tp.row, some R.pt.row, some R.kp.row], toks := m1.toks }) ?_ rfl ?_ ?_ ?_
          · intro r
            show (m1.vars[r]?).join = ((m1.vars ++ [none, none, none])[r]?).join
            by_cases h : r < m1.vars.length
            · rw [List.getElem?_append_left h]
            · rw [List.getElem?_append_right (by omega), List.getElem?_eq_none (by omega)]
              match r - m1.vars.length with
              | 0 => rfl
              | 1 => rfl
              | 2 => rfl
              | n + 3 => rfl
          · intro S i o ho hc hi hr
            match i, ho with
            | 0, ho =>
              cases ho
              refine .inl ?_
              show _ = some (_, MS S)
              simp only [evOp, opd, constAV, constCell, Ev.get, reduceIte, Nat.reduceEqDiff, reduceCtorEq, evBinN, nilCmp, evBin, evInt, evUn, evConvert, evBuiltin, evLen, evField, evPart, tStr, tInt, tElem, tArr, tBool, tAgg, tField, Try.underlying9, Try.underlying3, Try.underlying4, Try.underlying5, Try.underlying21, Try.underlying121, Try.underlying38, Try.underlying25, Try.underlying135, Try.underlying33, Try.underlying2, Try.underlying147, Try.underlying22, Try.underlying56, Try.underlying54, List.zipWith, Option.map_some, Option.map_none, List.length_cons, List.length_nil, ne_eq, Int.reduceEq, not_false_eq_true, and_self, and_true, true_and, szStr, szInt, Option.getD_some, isNil, evStr, iv, fpRcStop, fpRcPlateau, fpRcKeep, cellsRc, newRc, zrTp, zoTp, znTp, zrPt, zoPt, znPt, zrKp, zoKp, znKp, fpTpOn, fpTpMetric, fpTpPatience, fpTpDelta, mk0Tp, niTp, eqTp', fpPtOn, fpPtMetric, fpPtFactor, fpPtPatience, fpPtCooldown, fpPtFloor, fpPtDelta, mk0Pt, niPt, eqPt', fpKpOn, fpKpMetric, fpKpCount, mk0Kp, niKp, eqKp', fpRcEma, fpRcEmaOn, fpRcEmaDecay, mk0Em, niEm, eqEm', fpRcSwa, fpRcSwaOn, fpRcSwaFrom, fpRcSwaFromU, fpRcSwaEvery, mk0Sw, niSw, eqSw', envOf, List.getElem?_cons_zero, List.getElem?_cons_succ, Option.bind_some, List.getD_cons_zero, List.getD_cons_succ, List.getElem?_toArray]
              try rfl
            | 1, ho =>
              cases ho
              refine .inl ?_
              show _ = some (_, MS S)
              have l1 := lpRcStop (hMv S)
              simp only [evOp, opd, constAV, constCell, Ev.get, reduceIte, Nat.reduceEqDiff, reduceCtorEq, evBinN, nilCmp, evBin, evInt, evUn, evConvert, evBuiltin, evLen, evField, evPart, tStr, tInt, tElem, tArr, tBool, tAgg, tField, Try.underlying9, Try.underlying3, Try.underlying4, Try.underlying5, Try.underlying21, Try.underlying121, Try.underlying38, Try.underlying25, Try.underlying135, Try.underlying33, Try.underlying2, Try.underlying147, Try.underlying22, Try.underlying56, Try.underlying54, List.zipWith, Option.map_some, Option.map_none, List.length_cons, List.length_nil, ne_eq, Int.reduceEq, not_false_eq_true, and_self, and_true, true_and, szStr, szInt, Option.getD_some, isNil, evStr, iv, fpRcStop, fpRcPlateau, fpRcKeep, cellsRc, newRc, zrTp, zoTp, znTp, zrPt, zoPt, znPt, zrKp, zoKp, znKp, fpTpOn, fpTpMetric, fpTpPatience, fpTpDelta, mk0Tp, niTp, eqTp', fpPtOn, fpPtMetric, fpPtFactor, fpPtPatience, fpPtCooldown, fpPtFloor, fpPtDelta, mk0Pt, niPt, eqPt', fpKpOn, fpKpMetric, fpKpCount, mk0Kp, niKp, eqKp', fpRcEma, fpRcEmaOn, fpRcEmaDecay, mk0Em, niEm, eqEm', fpRcSwa, fpRcSwaOn, fpRcSwaFrom, fpRcSwaFromU, fpRcSwaEvery, mk0Sw, niSw, eqSw', envOf, List.getElem?_cons_zero, List.getElem?_cons_succ, Option.bind_some, List.getD_cons_zero, List.getD_cons_succ, List.getElem?_toArray, l1]
              try rfl
            | 2, ho =>
              cases ho
              refine .inl ?_
              show _ = some (_, MS S)
              simp only [evOp, opd, constAV, constCell, Ev.get, reduceIte, Nat.reduceEqDiff, reduceCtorEq, evBinN, nilCmp, evBin, evInt, evUn, evConvert, evBuiltin, evLen, evField, evPart, tStr, tInt, tElem, tArr, tBool, tAgg, tField, Try.underlying9, Try.underlying3, Try.underlying4, Try.underlying5, Try.underlying21, Try.underlying121, Try.underlying38, Try.underlying25, Try.underlying135, Try.underlying33, Try.underlying2, Try.underlying147, Try.underlying22, Try.underlying56, Try.underlying54, List.zipWith, Option.map_some, Option.map_none, List.length_cons, List.length_nil, ne_eq, Int.reduceEq, not_false_eq_true, and_self, and_true, true_and, szStr, szInt, Option.getD_some, isNil, evStr, iv, fpRcStop, fpRcPlateau, fpRcKeep, cellsRc, newRc, zrTp, zoTp, znTp, zrPt, zoPt, znPt, zrKp, zoKp, znKp, fpTpOn, fpTpMetric, fpTpPatience, fpTpDelta, mk0Tp, niTp, eqTp', fpPtOn, fpPtMetric, fpPtFactor, fpPtPatience, fpPtCooldown, fpPtFloor, fpPtDelta, mk0Pt, niPt, eqPt', fpKpOn, fpKpMetric, fpKpCount, mk0Kp, niKp, eqKp', fpRcEma, fpRcEmaOn, fpRcEmaDecay, mk0Em, niEm, eqEm', fpRcSwa, fpRcSwaOn, fpRcSwaFrom, fpRcSwaFromU, fpRcSwaEvery, mk0Sw, niSw, eqSw', envOf, List.getElem?_cons_zero, List.getElem?_cons_succ, Option.bind_some, List.getD_cons_zero, List.getD_cons_succ, List.getElem?_toArray]
              try rfl
            | 3, ho =>
              cases ho
              refine .inl ?_
              show _ = some (_, MS S)
              have l1 := lpRcPlateau (hMv S)
              simp only [evOp, opd, constAV, constCell, Ev.get, reduceIte, Nat.reduceEqDiff, reduceCtorEq, evBinN, nilCmp, evBin, evInt, evUn, evConvert, evBuiltin, evLen, evField, evPart, tStr, tInt, tElem, tArr, tBool, tAgg, tField, Try.underlying9, Try.underlying3, Try.underlying4, Try.underlying5, Try.underlying21, Try.underlying121, Try.underlying38, Try.underlying25, Try.underlying135, Try.underlying33, Try.underlying2, Try.underlying147, Try.underlying22, Try.underlying56, Try.underlying54, List.zipWith, Option.map_some, Option.map_none, List.length_cons, List.length_nil, ne_eq, Int.reduceEq, not_false_eq_true, and_self, and_true, true_and, szStr, szInt, Option.getD_some, isNil, evStr, iv, fpRcStop, fpRcPlateau, fpRcKeep, cellsRc, newRc, zrTp, zoTp, znTp, zrPt, zoPt, znPt, zrKp, zoKp, znKp, fpTpOn, fpTpMetric, fpTpPatience, fpTpDelta, mk0Tp, niTp, eqTp', fpPtOn, fpPtMetric, fpPtFactor, fpPtPatience, fpPtCooldown, fpPtFloor, fpPtDelta, mk0Pt, niPt, eqPt', fpKpOn, fpKpMetric, fpKpCount, mk0Kp, niKp, eqKp', fpRcEma, fpRcEmaOn, fpRcEmaDecay, mk0Em, niEm, eqEm', fpRcSwa, fpRcSwaOn, fpRcSwaFrom, fpRcSwaFromU, fpRcSwaEvery, mk0Sw, niSw, eqSw', envOf, List.getElem?_cons_zero, List.getElem?_cons_succ, Option.bind_some, List.getD_cons_zero, List.getD_cons_succ, List.getElem?_toArray, l1]
              try rfl
            | 4, ho =>
              cases ho
              refine .inl ?_
              show _ = some (_, MS S)
              simp only [evOp, opd, constAV, constCell, Ev.get, reduceIte, Nat.reduceEqDiff, reduceCtorEq, evBinN, nilCmp, evBin, evInt, evUn, evConvert, evBuiltin, evLen, evField, evPart, tStr, tInt, tElem, tArr, tBool, tAgg, tField, Try.underlying9, Try.underlying3, Try.underlying4, Try.underlying5, Try.underlying21, Try.underlying121, Try.underlying38, Try.underlying25, Try.underlying135, Try.underlying33, Try.underlying2, Try.underlying147, Try.underlying22, Try.underlying56, Try.underlying54, List.zipWith, Option.map_some, Option.map_none, List.length_cons, List.length_nil, ne_eq, Int.reduceEq, not_false_eq_true, and_self, and_true, true_and, szStr, szInt, Option.getD_some, isNil, evStr, iv, fpRcStop, fpRcPlateau, fpRcKeep, cellsRc, newRc, zrTp, zoTp, znTp, zrPt, zoPt, znPt, zrKp, zoKp, znKp, fpTpOn, fpTpMetric, fpTpPatience, fpTpDelta, mk0Tp, niTp, eqTp', fpPtOn, fpPtMetric, fpPtFactor, fpPtPatience, fpPtCooldown, fpPtFloor, fpPtDelta, mk0Pt, niPt, eqPt', fpKpOn, fpKpMetric, fpKpCount, mk0Kp, niKp, eqKp', fpRcEma, fpRcEmaOn, fpRcEmaDecay, mk0Em, niEm, eqEm', fpRcSwa, fpRcSwaOn, fpRcSwaFrom, fpRcSwaFromU, fpRcSwaEvery, mk0Sw, niSw, eqSw', envOf, List.getElem?_cons_zero, List.getElem?_cons_succ, Option.bind_some, List.getD_cons_zero, List.getD_cons_succ, List.getElem?_toArray]
              try rfl
            | 5, ho =>
              cases ho
              refine .inl ?_
              show _ = some (_, MS S)
              have l1 := lpRcKeep (hMv S)
              simp only [evOp, opd, constAV, constCell, Ev.get, reduceIte, Nat.reduceEqDiff, reduceCtorEq, evBinN, nilCmp, evBin, evInt, evUn, evConvert, evBuiltin, evLen, evField, evPart, tStr, tInt, tElem, tArr, tBool, tAgg, tField, Try.underlying9, Try.underlying3, Try.underlying4, Try.underlying5, Try.underlying21, Try.underlying121, Try.underlying38, Try.underlying25, Try.underlying135, Try.underlying33, Try.underlying2, Try.underlying147, Try.underlying22, Try.underlying56, Try.underlying54, List.zipWith, Option.map_some, Option.map_none, List.length_cons, List.length_nil, ne_eq, Int.reduceEq, not_false_eq_true, and_self, and_true, true_and, szStr, szInt, Option.getD_some, isNil, evStr, iv, fpRcStop, fpRcPlateau, fpRcKeep, cellsRc, newRc, zrTp, zoTp, znTp, zrPt, zoPt, znPt, zrKp, zoKp, znKp, fpTpOn, fpTpMetric, fpTpPatience, fpTpDelta, mk0Tp, niTp, eqTp', fpPtOn, fpPtMetric, fpPtFactor, fpPtPatience, fpPtCooldown, fpPtFloor, fpPtDelta, mk0Pt, niPt, eqPt', fpKpOn, fpKpMetric, fpKpCount, mk0Kp, niKp, eqKp', fpRcEma, fpRcEmaOn, fpRcEmaDecay, mk0Em, niEm, eqEm', fpRcSwa, fpRcSwaOn, fpRcSwaFrom, fpRcSwaFromU, fpRcSwaEvery, mk0Sw, niSw, eqSw', envOf, List.getElem?_cons_zero, List.getElem?_cons_succ, Option.bind_some, List.getD_cons_zero, List.getD_cons_succ, List.getElem?_toArray, l1]
              try rfl
            | 6, ho =>
              cases ho
              have h9 : S 9 = false := by
                cases h : S 9 with
                | false => rfl
                | true =>
                  have := hc 9 _ rfl h ⟨6, .data⟩ (by simp) rfl
                  rw [this] at hi
                  cases hi
              refine .inr ⟨_, zeroTp, m1.vars.length + 0, rfl, zrTp, zoTp, ?_, rfl⟩
              rw [newVar_hole rfl (by show (m1.vars ++ _)[m1.vars.length + 0]? = _; rw [List.getElem?_append_right (by omega), Nat.add_sub_cancel_left]; show some (slotS (S 6) (S 9) zeroTp _) = _; rw [hi]; rfl)]
              show some (setv { vars := _ ++ _, toks := _ } _ _) = _
              rw [setv_app]
              show some ({ vars := _ ++ [_, _, _], toks := _ } : Mem) = some { vars := _ ++ [_, _, _], toks := _ }
              simp only [ins, slotS, h9]
              rfl
            | 7, ho =>
              cases ho
              have h9 : S 10 = false := by
                cases h : S 10 with
                | false => rfl
                | true =>
                  have := hc 10 _ rfl h ⟨7, .data⟩ (by simp) rfl
                  rw [this] at hi
                  cases hi
              refine .inr ⟨_, zeroPt, m1.vars.length + 1, rfl, zrPt, zoPt, ?_, rfl⟩
              rw [newVar_hole rfl (by show (m1.vars ++ _)[m1.vars.length + 1]? = _; rw [List.getElem?_append_right (by omega), Nat.add_sub_cancel_left]; show some (slotS (S 7) (S 10) zeroPt _) = _; rw [hi]; rfl)]
              show some (setv { vars := _ ++ _, toks := _ } _ _) = _
              rw [setv_app]
              show some ({ vars := _ ++ [_, _, _], toks := _ } : Mem) = some { vars := _ ++ [_, _, _], toks := _ }
              simp only [ins, slotS, h9]
              rfl
            | 8, ho =>
              cases ho
              have h9 : S 11 = false := by
                cases h : S 11 with
                | false => rfl
                | true =>
                  have := hc 11 _ rfl h ⟨8, .data⟩ (by simp) rfl
                  rw [this] at hi
                  cases hi
              refine .inr ⟨_, zeroKp, m1.vars.length + 2, rfl, zrKp, zoKp, ?_, rfl⟩
              rw [newVar_hole rfl (by show (m1.vars ++ _)[m1.vars.length + 2]? = _; rw [List.getElem?_append_right (by omega), Nat.add_sub_cancel_left]; show some (slotS (S 8) (S 11) zeroKp _) = _; rw [hi]; rfl)]
              show some (setv { vars := _ ++ _, toks := _ } _ _) = _
              rw [setv_app]
              show some ({ vars := _ ++ [_, _, _], toks := _ } : Mem) = some { vars := _ ++ [_, _, _], toks := _ }
              simp only [ins, slotS, h9]
              rfl
            | 9, ho =>
              cases ho
              have h6 : S 6 = true := hr ⟨6, .data⟩ (by simp) rfl
              refine .inl ?_
              have hv := hQ S 0
              have hs : ([slotS (S 6) (S 9) zeroTp R.tp.row, slotS (S 7) (S 10) zeroPt R.pt.row, slotS (S 8) (S 11) zeroKp R.kp.row][0]?).join = some zeroTp := by
                show (some (slotS (S 6) (S 9) zeroTp _)).join = _
                rw [h6, hi]
                rfl
              rw [hs] at hv
              have st := store_var (P := Try.prog) (t := 65) (x := .agg R.tp.row) (cs := R.tp.row) rfl szTp hv rfl rfl
              simp only [evOp, opd, constAV, constCell, Ev.get, reduceIte, Nat.reduceEqDiff, reduceCtorEq, evBinN, nilCmp, evBin, evInt, evUn, evConvert, evBuiltin, evLen, evField, evPart, tStr, tInt, tElem, tArr, tBool, tAgg, tField, Try.underlying9, Try.underlying3, Try.underlying4, Try.underlying5, Try.underlying21, Try.underlying121, Try.underlying38, Try.underlying25, Try.underlying135, Try.underlying33, Try.underlying2, Try.underlying147, Try.underlying22, Try.underlying56, Try.underlying54, List.zipWith, Option.map_some, Option.map_none, List.length_cons, List.length_nil, ne_eq, Int.reduceEq, not_false_eq_true, and_self, and_true, true_and, szStr, szInt, Option.getD_some, isNil, evStr, iv, fpRcStop, fpRcPlateau, fpRcKeep, cellsRc, newRc, zrTp, zoTp, znTp, zrPt, zoPt, znPt, zrKp, zoKp, znKp, fpTpOn, fpTpMetric, fpTpPatience, fpTpDelta, mk0Tp, niTp, eqTp', fpPtOn, fpPtMetric, fpPtFactor, fpPtPatience, fpPtCooldown, fpPtFloor, fpPtDelta, mk0Pt, niPt, eqPt', fpKpOn, fpKpMetric, fpKpCount, mk0Kp, niKp, eqKp', fpRcEma, fpRcEmaOn, fpRcEmaDecay, mk0Em, niEm, eqEm', fpRcSwa, fpRcSwaOn, fpRcSwaFrom, fpRcSwaFromU, fpRcSwaEvery, mk0Sw, niSw, eqSw', envOf, List.getElem?_cons_zero, List.getElem?_cons_succ, Option.bind_some, List.getD_cons_zero, List.getD_cons_succ, List.getElem?_toArray, st]
              show some (_, setv { vars := _ ++ _, toks := _ } _ _) = _
              rw [setv_app]
              show some (_, ({ vars := _ ++ [_, _, _], toks := _ } : Mem)) = some (_, { vars := _ ++ [_, _, _], toks := _ })
              simp only [ins, slotS, h6]
              rfl
            | 10, ho =>
              cases ho
              have h6 : S 7 = true := hr ⟨7, .data⟩ (by simp) rfl
              refine .inl ?_
              have hv := hQ S 1
              have hs : ([slotS (S 6) (S 9) zeroTp R.tp.row, slotS (S 7) (S 10) zeroPt R.pt.row, slotS (S 8) (S 11) zeroKp R.kp.row][1]?).join = some zeroPt := by
                show (some (slotS (S 7) (S 10) zeroPt _)).join = _
                rw [h6, hi]
                rfl
              rw [hs] at hv
              have st := store_var (P := Try.prog) (t := 67) (x := .agg R.pt.row) (cs := R.pt.row) rfl szPt hv rfl rfl
              simp only [evOp, opd, constAV, constCell, Ev.get, reduceIte, Nat.reduceEqDiff, reduceCtorEq, evBinN, nilCmp, evBin, evInt, evUn, evConvert, evBuiltin, evLen, evField, evPart, tStr, tInt, tElem, tArr, tBool, tAgg, tField, Try.underlying9, Try.underlying3, Try.underlying4, Try.underlying5, Try.underlying21, Try.underlying121, Try.underlying38, Try.underlying25, Try.underlying135, Try.underlying33, Try.underlying2, Try.underlying147, Try.underlying22, Try.underlying56, Try.underlying54, List.zipWith, Option.map_some, Option.map_none, List.length_cons, List.length_nil, ne_eq, Int.reduceEq, not_false_eq_true, and_self, and_true, true_and, szStr, szInt, Option.getD_some, isNil, evStr, iv, fpRcStop, fpRcPlateau, fpRcKeep, cellsRc, newRc, zrTp, zoTp, znTp, zrPt, zoPt, znPt, zrKp, zoKp, znKp, fpTpOn, fpTpMetric, fpTpPatience, fpTpDelta, mk0Tp, niTp, eqTp', fpPtOn, fpPtMetric, fpPtFactor, fpPtPatience, fpPtCooldown, fpPtFloor, fpPtDelta, mk0Pt, niPt, eqPt', fpKpOn, fpKpMetric, fpKpCount, mk0Kp, niKp, eqKp', fpRcEma, fpRcEmaOn, fpRcEmaDecay, mk0Em, niEm, eqEm', fpRcSwa, fpRcSwaOn, fpRcSwaFrom, fpRcSwaFromU, fpRcSwaEvery, mk0Sw, niSw, eqSw', envOf, List.getElem?_cons_zero, List.getElem?_cons_succ, Option.bind_some, List.getD_cons_zero, List.getD_cons_succ, List.getElem?_toArray, st]
              show some (_, setv { vars := _ ++ _, toks := _ } _ _) = _
              rw [setv_app]
              show some (_, ({ vars := _ ++ [_, _, _], toks := _ } : Mem)) = some (_, { vars := _ ++ [_, _, _], toks := _ })
              simp only [ins, slotS, h6]
              rfl
            | 11, ho =>
              cases ho
              have h6 : S 8 = true := hr ⟨8, .data⟩ (by simp) rfl
              refine .inl ?_
              have hv := hQ S 2
              have hs : ([slotS (S 6) (S 9) zeroTp R.tp.row, slotS (S 7) (S 10) zeroPt R.pt.row, slotS (S 8) (S 11) zeroKp R.kp.row][2]?).join = some zeroKp := by
                show (some (slotS (S 8) (S 11) zeroKp _)).join = _
                rw [h6, hi]
                rfl
              rw [hs] at hv
              have st := store_var (P := Try.prog) (t := 69) (x := .agg R.kp.row) (cs := R.kp.row) rfl szKp hv rfl rfl
              simp only [evOp, opd, constAV, constCell, Ev.get, reduceIte, Nat.reduceEqDiff, reduceCtorEq, evBinN, nilCmp, evBin, evInt, evUn, evConvert, evBuiltin, evLen, evField, evPart, tStr, tInt, tElem, tArr, tBool, tAgg, tField, Try.underlying9, Try.underlying3, Try.underlying4, Try.underlying5, Try.underlying21, Try.underlying121, Try.underlying38, Try.underlying25, Try.underlying135, Try.underlying33, Try.underlying2, Try.underlying147, Try.underlying22, Try.underlying56, Try.underlying54, List.zipWith, Option.map_some, Option.map_none, List.length_cons, List.length_nil, ne_eq, Int.reduceEq, not_false_eq_true, and_self, and_true, true_and, szStr, szInt, Option.getD_some, isNil, evStr, iv, fpRcStop, fpRcPlateau, fpRcKeep, cellsRc, newRc, zrTp, zoTp, znTp, zrPt, zoPt, znPt, zrKp, zoKp, znKp, fpTpOn, fpTpMetric, fpTpPatience, fpTpDelta, mk0Tp, niTp, eqTp', fpPtOn, fpPtMetric, fpPtFactor, fpPtPatience, fpPtCooldown, fpPtFloor, fpPtDelta, mk0Pt, niPt, eqPt', fpKpOn, fpKpMetric, fpKpCount, mk0Kp, niKp, eqKp', fpRcEma, fpRcEmaOn, fpRcEmaDecay, mk0Em, niEm, eqEm', fpRcSwa, fpRcSwaOn, fpRcSwaFrom, fpRcSwaFromU, fpRcSwaEvery, mk0Sw, niSw, eqSw', envOf, List.getElem?_cons_zero, List.getElem?_cons_succ, Option.bind_some, List.getD_cons_zero, List.getD_cons_succ, List.getElem?_toArray, st]
              show some (_, setv { vars := _ ++ _, toks := _ } _ _) = _
              rw [setv_app]
              show some (_, ({ vars := _ ++ [_, _, _], toks := _ } : Mem)) = some (_, { vars := _ ++ [_, _, _], toks := _ })
              simp only [ins, slotS, h6]
              rfl
            | n + 12, ho => simp at ho
          · intro S hS
            have h6 := hS 6 (by decide)
            have h7 := hS 7 (by decide)
            have h8 := hS 8 (by decide)
            have h9 := hS 9 (by decide)
            have h10 := hS 10 (by decide)
            have h11 := hS 11 (by decide)
            show ({ vars := _, toks := _ } : Mem) = _
            simp only [h6, h7, h8, h9, h10, h11]
            rfl
          · rintro e2 rfl
            refine ⟨m1.vars.length + 0, m1.vars.length + 1, m1.vars.length + 2, ?_, ?_, ?_, ?_, ?_, rfl⟩
            · obtain ⟨L, rfl⟩ := hA
              exact ⟨L ++ [some R.tp.row, some R.pt.row, some R.kp.row], by simp⟩
            · exact var_of (by show (m1.vars ++ _)[n1]? = _; rw [List.getElem?_append_left hlt, (var_lt hv1).2])
            · exact var_of (by show (m1.vars ++ _)[m1.vars.length + 0]? = _; rw [List.getElem?_append_right (by omega), Nat.add_sub_cancel_left]; rfl)
            · exact var_of (by show (m1.vars ++ _)[m1.vars.length + 1]? = _; rw [List.getElem?_append_right (by omega), Nat.add_sub_cancel_left]; rfl)
            · exact var_of (by show (m1.vars ++ _)[m1.vars.length + 2]? = _; rw [List.getElem?_append_right (by omega), Nat.add_sub_cancel_left]; rfl)
        · rintro e m2 F ⟨n3, n4, n5, hA2, h1, h3, h4, h5, rfl⟩
          have fin := above_fin hA2
          have ct : ∀ x mm, upTo 1099511627776 [.v (.int .i64 x)] mm = some (.v (.bool (countB x)), mm) := fun _ _ => rfl
          have vt : ∀ x mm, upTo 4503599627370496 [.v (.int .i64 x)] mm = some (.v (.bool (valueB x)), mm) := fun _ _ => rfl
          have a1 := lpTpOn h3
          have a2 := lpTpMetric h3
          have a3 := lpTpPatience h3
          have a4 := lpTpDelta h3
          have a5 := vrTp h3
          have i1 := fun mm => isNameG_eq (s := R.tp.Metric) (m := mm) hs.1
          refine xn_normal ?_
          refine x_lift (kp := kpEndsR) mixed hC ?_
          refine runs_seq ?_
          refine runs_block ?_
          refine runs_seq ?_
          refine runs_rcut [(1, .ptr n1 0), (3, .ptr n3 0), (4, .ptr n4 0), (5, .ptr n5 0), (12, .v (.bool (!R.tp.may)))] m2 ?_ ?_
          · repeat' (first
              | (first | refine runs_seq ?_ | refine runs_block ?_ | refine next_normal ?_ | refine inside_normal ?_ | refine next_exit ?_ | refine inside_exit ?_ | refine inside_other (by decide) ?_ | refine next_ret ?_ | refine inside_ret ?_ | refine runs_ops_kept ?_ | refine runs_skip ?_ | refine runs_exit ?_ | refine runs_ret ?_ | ((first | refine' ops_op rfl rfl (by decide) ?_ ?_ ?_ | refine' ops_yes rfl rfl (by simp only [Ev.get, reduceIte, Nat.reduceEqDiff, iv, a1, a2, a3, a4, a5, t1, t2, t3, i1, ct, vt]; first | done | rfl) rfl (by decide) ?_ ?_ ?_ | refine' ops_op0 rfl rfl ?_ ?_ ?_); rotate_left 2; (focus (simp only [evOp, opd, constAV, constCell, Ev.get, reduceIte, Nat.reduceEqDiff, reduceCtorEq, evBinN, nilCmp, evBin, evInt, evUn, evConvert, evBuiltin, evLen, evField, evPart, tStr, tInt, tElem, tArr, tBool, tAgg, tField, Try.underlying9, Try.underlying3, Try.underlying4, Try.underlying5, Try.underlying21, Try.underlying121, Try.underlying38, Try.underlying25, Try.underlying135, Try.underlying33, Try.underlying2, Try.underlying147, Try.underlying22, Try.underlying56, Try.underlying54, List.zipWith, Option.map_some, Option.map_none, List.length_cons, List.length_nil, ne_eq, Int.reduceEq, not_false_eq_true, and_self, and_true, true_and, szStr, szInt, Option.getD_some, isNil, evStr, iv, fpRcStop, fpRcPlateau, fpRcKeep, cellsRc, newRc, zrTp, zoTp, znTp, zrPt, zoPt, znPt, zrKp, zoKp, znKp, fpTpOn, fpTpMetric, fpTpPatience, fpTpDelta, mk0Tp, niTp, eqTp', fpPtOn, fpPtMetric, fpPtFactor, fpPtPatience, fpPtCooldown, fpPtFloor, fpPtDelta, mk0Pt, niPt, eqPt', fpKpOn, fpKpMetric, fpKpCount, mk0Kp, niKp, eqKp', fpRcEma, fpRcEmaOn, fpRcEmaDecay, mk0Em, niEm, eqEm', fpRcSwa, fpRcSwaOn, fpRcSwaFrom, fpRcSwaFromU, fpRcSwaEvery, mk0Sw, niSw, eqSw', evCall, List.size_toArray, List.append_nil, List.nil_append, List.map_cons, List.map_nil, argAV, argCell, List.toList_toArray, fieldTy, a1, a2, a3, a4, a5, t1, t2, t3, i1, ct, vt]; first | done | rfl)); exact (fun h => by first | rfl | (simp at h; done) | exact absurd (Bool.and_eq_true_iff.mp h).2 (by decide))) | refine ops_no rfl rfl (by simp only [Ev.get, reduceIte, Nat.reduceEqDiff, iv, a1, a2, a3, a4, a5, t1, t2, t3, i1, ct, vt]; first | done | rfl) (by decide) rfl (by decide) ?_ | refine ops_off rfl rfl rfl rfl (by decide) ?_ | (refine ops_nil ?_; intro e2 h2; simp only [restr, kpEndsR, List.map_cons, List.map_nil, Ev.get, reduceIte, Nat.reduceEqDiff] at h2; subst h2))
              | (refine ops_here ?_; (fail_if_success (refine ops_case (B := true) rfl rfl rfl ?_ ?_)); (fail_if_success (refine ops_case (B := false) rfl rfl rfl ?_ ?_)); refine ops_case rfl rfl rfl (fun hB => ?_) (fun hB => ?_) <;> rw [hB])
              | (refine runs_here ?_; refine runs_cond rfl (fun hc => ?_) (fun hc => ?_) <;> first | (cases hc; done) | skip))
            all_goals refine ⟨rfl, ?_, rfl⟩
            all_goals simp_all [Tp.bad, Tp.may]
          · refine next_normal ?_
            refine runs_cond rfl (fun hc => ?_) (fun hc => ?_)
            · have e1 : R.endsMay = false := by simp only [Bool.not_eq_true'] at hc; simp [Rc.endsMay, hc]
              rw [e1]
              repeat (first | refine runs_seq ?_ | refine runs_block ?_ | refine next_normal ?_ | refine inside_normal ?_ | refine next_exit ?_ | refine inside_exit ?_ | refine inside_other (by decide) ?_ | refine next_ret ?_ | refine inside_ret ?_ | refine runs_ops_kept ?_ | refine runs_skip ?_ | refine runs_exit ?_ | refine runs_ret ?_ | ((first | refine' ops_op rfl rfl (by decide) ?_ ?_ ?_ | refine' ops_yes rfl rfl (by simp only [Ev.get, reduceIte, Nat.reduceEqDiff, iv]; first | done | rfl) rfl (by decide) ?_ ?_ ?_ | refine' ops_op0 rfl rfl ?_ ?_ ?_); rotate_left 2; (focus (simp only [evOp, opd, constAV, constCell, Ev.get, reduceIte, Nat.reduceEqDiff, reduceCtorEq, evBinN, nilCmp, evBin, evInt, evUn, evConvert, evBuiltin, evLen, evField, evPart, tStr, tInt, tElem, tArr, tBool, tAgg, tField, Try.underlying9, Try.underlying3, Try.underlying4, Try.underlying5, Try.underlying21, Try.underlying121, Try.underlying38, Try.underlying25, Try.underlying135, Try.underlying33, Try.underlying2, Try.underlying147, Try.underlying22, Try.underlying56, Try.underlying54, List.zipWith, Option.map_some, Option.map_none, List.length_cons, List.length_nil, ne_eq, Int.reduceEq, not_false_eq_true, and_self, and_true, true_and, szStr, szInt, Option.getD_some, isNil, evStr, iv, fpRcStop, fpRcPlateau, fpRcKeep, cellsRc, newRc, zrTp, zoTp, znTp, zrPt, zoPt, znPt, zrKp, zoKp, znKp, fpTpOn, fpTpMetric, fpTpPatience, fpTpDelta, mk0Tp, niTp, eqTp', fpPtOn, fpPtMetric, fpPtFactor, fpPtPatience, fpPtCooldown, fpPtFloor, fpPtDelta, mk0Pt, niPt, eqPt', fpKpOn, fpKpMetric, fpKpCount, mk0Kp, niKp, eqKp', fpRcEma, fpRcEmaOn, fpRcEmaDecay, mk0Em, niEm, eqEm', fpRcSwa, fpRcSwaOn, fpRcSwaFrom, fpRcSwaFromU, fpRcSwaEvery, mk0Sw, niSw, eqSw', evCall, List.size_toArray, List.append_nil, List.nil_append, List.map_cons, List.map_nil, argAV, argCell, List.toList_toArray, fieldTy]; first | done | rfl)); exact (fun h => by first | rfl | (simp at h; done) | exact absurd (Bool.and_eq_true_iff.mp h).2 (by decide))) | refine ops_no rfl rfl (by simp only [Ev.get, reduceIte, Nat.reduceEqDiff, iv]; first | done | rfl) (by decide) rfl (by decide) ?_ | refine ops_off rfl rfl rfl rfl (by decide) ?_ | (refine ops_nil ?_; intro e2 h2; simp only [restr, kpEndsR, List.map_cons, List.map_nil, Ev.get, reduceIte, Nat.reduceEqDiff] at h2; subst h2))
              exact leaves_fin rfl rfl fin
            have m1' : R.tp.may = true := by simpa using hc
            have b1 := lpPtOn h4
            have b2 := lpPtMetric h4
            have b3 := lpPtFactor h4
            have b4 := lpPtPatience h4
            have b5 := lpPtCooldown h4
            have b6 := lpPtFloor h4
            have b7 := lpPtDelta h4
            have b8 := vrPt h4
            have i2 := fun mm => isNameG_eq (s := R.pt.Metric) (m := mm) hs.2.1
            refine runs_seq ?_
            refine runs_rcut [(1, .ptr n1 0), (4, .ptr n4 0), (5, .ptr n5 0), (39, .v (.bool (!R.pt.may)))] m2 ?_ ?_
            · repeat' (first
                | (first | refine runs_seq ?_ | refine runs_block ?_ | refine next_normal ?_ | refine inside_normal ?_ | refine next_exit ?_ | refine inside_exit ?_ | refine inside_other (by decide) ?_ | refine next_ret ?_ | refine inside_ret ?_ | refine runs_ops_kept ?_ | refine runs_skip ?_ | refine runs_exit ?_ | refine runs_ret ?_ | ((first | refine' ops_op rfl rfl (by decide) ?_ ?_ ?_ | refine' ops_yes rfl rfl (by simp only [Ev.get, reduceIte, Nat.reduceEqDiff, iv, b1, b2, b3, b4, b5, b6, b7, b8, t1, t2, t3, i2, ct, vt]; first | done | rfl) rfl (by decide) ?_ ?_ ?_ | refine' ops_op0 rfl rfl ?_ ?_ ?_); rotate_left 2; (focus (simp only [evOp, opd, constAV, constCell, Ev.get, reduceIte, Nat.reduceEqDiff, reduceCtorEq, evBinN, nilCmp, evBin, evInt, evUn, evConvert, evBuiltin, evLen, evField, evPart, tStr, tInt, tElem, tArr, tBool, tAgg, tField, Try.underlying9, Try.underlying3, Try.underlying4, Try.underlying5, Try.underlying21, Try.underlying121, Try.underlying38, Try.underlying25, Try.underlying135, Try.underlying33, Try.underlying2, Try.underlying147, Try.underlying22, Try.underlying56, Try.underlying54, List.zipWith, Option.map_some, Option.map_none, List.length_cons, List.length_nil, ne_eq, Int.reduceEq, not_false_eq_true, and_self, and_true, true_and, szStr, szInt, Option.getD_some, isNil, evStr, iv, fpRcStop, fpRcPlateau, fpRcKeep, cellsRc, newRc, zrTp, zoTp, znTp, zrPt, zoPt, znPt, zrKp, zoKp, znKp, fpTpOn, fpTpMetric, fpTpPatience, fpTpDelta, mk0Tp, niTp, eqTp', fpPtOn, fpPtMetric, fpPtFactor, fpPtPatience, fpPtCooldown, fpPtFloor, fpPtDelta, mk0Pt, niPt, eqPt', fpKpOn, fpKpMetric, fpKpCount, mk0Kp, niKp, eqKp', fpRcEma, fpRcEmaOn, fpRcEmaDecay, mk0Em, niEm, eqEm', fpRcSwa, fpRcSwaOn, fpRcSwaFrom, fpRcSwaFromU, fpRcSwaEvery, mk0Sw, niSw, eqSw', evCall, List.size_toArray, List.append_nil, List.nil_append, List.map_cons, List.map_nil, argAV, argCell, List.toList_toArray, fieldTy, b1, b2, b3, b4, b5, b6, b7, b8, t1, t2, t3, i2, ct, vt]; first | done | rfl)); exact (fun h => by first | rfl | (simp at h; done) | exact absurd (Bool.and_eq_true_iff.mp h).2 (by decide))) | refine ops_no rfl rfl (by simp only [Ev.get, reduceIte, Nat.reduceEqDiff, iv, b1, b2, b3, b4, b5, b6, b7, b8, t1, t2, t3, i2, ct, vt]; first | done | rfl) (by decide) rfl (by decide) ?_ | refine ops_off rfl rfl rfl rfl (by decide) ?_ | (refine ops_nil ?_; intro e2 h2; simp only [restr, kpEndsR, List.map_cons, List.map_nil, Ev.get, reduceIte, Nat.reduceEqDiff] at h2; subst h2))
                | (refine ops_here ?_; (fail_if_success (refine ops_case (B := true) rfl rfl rfl ?_ ?_)); (fail_if_success (refine ops_case (B := false) rfl rfl rfl ?_ ?_)); refine ops_case rfl rfl rfl (fun hB => ?_) (fun hB => ?_) <;> rw [hB])
                | (refine runs_here ?_; refine runs_cond rfl (fun hc => ?_) (fun hc => ?_) <;> first | (cases hc; done) | skip))
              all_goals refine ⟨rfl, ?_, rfl⟩
              all_goals simp_all [Pt.bad, Pt.may]
            refine next_normal ?_
            refine runs_cond rfl (fun hc => ?_) (fun hc => ?_)
            · have e1 : R.endsMay = false := by simp only [Bool.not_eq_true'] at hc; simp [Rc.endsMay, hc]
              rw [e1]
              repeat (first | refine runs_seq ?_ | refine runs_block ?_ | refine next_normal ?_ | refine inside_normal ?_ | refine next_exit ?_ | refine inside_exit ?_ | refine inside_other (by decide) ?_ | refine next_ret ?_ | refine inside_ret ?_ | refine runs_ops_kept ?_ | refine runs_skip ?_ | refine runs_exit ?_ | refine runs_ret ?_ | ((first | refine' ops_op rfl rfl (by decide) ?_ ?_ ?_ | refine' ops_yes rfl rfl (by simp only [Ev.get, reduceIte, Nat.reduceEqDiff, iv]; first | done | rfl) rfl (by decide) ?_ ?_ ?_ | refine' ops_op0 rfl rfl ?_ ?_ ?_); rotate_left 2; (focus (simp only [evOp, opd, constAV, constCell, Ev.get, reduceIte, Nat.reduceEqDiff, reduceCtorEq, evBinN, nilCmp, evBin, evInt, evUn, evConvert, evBuiltin, evLen, evField, evPart, tStr, tInt, tElem, tArr, tBool, tAgg, tField, Try.underlying9, Try.underlying3, Try.underlying4, Try.underlying5, Try.underlying21, Try.underlying121, Try.underlying38, Try.underlying25, Try.underlying135, Try.underlying33, Try.underlying2, Try.underlying147, Try.underlying22, Try.underlying56, Try.underlying54, List.zipWith, Option.map_some, Option.map_none, List.length_cons, List.length_nil, ne_eq, Int.reduceEq, not_false_eq_true, and_self, and_true, true_and, szStr, szInt, Option.getD_some, isNil, evStr, iv, fpRcStop, fpRcPlateau, fpRcKeep, cellsRc, newRc, zrTp, zoTp, znTp, zrPt, zoPt, znPt, zrKp, zoKp, znKp, fpTpOn, fpTpMetric, fpTpPatience, fpTpDelta, mk0Tp, niTp, eqTp', fpPtOn, fpPtMetric, fpPtFactor, fpPtPatience, fpPtCooldown, fpPtFloor, fpPtDelta, mk0Pt, niPt, eqPt', fpKpOn, fpKpMetric, fpKpCount, mk0Kp, niKp, eqKp', fpRcEma, fpRcEmaOn, fpRcEmaDecay, mk0Em, niEm, eqEm', fpRcSwa, fpRcSwaOn, fpRcSwaFrom, fpRcSwaFromU, fpRcSwaEvery, mk0Sw, niSw, eqSw', evCall, List.size_toArray, List.append_nil, List.nil_append, List.map_cons, List.map_nil, argAV, argCell, List.toList_toArray, fieldTy]; first | done | rfl)); exact (fun h => by first | rfl | (simp at h; done) | exact absurd (Bool.and_eq_true_iff.mp h).2 (by decide))) | refine ops_no rfl rfl (by simp only [Ev.get, reduceIte, Nat.reduceEqDiff, iv]; first | done | rfl) (by decide) rfl (by decide) ?_ | refine ops_off rfl rfl rfl rfl (by decide) ?_ | (refine ops_nil ?_; intro e2 h2; simp only [restr, kpEndsR, List.map_cons, List.map_nil, Ev.get, reduceIte, Nat.reduceEqDiff] at h2; subst h2))
              exact leaves_fin rfl rfl fin
            have m2' : R.pt.may = true := by simpa using hc
            have c1 := lpKpOn h5
            have c2 := lpKpMetric h5
            have c3 := lpKpCount h5
            have c4 := vrKp h5
            have i3 := fun mm => isNameG_eq (s := R.kp.Metric) (m := mm) hs.2.2
            refine runs_seq ?_
            refine runs_rcut [(1, .ptr n1 0), (5, .ptr n5 0), (81, .v (.bool (!R.kp.may)))] m2 ?_ ?_
            · repeat' (first
                | (first | refine runs_seq ?_ | refine runs_block ?_ | refine next_normal ?_ | refine inside_normal ?_ | refine next_exit ?_ | refine inside_exit ?_ | refine inside_other (by decide) ?_ | refine next_ret ?_ | refine inside_ret ?_ | refine runs_ops_kept ?_ | refine runs_skip ?_ | refine runs_exit ?_ | refine runs_ret ?_ | ((first | refine' ops_op rfl rfl (by decide) ?_ ?_ ?_ | refine' ops_yes rfl rfl (by simp only [Ev.get, reduceIte, Nat.reduceEqDiff, iv, c1, c2, c3, c4, t1, t2, t3, i3, ct, vt]; first | done | rfl) rfl (by decide) ?_ ?_ ?_ | refine' ops_op0 rfl rfl ?_ ?_ ?_); rotate_left 2; (focus (simp only [evOp, opd, constAV, constCell, Ev.get, reduceIte, Nat.reduceEqDiff, reduceCtorEq, evBinN, nilCmp, evBin, evInt, evUn, evConvert, evBuiltin, evLen, evField, evPart, tStr, tInt, tElem, tArr, tBool, tAgg, tField, Try.underlying9, Try.underlying3, Try.underlying4, Try.underlying5, Try.underlying21, Try.underlying121, Try.underlying38, Try.underlying25, Try.underlying135, Try.underlying33, Try.underlying2, Try.underlying147, Try.underlying22, Try.underlying56, Try.underlying54, List.zipWith, Option.map_some, Option.map_none, List.length_cons, List.length_nil, ne_eq, Int.reduceEq, not_false_eq_true, and_self, and_true, true_and, szStr, szInt, Option.getD_some, isNil, evStr, iv, fpRcStop, fpRcPlateau, fpRcKeep, cellsRc, newRc, zrTp, zoTp, znTp, zrPt, zoPt, znPt, zrKp, zoKp, znKp, fpTpOn, fpTpMetric, fpTpPatience, fpTpDelta, mk0Tp, niTp, eqTp', fpPtOn, fpPtMetric, fpPtFactor, fpPtPatience, fpPtCooldown, fpPtFloor, fpPtDelta, mk0Pt, niPt, eqPt', fpKpOn, fpKpMetric, fpKpCount, mk0Kp, niKp, eqKp', fpRcEma, fpRcEmaOn, fpRcEmaDecay, mk0Em, niEm, eqEm', fpRcSwa, fpRcSwaOn, fpRcSwaFrom, fpRcSwaFromU, fpRcSwaEvery, mk0Sw, niSw, eqSw', evCall, List.size_toArray, List.append_nil, List.nil_append, List.map_cons, List.map_nil, argAV, argCell, List.toList_toArray, fieldTy, c1, c2, c3, c4, t1, t2, t3, i3, ct, vt]; first | done | rfl)); exact (fun h => by first | rfl | (simp at h; done) | exact absurd (Bool.and_eq_true_iff.mp h).2 (by decide))) | refine ops_no rfl rfl (by simp only [Ev.get, reduceIte, Nat.reduceEqDiff, iv, c1, c2, c3, c4, t1, t2, t3, i3, ct, vt]; first | done | rfl) (by decide) rfl (by decide) ?_ | refine ops_off rfl rfl rfl rfl (by decide) ?_ | (refine ops_nil ?_; intro e2 h2; simp only [restr, kpEndsR, List.map_cons, List.map_nil, Ev.get, reduceIte, Nat.reduceEqDiff] at h2; subst h2))
                | (refine ops_here ?_; (fail_if_success (refine ops_case (B := true) rfl rfl rfl ?_ ?_)); (fail_if_success (refine ops_case (B := false) rfl rfl rfl ?_ ?_)); refine ops_case rfl rfl rfl (fun hB => ?_) (fun hB => ?_) <;> rw [hB])
                | (refine runs_here ?_; refine runs_cond rfl (fun hc => ?_) (fun hc => ?_) <;> first | (cases hc; done) | skip))
              all_goals refine ⟨rfl, ?_, rfl⟩
              all_goals simp_all [Kp.bad, Kp.may]
            refine next_normal ?_
            refine runs_cond rfl (fun hc => ?_) (fun hc => ?_)
            · have e1 : R.endsMay = false := by simp only [Bool.not_eq_true'] at hc; simp [Rc.endsMay, hc]
              rw [e1]
              repeat (first | refine runs_seq ?_ | refine runs_block ?_ | refine next_normal ?_ | refine inside_normal ?_ | refine next_exit ?_ | refine inside_exit ?_ | refine inside_other (by decide) ?_ | refine next_ret ?_ | refine inside_ret ?_ | refine runs_ops_kept ?_ | refine runs_skip ?_ | refine runs_exit ?_ | refine runs_ret ?_ | ((first | refine' ops_op rfl rfl (by decide) ?_ ?_ ?_ | refine' ops_yes rfl rfl (by simp only [Ev.get, reduceIte, Nat.reduceEqDiff, iv]; first | done | rfl) rfl (by decide) ?_ ?_ ?_ | refine' ops_op0 rfl rfl ?_ ?_ ?_); rotate_left 2; (focus (simp only [evOp, opd, constAV, constCell, Ev.get, reduceIte, Nat.reduceEqDiff, reduceCtorEq, evBinN, nilCmp, evBin, evInt, evUn, evConvert, evBuiltin, evLen, evField, evPart, tStr, tInt, tElem, tArr, tBool, tAgg, tField, Try.underlying9, Try.underlying3, Try.underlying4, Try.underlying5, Try.underlying21, Try.underlying121, Try.underlying38, Try.underlying25, Try.underlying135, Try.underlying33, Try.underlying2, Try.underlying147, Try.underlying22, Try.underlying56, Try.underlying54, List.zipWith, Option.map_some, Option.map_none, List.length_cons, List.length_nil, ne_eq, Int.reduceEq, not_false_eq_true, and_self, and_true, true_and, szStr, szInt, Option.getD_some, isNil, evStr, iv, fpRcStop, fpRcPlateau, fpRcKeep, cellsRc, newRc, zrTp, zoTp, znTp, zrPt, zoPt, znPt, zrKp, zoKp, znKp, fpTpOn, fpTpMetric, fpTpPatience, fpTpDelta, mk0Tp, niTp, eqTp', fpPtOn, fpPtMetric, fpPtFactor, fpPtPatience, fpPtCooldown, fpPtFloor, fpPtDelta, mk0Pt, niPt, eqPt', fpKpOn, fpKpMetric, fpKpCount, mk0Kp, niKp, eqKp', fpRcEma, fpRcEmaOn, fpRcEmaDecay, mk0Em, niEm, eqEm', fpRcSwa, fpRcSwaOn, fpRcSwaFrom, fpRcSwaFromU, fpRcSwaEvery, mk0Sw, niSw, eqSw', evCall, List.size_toArray, List.append_nil, List.nil_append, List.map_cons, List.map_nil, argAV, argCell, List.toList_toArray, fieldTy]; first | done | rfl)); exact (fun h => by first | rfl | (simp at h; done) | exact absurd (Bool.and_eq_true_iff.mp h).2 (by decide))) | refine ops_no rfl rfl (by simp only [Ev.get, reduceIte, Nat.reduceEqDiff, iv]; first | done | rfl) (by decide) rfl (by decide) ?_ | refine ops_off rfl rfl rfl rfl (by decide) ?_ | (refine ops_nil ?_; intro e2 h2; simp only [restr, kpEndsR, List.map_cons, List.map_nil, Ev.get, reduceIte, Nat.reduceEqDiff] at h2; subst h2))
              exact leaves_fin rfl rfl fin
            have m3' : R.kp.may = true := by simpa using hc
            have d1 : evLoad Try.prog m2 4 (.ptr n1 26) = some (.v (.bool R.em.On)) := lpRcEmaOn h1
            have d2 : evLoad Try.prog m2 3 (.ptr n1 27) = some (.v (.int .i64 R.em.Decay)) := lpRcEmaDecay h1
            have d3 : evLoad Try.prog m2 71 (.ptr n1 26) = some (.agg R.em.row) := lpRcEma h1
            refine runs_seq ?_
            refine runs_rcut [(1, .ptr n1 0), (103, .v (.bool (!R.em.may)))] m2 ?_ ?_
            · repeat' (first
                | (first | refine runs_seq ?_ | refine runs_block ?_ | refine next_normal ?_ | refine inside_normal ?_ | refine next_exit ?_ | refine inside_exit ?_ | refine inside_other (by decide) ?_ | refine next_ret ?_ | refine inside_ret ?_ | refine runs_ops_kept ?_ | refine runs_skip ?_ | refine runs_exit ?_ | refine runs_ret ?_ | ((first | refine' ops_op rfl rfl (by decide) ?_ ?_ ?_ | refine' ops_yes rfl rfl (by simp only [Ev.get, reduceIte, Nat.reduceEqDiff, iv, d1, d2, d3, t1, t2, t3, ct, vt]; first | done | rfl) rfl (by decide) ?_ ?_ ?_ | refine' ops_op0 rfl rfl ?_ ?_ ?_); rotate_left 2; (focus (simp only [evOp, opd, constAV, constCell, Ev.get, reduceIte, Nat.reduceEqDiff, reduceCtorEq, evBinN, nilCmp, evBin, evInt, evUn, evConvert, evBuiltin, evLen, evField, evPart, tStr, tInt, tElem, tArr, tBool, tAgg, tField, Try.underlying9, Try.underlying3, Try.underlying4, Try.underlying5, Try.underlying21, Try.underlying121, Try.underlying38, Try.underlying25, Try.underlying135, Try.underlying33, Try.underlying2, Try.underlying147, Try.underlying22, Try.underlying56, Try.underlying54, List.zipWith, Option.map_some, Option.map_none, List.length_cons, List.length_nil, ne_eq, Int.reduceEq, not_false_eq_true, and_self, and_true, true_and, szStr, szInt, Option.getD_some, isNil, evStr, iv, fpRcStop, fpRcPlateau, fpRcKeep, cellsRc, newRc, zrTp, zoTp, znTp, zrPt, zoPt, znPt, zrKp, zoKp, znKp, fpTpOn, fpTpMetric, fpTpPatience, fpTpDelta, mk0Tp, niTp, eqTp', fpPtOn, fpPtMetric, fpPtFactor, fpPtPatience, fpPtCooldown, fpPtFloor, fpPtDelta, mk0Pt, niPt, eqPt', fpKpOn, fpKpMetric, fpKpCount, mk0Kp, niKp, eqKp', fpRcEma, fpRcEmaOn, fpRcEmaDecay, mk0Em, niEm, eqEm', fpRcSwa, fpRcSwaOn, fpRcSwaFrom, fpRcSwaFromU, fpRcSwaEvery, mk0Sw, niSw, eqSw', evCall, List.size_toArray, List.append_nil, List.nil_append, List.map_cons, List.map_nil, argAV, argCell, List.toList_toArray, fieldTy, d1, d2, d3, t1, t2, t3, ct, vt]; first | done | rfl)); exact (fun h => by first | rfl | (simp at h; done) | exact absurd (Bool.and_eq_true_iff.mp h).2 (by decide))) | refine ops_no rfl rfl (by simp only [Ev.get, reduceIte, Nat.reduceEqDiff, iv, d1, d2, d3, t1, t2, t3, ct, vt]; first | done | rfl) (by decide) rfl (by decide) ?_ | refine ops_off rfl rfl rfl rfl (by decide) ?_ | (refine ops_nil ?_; intro e2 h2; simp only [restr, kpEndsR, List.map_cons, List.map_nil, Ev.get, reduceIte, Nat.reduceEqDiff] at h2; subst h2))
                | (refine ops_here ?_; (fail_if_success (refine ops_case (B := true) rfl rfl rfl ?_ ?_)); (fail_if_success (refine ops_case (B := false) rfl rfl rfl ?_ ?_)); refine ops_case rfl rfl rfl (fun hB => ?_) (fun hB => ?_) <;> rw [hB])
                | (refine runs_here ?_; refine runs_cond rfl (fun hc => ?_) (fun hc => ?_) <;> first | (cases hc; done) | skip))
              all_goals refine ⟨rfl, ?_, rfl⟩
              all_goals simp_all [Em.bad, Em.may]
            refine next_normal ?_
            refine runs_cond rfl (fun hc => ?_) (fun hc => ?_)
            · have e1 : R.endsMay = false := by simp only [Bool.not_eq_true'] at hc; simp [Rc.endsMay, hc]
              rw [e1]
              repeat (first | refine runs_seq ?_ | refine runs_block ?_ | refine next_normal ?_ | refine inside_normal ?_ | refine next_exit ?_ | refine inside_exit ?_ | refine inside_other (by decide) ?_ | refine next_ret ?_ | refine inside_ret ?_ | refine runs_ops_kept ?_ | refine runs_skip ?_ | refine runs_exit ?_ | refine runs_ret ?_ | ((first | refine' ops_op rfl rfl (by decide) ?_ ?_ ?_ | refine' ops_yes rfl rfl (by simp only [Ev.get, reduceIte, Nat.reduceEqDiff, iv]; first | done | rfl) rfl (by decide) ?_ ?_ ?_ | refine' ops_op0 rfl rfl ?_ ?_ ?_); rotate_left 2; (focus (simp only [evOp, opd, constAV, constCell, Ev.get, reduceIte, Nat.reduceEqDiff, reduceCtorEq, evBinN, nilCmp, evBin, evInt, evUn, evConvert, evBuiltin, evLen, evField, evPart, tStr, tInt, tElem, tArr, tBool, tAgg, tField, Try.underlying9, Try.underlying3, Try.underlying4, Try.underlying5, Try.underlying21, Try.underlying121, Try.underlying38, Try.underlying25, Try.underlying135, Try.underlying33, Try.underlying2, Try.underlying147, Try.underlying22, Try.underlying56, Try.underlying54, List.zipWith, Option.map_some, Option.map_none, List.length_cons, List.length_nil, ne_eq, Int.reduceEq, not_false_eq_true, and_self, and_true, true_and, szStr, szInt, Option.getD_some, isNil, evStr, iv, fpRcStop, fpRcPlateau, fpRcKeep, cellsRc, newRc, zrTp, zoTp, znTp, zrPt, zoPt, znPt, zrKp, zoKp, znKp, fpTpOn, fpTpMetric, fpTpPatience, fpTpDelta, mk0Tp, niTp, eqTp', fpPtOn, fpPtMetric, fpPtFactor, fpPtPatience, fpPtCooldown, fpPtFloor, fpPtDelta, mk0Pt, niPt, eqPt', fpKpOn, fpKpMetric, fpKpCount, mk0Kp, niKp, eqKp', fpRcEma, fpRcEmaOn, fpRcEmaDecay, mk0Em, niEm, eqEm', fpRcSwa, fpRcSwaOn, fpRcSwaFrom, fpRcSwaFromU, fpRcSwaEvery, mk0Sw, niSw, eqSw', evCall, List.size_toArray, List.append_nil, List.nil_append, List.map_cons, List.map_nil, argAV, argCell, List.toList_toArray, fieldTy]; first | done | rfl)); exact (fun h => by first | rfl | (simp at h; done) | exact absurd (Bool.and_eq_true_iff.mp h).2 (by decide))) | refine ops_no rfl rfl (by simp only [Ev.get, reduceIte, Nat.reduceEqDiff, iv]; first | done | rfl) (by decide) rfl (by decide) ?_ | refine ops_off rfl rfl rfl rfl (by decide) ?_ | (refine ops_nil ?_; intro e2 h2; simp only [restr, kpEndsR, List.map_cons, List.map_nil, Ev.get, reduceIte, Nat.reduceEqDiff] at h2; subst h2))
              exact leaves_fin rfl rfl fin
            have m4' : R.em.may = true := by simpa using hc
            have f1 : evLoad Try.prog m2 4 (.ptr n1 28) = some (.v (.bool R.sw.On)) := lpRcSwaOn h1
            have f2 : evLoad Try.prog m2 54 (.ptr n1 29) = some (.agg [.v (.int .i64 R.sw.FromU), .v (.int .i64 R.sw.FromN)]) := lpRcSwaFrom h1
            have f3 : evLoad Try.prog m2 3 (.ptr n1 29) = some (.v (.int .i64 R.sw.FromU)) := lpRcSwaFromU h1
            have f4 : evLoad Try.prog m2 3 (.ptr n1 31) = some (.v (.int .i64 R.sw.Every)) := lpRcSwaEvery h1
            have f5 : evLoad Try.prog m2 73 (.ptr n1 28) = some (.agg R.sw.row) := lpRcSwa h1
            have lc : ∀ u n mm, lenCheckG [.agg [.v (.int .i64 u), .v (.int .i64 n)]] mm = some (.v (.int .i64 (if lenMay u n then 0 else 1)), mm) := fun _ _ _ => rfl
            have le : ∀ u n, ((if lenMay u n then (0 : Int) else 1) != 0) = !decide (lenMay u n) := fun u n => by
              by_cases h : lenMay u n
              · rw [if_pos h, decide_eq_true h]; rfl
              · rw [if_neg h, decide_eq_false h]; rfl
            refine runs_seq ?_
            refine runs_rcut [(1, .ptr n1 0), (124, .v (.bool R.sw.bad))] m2 ?_ ?_
            · repeat' (first
                | (first | refine runs_seq ?_ | refine runs_block ?_ | refine next_normal ?_ | refine inside_normal ?_ | refine next_exit ?_ | refine inside_exit ?_ | refine inside_other (by decide) ?_ | refine next_ret ?_ | refine inside_ret ?_ | refine runs_ops_kept ?_ | refine runs_skip ?_ | refine runs_exit ?_ | refine runs_ret ?_ | ((first | refine' ops_op rfl rfl (by decide) ?_ ?_ ?_ | refine' ops_yes rfl rfl (by simp only [Ev.get, reduceIte, Nat.reduceEqDiff, iv, f1, f2, f3, f4, t1, t2, t3, t4, ct, vt, lc, le]; first | done | rfl) rfl (by decide) ?_ ?_ ?_ | refine' ops_op0 rfl rfl ?_ ?_ ?_); rotate_left 2; (focus (simp only [evOp, opd, constAV, constCell, Ev.get, reduceIte, Nat.reduceEqDiff, reduceCtorEq, evBinN, nilCmp, evBin, evInt, evUn, evConvert, evBuiltin, evLen, evField, evPart, tStr, tInt, tElem, tArr, tBool, tAgg, tField, Try.underlying9, Try.underlying3, Try.underlying4, Try.underlying5, Try.underlying21, Try.underlying121, Try.underlying38, Try.underlying25, Try.underlying135, Try.underlying33, Try.underlying2, Try.underlying147, Try.underlying22, Try.underlying56, Try.underlying54, List.zipWith, Option.map_some, Option.map_none, List.length_cons, List.length_nil, ne_eq, Int.reduceEq, not_false_eq_true, and_self, and_true, true_and, szStr, szInt, Option.getD_some, isNil, evStr, iv, fpRcStop, fpRcPlateau, fpRcKeep, cellsRc, newRc, zrTp, zoTp, znTp, zrPt, zoPt, znPt, zrKp, zoKp, znKp, fpTpOn, fpTpMetric, fpTpPatience, fpTpDelta, mk0Tp, niTp, eqTp', fpPtOn, fpPtMetric, fpPtFactor, fpPtPatience, fpPtCooldown, fpPtFloor, fpPtDelta, mk0Pt, niPt, eqPt', fpKpOn, fpKpMetric, fpKpCount, mk0Kp, niKp, eqKp', fpRcEma, fpRcEmaOn, fpRcEmaDecay, mk0Em, niEm, eqEm', fpRcSwa, fpRcSwaOn, fpRcSwaFrom, fpRcSwaFromU, fpRcSwaEvery, mk0Sw, niSw, eqSw', evCall, List.size_toArray, List.append_nil, List.nil_append, List.map_cons, List.map_nil, argAV, argCell, List.toList_toArray, fieldTy, f1, f2, f3, f4, t1, t2, t3, t4, ct, vt, lc, le]; first | done | rfl)); exact (fun h => by first | rfl | (simp at h; done) | exact absurd (Bool.and_eq_true_iff.mp h).2 (by decide))) | refine ops_no rfl rfl (by simp only [Ev.get, reduceIte, Nat.reduceEqDiff, iv, f1, f2, f3, f4, t1, t2, t3, t4, ct, vt, lc, le]; first | done | rfl) (by decide) rfl (by decide) ?_ | refine ops_off rfl rfl rfl rfl (by decide) ?_ | (refine ops_nil ?_; intro e2 h2; simp only [restr, kpEndsR, List.map_cons, List.map_nil, Ev.get, reduceIte, Nat.reduceEqDiff] at h2; subst h2))
                | (refine ops_here ?_; (fail_if_success (refine ops_case (B := true) rfl rfl rfl ?_ ?_)); (fail_if_success (refine ops_case (B := false) rfl rfl rfl ?_ ?_)); refine ops_case rfl rfl rfl (fun hB => ?_) (fun hB => ?_) <;> rw [hB])
                | (refine runs_here ?_; refine runs_cond rfl (fun hc => ?_) (fun hc => ?_) <;> first | (cases hc; done) | skip))
              all_goals refine ⟨rfl, ?_, rfl⟩
              all_goals simp_all [Sw.bad]
            refine next_normal ?_
            refine runs_cond rfl (fun hc => ?_) (fun hc => ?_)
            · have e1 : R.endsMay = false := by simp [Rc.endsMay, Sw.may, hc]
              rw [e1]
              repeat (first | refine runs_seq ?_ | refine runs_block ?_ | refine next_normal ?_ | refine inside_normal ?_ | refine next_exit ?_ | refine inside_exit ?_ | refine inside_other (by decide) ?_ | refine next_ret ?_ | refine inside_ret ?_ | refine runs_ops_kept ?_ | refine runs_skip ?_ | refine runs_exit ?_ | refine runs_ret ?_ | ((first | refine' ops_op rfl rfl (by decide) ?_ ?_ ?_ | refine' ops_yes rfl rfl (by simp only [Ev.get, reduceIte, Nat.reduceEqDiff, iv]; first | done | rfl) rfl (by decide) ?_ ?_ ?_ | refine' ops_op0 rfl rfl ?_ ?_ ?_); rotate_left 2; (focus (simp only [evOp, opd, constAV, constCell, Ev.get, reduceIte, Nat.reduceEqDiff, reduceCtorEq, evBinN, nilCmp, evBin, evInt, evUn, evConvert, evBuiltin, evLen, evField, evPart, tStr, tInt, tElem, tArr, tBool, tAgg, tField, Try.underlying9, Try.underlying3, Try.underlying4, Try.underlying5, Try.underlying21, Try.underlying121, Try.underlying38, Try.underlying25, Try.underlying135, Try.underlying33, Try.underlying2, Try.underlying147, Try.underlying22, Try.underlying56, Try.underlying54, List.zipWith, Option.map_some, Option.map_none, List.length_cons, List.length_nil, ne_eq, Int.reduceEq, not_false_eq_true, and_self, and_true, true_and, szStr, szInt, Option.getD_some, isNil, evStr, iv, fpRcStop, fpRcPlateau, fpRcKeep, cellsRc, newRc, zrTp, zoTp, znTp, zrPt, zoPt, znPt, zrKp, zoKp, znKp, fpTpOn, fpTpMetric, fpTpPatience, fpTpDelta, mk0Tp, niTp, eqTp', fpPtOn, fpPtMetric, fpPtFactor, fpPtPatience, fpPtCooldown, fpPtFloor, fpPtDelta, mk0Pt, niPt, eqPt', fpKpOn, fpKpMetric, fpKpCount, mk0Kp, niKp, eqKp', fpRcEma, fpRcEmaOn, fpRcEmaDecay, mk0Em, niEm, eqEm', fpRcSwa, fpRcSwaOn, fpRcSwaFrom, fpRcSwaFromU, fpRcSwaEvery, mk0Sw, niSw, eqSw', evCall, List.size_toArray, List.append_nil, List.nil_append, List.map_cons, List.map_nil, argAV, argCell, List.toList_toArray, fieldTy]; first | done | rfl)); exact (fun h => by first | rfl | (simp at h; done) | exact absurd (Bool.and_eq_true_iff.mp h).2 (by decide))) | refine ops_no rfl rfl (by simp only [Ev.get, reduceIte, Nat.reduceEqDiff, iv]; first | done | rfl) (by decide) rfl (by decide) ?_ | refine ops_off rfl rfl rfl rfl (by decide) ?_ | (refine ops_nil ?_; intro e2 h2; simp only [restr, kpEndsR, List.map_cons, List.map_nil, Ev.get, reduceIte, Nat.reduceEqDiff] at h2; subst h2))
              exact leaves_fin rfl rfl fin
            repeat (first | refine runs_seq ?_ | refine runs_block ?_ | refine next_normal ?_ | refine inside_normal ?_ | refine next_exit ?_ | refine inside_exit ?_ | refine inside_other (by decide) ?_ | refine next_ret ?_ | refine inside_ret ?_ | refine runs_ops_kept ?_ | refine runs_skip ?_ | refine runs_exit ?_ | refine runs_ret ?_ | ((first | refine' ops_op rfl rfl (by decide) ?_ ?_ ?_ | refine' ops_yes rfl rfl (by simp only [Ev.get, reduceIte, Nat.reduceEqDiff, iv]; first | done | rfl) rfl (by decide) ?_ ?_ ?_ | refine' ops_op0 rfl rfl ?_ ?_ ?_); rotate_left 2; (focus (simp only [evOp, opd, constAV, constCell, Ev.get, reduceIte, Nat.reduceEqDiff, reduceCtorEq, evBinN, nilCmp, evBin, evInt, evUn, evConvert, evBuiltin, evLen, evField, evPart, tStr, tInt, tElem, tArr, tBool, tAgg, tField, Try.underlying9, Try.underlying3, Try.underlying4, Try.underlying5, Try.underlying21, Try.underlying121, Try.underlying38, Try.underlying25, Try.underlying135, Try.underlying33, Try.underlying2, Try.underlying147, Try.underlying22, Try.underlying56, Try.underlying54, List.zipWith, Option.map_some, Option.map_none, List.length_cons, List.length_nil, ne_eq, Int.reduceEq, not_false_eq_true, and_self, and_true, true_and, szStr, szInt, Option.getD_some, isNil, evStr, iv, fpRcStop, fpRcPlateau, fpRcKeep, cellsRc, newRc, zrTp, zoTp, znTp, zrPt, zoPt, znPt, zrKp, zoKp, znKp, fpTpOn, fpTpMetric, fpTpPatience, fpTpDelta, mk0Tp, niTp, eqTp', fpPtOn, fpPtMetric, fpPtFactor, fpPtPatience, fpPtCooldown, fpPtFloor, fpPtDelta, mk0Pt, niPt, eqPt', fpKpOn, fpKpMetric, fpKpCount, mk0Kp, niKp, eqKp', fpRcEma, fpRcEmaOn, fpRcEmaDecay, mk0Em, niEm, eqEm', fpRcSwa, fpRcSwaOn, fpRcSwaFrom, fpRcSwaFromU, fpRcSwaEvery, mk0Sw, niSw, eqSw', evCall, List.size_toArray, List.append_nil, List.nil_append, List.map_cons, List.map_nil, argAV, argCell, List.toList_toArray, fieldTy]; first | done | rfl)); exact (fun h => by first | rfl | (simp at h; done) | exact absurd (Bool.and_eq_true_iff.mp h).2 (by decide))) | refine ops_no rfl rfl (by simp only [Ev.get, reduceIte, Nat.reduceEqDiff, iv]; first | done | rfl) (by decide) rfl (by decide) ?_ | refine ops_off rfl rfl rfl rfl (by decide) ?_ | (refine ops_nil ?_; intro e2 h2; simp only [restr, kpEndsR, List.map_cons, List.map_nil, Ev.get, reduceIte, Nat.reduceEqDiff] at h2; subst h2))
            cases ho : R.sw.On with
            | true =>
              have e1 : R.endsMay = true := by simp [Rc.endsMay, Sw.may, m1', m2', m3', m4', hc, ho]
              rw [ho] at f1
              rw [e1]
              repeat (first | refine runs_seq ?_ | refine runs_block ?_ | refine next_normal ?_ | refine inside_normal ?_ | refine next_exit ?_ | refine inside_exit ?_ | refine inside_other (by decide) ?_ | refine next_ret ?_ | refine inside_ret ?_ | refine runs_ops_kept ?_ | refine runs_skip ?_ | refine runs_exit ?_ | refine runs_ret ?_ | ((first | refine' ops_op rfl rfl (by decide) ?_ ?_ ?_ | refine' ops_yes rfl rfl (by simp only [Ev.get, reduceIte, Nat.reduceEqDiff, iv, f1, f5]; first | done | rfl) rfl (by decide) ?_ ?_ ?_ | refine' ops_op0 rfl rfl ?_ ?_ ?_); rotate_left 2; (focus (simp only [evOp, opd, constAV, constCell, Ev.get, reduceIte, Nat.reduceEqDiff, reduceCtorEq, evBinN, nilCmp, evBin, evInt, evUn, evConvert, evBuiltin, evLen, evField, evPart, tStr, tInt, tElem, tArr, tBool, tAgg, tField, Try.underlying9, Try.underlying3, Try.underlying4, Try.underlying5, Try.underlying21, Try.underlying121, Try.underlying38, Try.underlying25, Try.underlying135, Try.underlying33, Try.underlying2, Try.underlying147, Try.underlying22, Try.underlying56, Try.underlying54, List.zipWith, Option.map_some, Option.map_none, List.length_cons, List.length_nil, ne_eq, Int.reduceEq, not_false_eq_true, and_self, and_true, true_and, szStr, szInt, Option.getD_some, isNil, evStr, iv, fpRcStop, fpRcPlateau, fpRcKeep, cellsRc, newRc, zrTp, zoTp, znTp, zrPt, zoPt, znPt, zrKp, zoKp, znKp, fpTpOn, fpTpMetric, fpTpPatience, fpTpDelta, mk0Tp, niTp, eqTp', fpPtOn, fpPtMetric, fpPtFactor, fpPtPatience, fpPtCooldown, fpPtFloor, fpPtDelta, mk0Pt, niPt, eqPt', fpKpOn, fpKpMetric, fpKpCount, mk0Kp, niKp, eqKp', fpRcEma, fpRcEmaOn, fpRcEmaDecay, mk0Em, niEm, eqEm', fpRcSwa, fpRcSwaOn, fpRcSwaFrom, fpRcSwaFromU, fpRcSwaEvery, mk0Sw, niSw, eqSw', evCall, List.size_toArray, List.append_nil, List.nil_append, List.map_cons, List.map_nil, argAV, argCell, List.toList_toArray, fieldTy, f1, f5]; first | done | rfl)); exact (fun h => by first | rfl | (simp at h; done) | exact absurd (Bool.and_eq_true_iff.mp h).2 (by decide))) | refine ops_no rfl rfl (by simp only [Ev.get, reduceIte, Nat.reduceEqDiff, iv, f1, f5]; first | done | rfl) (by decide) rfl (by decide) ?_ | refine ops_off rfl rfl rfl rfl (by decide) ?_ | (refine ops_nil ?_; intro e2 h2; simp only [restr, kpEndsR, List.map_cons, List.map_nil, Ev.get, reduceIte, Nat.reduceEqDiff] at h2; subst h2))
              exact leaves_fin rfl rfl fin
            | false =>
              have e1 : R.endsMay = swEq R.sw sw0 := by simp [Rc.endsMay, Sw.may, m1', m2', m3', m4', hc, ho]
              rw [ho] at f1
              rw [e1]
              repeat (first | refine runs_seq ?_ | refine runs_block ?_ | refine next_normal ?_ | refine inside_normal ?_ | refine next_exit ?_ | refine inside_exit ?_ | refine inside_other (by decide) ?_ | refine next_ret ?_ | refine inside_ret ?_ | refine runs_ops_kept ?_ | refine runs_skip ?_ | refine runs_exit ?_ | refine runs_ret ?_ | ((first | refine' ops_op rfl rfl (by decide) ?_ ?_ ?_ | refine' ops_yes rfl rfl (by simp only [Ev.get, reduceIte, Nat.reduceEqDiff, iv, f1, f5]; first | done | rfl) rfl (by decide) ?_ ?_ ?_ | refine' ops_op0 rfl rfl ?_ ?_ ?_); rotate_left 2; (focus (simp only [evOp, opd, constAV, constCell, Ev.get, reduceIte, Nat.reduceEqDiff, reduceCtorEq, evBinN, nilCmp, evBin, evInt, evUn, evConvert, evBuiltin, evLen, evField, evPart, tStr, tInt, tElem, tArr, tBool, tAgg, tField, Try.underlying9, Try.underlying3, Try.underlying4, Try.underlying5, Try.underlying21, Try.underlying121, Try.underlying38, Try.underlying25, Try.underlying135, Try.underlying33, Try.underlying2, Try.underlying147, Try.underlying22, Try.underlying56, Try.underlying54, List.zipWith, Option.map_some, Option.map_none, List.length_cons, List.length_nil, ne_eq, Int.reduceEq, not_false_eq_true, and_self, and_true, true_and, szStr, szInt, Option.getD_some, isNil, evStr, iv, fpRcStop, fpRcPlateau, fpRcKeep, cellsRc, newRc, zrTp, zoTp, znTp, zrPt, zoPt, znPt, zrKp, zoKp, znKp, fpTpOn, fpTpMetric, fpTpPatience, fpTpDelta, mk0Tp, niTp, eqTp', fpPtOn, fpPtMetric, fpPtFactor, fpPtPatience, fpPtCooldown, fpPtFloor, fpPtDelta, mk0Pt, niPt, eqPt', fpKpOn, fpKpMetric, fpKpCount, mk0Kp, niKp, eqKp', fpRcEma, fpRcEmaOn, fpRcEmaDecay, mk0Em, niEm, eqEm', fpRcSwa, fpRcSwaOn, fpRcSwaFrom, fpRcSwaFromU, fpRcSwaEvery, mk0Sw, niSw, eqSw', evCall, List.size_toArray, List.append_nil, List.nil_append, List.map_cons, List.map_nil, argAV, argCell, List.toList_toArray, fieldTy, f1, f5]; first | done | rfl)); exact (fun h => by first | rfl | (simp at h; done) | exact absurd (Bool.and_eq_true_iff.mp h).2 (by decide))) | refine ops_no rfl rfl (by simp only [Ev.get, reduceIte, Nat.reduceEqDiff, iv, f1, f5]; first | done | rfl) (by decide) rfl (by decide) ?_ | refine ops_off rfl rfl rfl rfl (by decide) ?_ | (refine ops_nil ?_; intro e2 h2; simp only [restr, kpEndsR, List.map_cons, List.map_nil, Ev.get, reduceIte, Nat.reduceEqDiff] at h2; subst h2))
              exact leaves_fin rfl rfl fin
      · cases h
    · cases h
  · cases h
end Go.Proofs.Ytojaokhkbmiidaa.Ev
