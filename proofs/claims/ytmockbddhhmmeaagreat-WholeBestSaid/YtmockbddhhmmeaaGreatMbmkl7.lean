/- Plans: what is watched, what is averaged. (Written out by wip/tools/gen_run2.py.) -/
import Derived.Test.YtmockbddhhmmeaaGreatMbmkl6
namespace Go.Proofs.YtmockbddhhmmeaaGreat.Ev
open Go Go.Proofs
set_option maxRecDepth 10000
set_option maxHeartbeats 8000000
set_option linter.unusedVariables false
set_option linter.unusedSimpArgs false
section
attribute [local irreducible] Next Inside Runs Ops table
attribute [local irreducible] XRuns XOps
attribute [local go_sem] szStr szInt Option.getD_some isNil evStr evMinMax evFoldI iv mapPn cellsPn newPn fpPnSteps fpPnWeights fpPnMetrics fpPnGroups fpPnEval fpPnSpans fpPnFrozen fpPnTracks fpPnStop fpPnStopOn fpPnStopMetric fpPnStopPatience fpPnStopDelta fpPnPlateau fpPnKeep fpPnKeepOn fpPnKeepMetric fpPnKeepCount fpPnEma fpPnEmaOn fpPnEmaDecay fpPnStopAt fpPnCutAt fpPnKeepAt fpPnSwaFrom fpPnSwaEvery mk0Tp niTp mk0Pt niPt mk0Kp niKp mk0Em niEm zrPt zoPt znPt mapPt fpPtOn fpPtMetric fpPtFactor fpPtPatience fpPtCooldown fpPtFloor fpPtDelta
def es : ByteArray := ⟨#[]⟩
def seenB (p : Pn) (a : Int) (s : ByteArray) : Bool := inB a 0 (p.metrics - 1) && (s == ⟨#[]⟩) && decide (p.eval > 0)
def seenG : List AV → Mem → Option (AV × Mem)
 | [.agg cs, .v (.int .i64 a), .v (.string s)], m =>
  match unPn cs with
  | some p => if 0 ≤ p.metrics ∧ p.metrics ≤ 4 then some (.v (.bool (seenB p a s)), m) else none
  | none => none
 | _, _ => none
theorem seen_eq {p : Pn} (h : 0 ≤ p.metrics ∧ p.metrics ≤ 4) (a : Int) (s : ByteArray) (m : Mem) : seenG [.agg p.row, .v (.int .i64 a), .v (.string s)] m = some (.v (.bool (seenB p a s)), m) := by
 simp only [seenG, unPn_row]
 exact if_pos h
def kpSeen : Nat → Option (List Nat) := fun
 | 0 => some [1, 2, 3]
 | 1 => some [6]
 | _ => none
attribute [go_sem] kpSeen
def tab_seen_ok : List (FuncId × (List AV → Mem → Option (AV × Mem))) := [(73, inBG)]
theorem seen_ok : FunOk Tryz.prog 104 seenG := by
 have hC := table_ok (P := Tryz.prog) (l := tab_seen_ok) (table_more planIn_ok table_nil)
 have t1 := fun args mm => table_at (l := tab_seen_ok) (f := 73) (args := args) (m := mm) rfl
 refine fun_ok mixed hC Tryz.func104 rfl kpSeen false rfl fun args m r h => ?_
 unfold seenG at h
 split at h
 ·rename_i cs a s
  split at h
  ·rename_i p hp0
   obtain rfl := unPn_some hp0
   split at h
   ·rename_i hdom
    simp only [Option.some.injEq] at h
    subst h
    refine ⟨Nat.le_of_ble_eq_true rfl, ?_⟩
    refine en ?_
    have v1 : (m.push p.row).var m.vars.length = some p.row := push_var
    have nr := newPn (m := m) (x := p)
    have hA := above_push (cs := p.row) (above_self m)
    refine go1 @nr ?_
    generalize m.push p.row = m2 at v1 hA
    generalize m.vars.length = r1 at v1
    have l1 := lpPnMetrics v1
    have l2 := lpPnEval v1
    have w1 : IntKind.i64.wrap (p.metrics - 1) = p.metrics - 1 := wrap_i64 (by omega) (by omega)
    have c1 := inB_eq a 0 (p.metrics - 1)
    unfold seenB
    cases h0 : inB a 0 (p.metrics - 1) with
    | false =>
     refine go1 (jn @l1 (jn @w1 (jn @t1 (jn @c1 @h0)))) ?_
     exact leaves_fin rfl rfl (above_fin hA)
    | true =>
     cases h1 : (s == ⟨#[]⟩) with
     | false =>
      refine go1 (jn @l1 (jn @w1 (jn @t1 (jn @c1 (jn @h0 @h1))))) ?_
      exact leaves_fin rfl rfl (above_fin hA)
     | true =>
      refine go1 (jn @l1 (jn @w1 (jn @t1 (jn @c1 (jn @h0 (jn @h1 @l2)))))) ?_
      exact leaves_fin rfl rfl (above_fin hA)
   ·cases h
  ·cases h
 ·cases h
def stopOkB (p : Pn) : Bool := if p.stopAt = -1 then ((p.stop.On == tp0.On) && ((p.stop.Metric == tp0.Metric) && ((p.stop.Max == tp0.Max) && ((p.stop.Patience == tp0.Patience) && ((p.stop.Delta == tp0.Delta) && ((p.stop.Rel == tp0.Rel) && true)))))) else seenB p p.stopAt p.stop.Metric && p.stop.On && inB p.stop.Patience 1 1099511627776 && inB p.stop.Delta 0 4503599627370496
def stopOkG : List AV → Mem → Option (AV × Mem)
 | [.agg cs], m =>
  match unPn cs with
  | some p => if 0 ≤ p.metrics ∧ p.metrics ≤ 4 then some (.v (.bool (stopOkB p)), m) else none
  | none => none
 | _, _ => none
theorem stopOk_eq {p : Pn} (h : 0 ≤ p.metrics ∧ p.metrics ≤ 4) (m : Mem) : stopOkG [.agg p.row] m = some (.v (.bool (stopOkB p)), m) := by
 simp only [stopOkG, unPn_row]
 exact if_pos h
def kpStopOk : Nat → Option (List Nat) := fun
 | 0 => some [1]
 | 1 => some [1, 5]
 | 2 => some [2]
 | 3 => some [2]
 | _ => none
attribute [go_sem] kpStopOk
def tab_stopOk_ok : List (FuncId × (List AV → Mem → Option (AV × Mem))) := [(104, seenG), (105, planCountG), (106, planValueG)]
theorem stopOk_ok : FunOk Tryz.prog 77 stopOkG := by
 have hC := table_ok (P := Tryz.prog) (l := tab_stopOk_ok) (table_more seen_ok (table_more planCount_ok (table_more planValue_ok table_nil)))
 have t1 := fun args mm => table_at (l := tab_stopOk_ok) (f := 104) (args := args) (m := mm) rfl
 have t2 := fun args mm => table_at (l := tab_stopOk_ok) (f := 105) (args := args) (m := mm) rfl
 have t3 := fun args mm => table_at (l := tab_stopOk_ok) (f := 106) (args := args) (m := mm) rfl
 refine fun_ok mixed hC Tryz.func77 rfl kpStopOk false rfl fun args m r h => ?_
 unfold stopOkG at h
 split at h
 ·rename_i cs
  split at h
  ·rename_i p hp0
   obtain rfl := unPn_some hp0
   split at h
   ·rename_i hdom
    simp only [Option.some.injEq] at h
    subst h
    refine ⟨Nat.le_of_ble_eq_true rfl, ?_⟩
    refine en ?_
    have v1 : (m.push p.row).var m.vars.length = some p.row := push_var
    have nr := newPn (m := m) (x := p)
    have hA := above_push (cs := p.row) (above_self m)
    refine go1 @nr ?_
    generalize m.push p.row = m2 at v1 hA
    generalize m.vars.length = r1 at v1
    have k1 : (!true) = false := rfl
    have k2 : (!false) = true := rfl
    have lp := vrPn v1
    have la := lpPnStopAt v1
    have ls := lpPnStop v1
    have lm := lpPnStopMetric v1
    have lo := lpPnStopOn v1
    have lq := lpPnStopPatience v1
    have ld := lpPnStopDelta v1
    have e1 : eqTy Tryz.prog 8 26 (.agg p.stop.row) (.agg zeroTp) = _ := eqTp (x := p.stop) (y := tp0)
    have c1 := seen_eq hdom p.stopAt p.stop.Metric
    have c2 : ∀ mm, planCountG [.v (.int .i64 p.stop.Patience)] mm = some (.v (.bool (inB p.stop.Patience 1 1099511627776)), mm) := fun _ => rfl
    have c3 : ∀ mm, planValueG [.v (.int .i64 p.stop.Delta)] mm = some (.v (.bool (inB p.stop.Delta 0 4503599627370496)), mm) := fun _ => rfl
    unfold stopOkB
    refine go1 @la ?_
    by_cases ha : p.stopAt = -1
    ·rw [if_pos ha]
     refine runs_cond rfl (fun hc => ?_) (fun hc => absurd hc (by rw [ha]; decide))
     refine go1 (jn @ls @e1) ?_
     exact leaves_fin rfl rfl (above_fin hA)
    ·rw [if_neg ha]
     refine runs_cond rfl (fun hc => absurd (eq_of_beq hc) ha) (fun hc => ?_)
     cases h0 : seenB p p.stopAt p.stop.Metric with
     | false =>
      refine go1 (jn @lp (jn @la (jn @lm (jn @t1 (jn @c1 @h0))))) ?_
      exact leaves_fin rfl rfl (above_fin hA)
     | true =>
      cases h1 : p.stop.On with
      | false =>
       refine go1 (jn @lp (jn @la (jn @lm (jn @t1 (jn @c1 (jn @h0 (jn @lo @h1))))))) ?_
       exact leaves_fin rfl rfl (above_fin hA)
      | true =>
       cases h2 : inB p.stop.Patience 1 1099511627776 with
       | false =>
        refine go1 (jn @lp (jn @la (jn @lm (jn @t1 (jn @c1 (jn @h0 (jn @lo (jn @h1 (jn @lq (jn @t2 (jn @c2 @h2))))))))))) ?_
        exact leaves_fin rfl rfl (above_fin hA)
       | true =>
        refine go1 (jn @lp (jn @la (jn @lm (jn @t1 (jn @c1 (jn @h0 (jn @lo (jn @h1 (jn @lq (jn @t2 (jn @c2 (jn @h2 (jn @ld (jn @t3 @c3)))))))))))))) ?_
        exact leaves_fin rfl rfl (above_fin hA)
   ·cases h
  ·cases h
 ·cases h
def keepOkB (p : Pn) : Bool := if p.keepAt = -1 then ((p.keep.On == kp0.On) && ((p.keep.Metric == kp0.Metric) && ((p.keep.Max == kp0.Max) && ((p.keep.Count == kp0.Count) && true)))) else seenB p p.keepAt p.keep.Metric && p.keep.On && inB p.keep.Count 1 16
def keepOkG : List AV → Mem → Option (AV × Mem)
 | [.agg cs], m =>
  match unPn cs with
  | some p => if 0 ≤ p.metrics ∧ p.metrics ≤ 4 then some (.v (.bool (keepOkB p)), m) else none
  | none => none
 | _, _ => none
theorem keepOk_eq {p : Pn} (h : 0 ≤ p.metrics ∧ p.metrics ≤ 4) (m : Mem) : keepOkG [.agg p.row] m = some (.v (.bool (keepOkB p)), m) := by
 simp only [keepOkG, unPn_row]
 exact if_pos h
def kpKeepOk : Nat → Option (List Nat) := fun
 | 0 => some [1]
 | 1 => some [1, 5]
 | 2 => some [2]
 | 3 => some [2]
 | _ => none
attribute [go_sem] kpKeepOk
def tab_keepOk_ok : List (FuncId × (List AV → Mem → Option (AV × Mem))) := [(104, seenG), (73, inBG)]
theorem keepOk_ok : FunOk Tryz.prog 79 keepOkG := by
 have hC := table_ok (P := Tryz.prog) (l := tab_keepOk_ok) (table_more seen_ok (table_more planIn_ok table_nil))
 have t1 := fun args mm => table_at (l := tab_keepOk_ok) (f := 104) (args := args) (m := mm) rfl
 have t2 := fun args mm => table_at (l := tab_keepOk_ok) (f := 73) (args := args) (m := mm) rfl
 refine fun_ok mixed hC Tryz.func79 rfl kpKeepOk false rfl fun args m r h => ?_
 unfold keepOkG at h
 split at h
 ·rename_i cs
  split at h
  ·rename_i p hp0
   obtain rfl := unPn_some hp0
   split at h
   ·rename_i hdom
    simp only [Option.some.injEq] at h
    subst h
    refine ⟨Nat.le_of_ble_eq_true rfl, ?_⟩
    refine en ?_
    have v1 : (m.push p.row).var m.vars.length = some p.row := push_var
    have nr := newPn (m := m) (x := p)
    have hA := above_push (cs := p.row) (above_self m)
    refine go1 @nr ?_
    generalize m.push p.row = m2 at v1 hA
    generalize m.vars.length = r1 at v1
    have k1 : (!true) = false := rfl
    have k2 : (!false) = true := rfl
    have lp := vrPn v1
    have la := lpPnKeepAt v1
    have ls := lpPnKeep v1
    have lm := lpPnKeepMetric v1
    have lo := lpPnKeepOn v1
    have lq := lpPnKeepCount v1
    have e1 : eqTy Tryz.prog 8 30 (.agg p.keep.row) (.agg zeroKp) = _ := eqKp (x := p.keep) (y := kp0)
    have c1 := seen_eq hdom p.keepAt p.keep.Metric
    have c2 := inB_eq p.keep.Count 1 16
    unfold keepOkB
    refine go1 @la ?_
    by_cases ha : p.keepAt = -1
    ·rw [if_pos ha]
     refine runs_cond rfl (fun hc => ?_) (fun hc => absurd hc (by rw [ha]; decide))
     refine go1 (jn @ls @e1) ?_
     exact leaves_fin rfl rfl (above_fin hA)
    ·rw [if_neg ha]
     refine runs_cond rfl (fun hc => absurd (eq_of_beq hc) ha) (fun hc => ?_)
     cases h0 : seenB p p.keepAt p.keep.Metric with
     | false =>
      refine go1 (jn @lp (jn @la (jn @lm (jn @t1 (jn @c1 @h0))))) ?_
      exact leaves_fin rfl rfl (above_fin hA)
     | true =>
      cases h1 : p.keep.On with
      | false =>
       refine go1 (jn @lp (jn @la (jn @lm (jn @t1 (jn @c1 (jn @h0 (jn @lo @h1))))))) ?_
       exact leaves_fin rfl rfl (above_fin hA)
      | true =>
       refine go1 (jn @lp (jn @la (jn @lm (jn @t1 (jn @c1 (jn @h0 (jn @lo (jn @h1 (jn @lq (jn @t2 @c2)))))))))) ?_
       exact leaves_fin rfl rfl (above_fin hA)
   ·cases h
  ·cases h
 ·cases h
def cutOkB (p : Pn) : Bool := if p.cutAt = -1 then ((p.plateau.On == pt0.On) && ((p.plateau.Metric == pt0.Metric) && ((p.plateau.Max == pt0.Max) && ((p.plateau.Factor == pt0.Factor) && ((p.plateau.Patience == pt0.Patience) && ((p.plateau.Cooldown == pt0.Cooldown) && ((p.plateau.Floor == pt0.Floor) && ((p.plateau.Delta == pt0.Delta) && true)))))))) else seenB p p.cutAt p.plateau.Metric && p.plateau.On && inB p.plateau.Patience 1 1099511627776 && inB p.plateau.Delta 0 4503599627370496 && inB p.plateau.Floor 0 4503599627370496 && inB p.plateau.Factor 0 4294967295 && inB p.plateau.Cooldown 0 1099511627776
def cutOkG : List AV → Mem → Option (AV × Mem)
 | [.agg cs], m =>
  match unPn cs with
  | some p => if 0 ≤ p.metrics ∧ p.metrics ≤ 4 then some (.v (.bool (cutOkB p)), m) else none
  | none => none
 | _, _ => none
theorem cutOk_eq {p : Pn} (h : 0 ≤ p.metrics ∧ p.metrics ≤ 4) (m : Mem) : cutOkG [.agg p.row] m = some (.v (.bool (cutOkB p)), m) := by
 simp only [cutOkG, unPn_row]
 exact if_pos h
def kpCutOk : Nat → Option (List Nat) := fun
 | 0 => some [1]
 | 1 => some [1, 3]
 | 2 => some [1, 3, 8]
 | 3 => some [2]
 | 4 => some [2]
 | _ => none
attribute [go_sem] kpCutOk
def tab_cutOk_ok : List (FuncId × (List AV → Mem → Option (AV × Mem))) := [(104, seenG), (105, planCountG), (106, planValueG), (73, inBG)]
theorem cutOk_ok : FunOk Tryz.prog 78 cutOkG := by
 have hC := table_ok (P := Tryz.prog) (l := tab_cutOk_ok) (table_more seen_ok (table_more planCount_ok (table_more planValue_ok (table_more planIn_ok table_nil))))
 have t1 := fun args mm => table_at (l := tab_cutOk_ok) (f := 104) (args := args) (m := mm) rfl
 have t2 := fun args mm => table_at (l := tab_cutOk_ok) (f := 105) (args := args) (m := mm) rfl
 have t3 := fun args mm => table_at (l := tab_cutOk_ok) (f := 106) (args := args) (m := mm) rfl
 have t4 := fun args mm => table_at (l := tab_cutOk_ok) (f := 73) (args := args) (m := mm) rfl
 refine fun_ok mixed hC Tryz.func78 rfl kpCutOk false rfl fun args m r h => ?_
 unfold cutOkG at h
 split at h
 ·rename_i cs
  split at h
  ·rename_i p hp0
   obtain rfl := unPn_some hp0
   split at h
   ·rename_i hdom
    simp only [Option.some.injEq] at h
    subst h
    refine ⟨Nat.le_of_ble_eq_true rfl, ?_⟩
    refine en ?_
    have v1 : (m.push p.row).var m.vars.length = some p.row := push_var
    have nr := newPn (m := m) (x := p)
    have hA := above_push (cs := p.row) (above_self m)
    refine go1 @nr ?_
    generalize m.push p.row = m2 at v1 hA
    generalize m.vars.length = r1 at v1
    have k1 : (!true) = false := rfl
    have k2 : (!false) = true := rfl
    have lx := lpPnPlateau v1
    have e1 : eqTy Tryz.prog 8 28 (.agg p.plateau.row) (.agg zeroPt) = _ := eqPt (x := p.plateau) (y := pt0)
    have c1 := seen_eq hdom p.cutAt p.plateau.Metric
    have c2 : ∀ mm, planCountG [.v (.int .i64 p.plateau.Patience)] mm = some (.v (.bool (inB p.plateau.Patience 1 1099511627776)), mm) := fun _ => rfl
    have c3 : ∀ mm, planValueG [.v (.int .i64 p.plateau.Delta)] mm = some (.v (.bool (inB p.plateau.Delta 0 4503599627370496)), mm) := fun _ => rfl
    have c4 : ∀ mm, planValueG [.v (.int .i64 p.plateau.Floor)] mm = some (.v (.bool (inB p.plateau.Floor 0 4503599627370496)), mm) := fun _ => rfl
    have c5 := inB_eq p.plateau.Factor 0 4294967295
    have c6 := inB_eq p.plateau.Cooldown 0 1099511627776
    unfold cutOkB
    have st : evStore Tryz.prog (m2.push zeroPt) 28 (.ptr m2.vars.length 0) (.agg p.plateau.row) = some (m2.push p.plateau.row) := by
     rw [store_push (cs := p.plateau.row) rfl szPt (Nat.le_refl _) rfl]
     rfl
    have w1 := push_old (cs' := p.plateau.row) v1
    have v3 : (m2.push p.plateau.row).var m2.vars.length = some p.plateau.row := push_var
    have hA := above_push (cs := p.plateau.row) hA
    refine go1 (jn @lx @st) ?_
    generalize m2.push p.plateau.row = m3 at w1 v3 hA
    generalize m2.vars.length = r3 at v3
    have lp := vrPn w1
    have la := lpPnCutAt w1
    have ls := vrPt v3
    have lm := lpPtMetric v3
    have lo := lpPtOn v3
    have lq := lpPtPatience v3
    have ld := lpPtDelta v3
    have lf := lpPtFloor v3
    have lg := lpPtFactor v3
    have lh := lpPtCooldown v3
    refine go1 @la ?_
    by_cases ha : p.cutAt = -1
    ·rw [if_pos ha]
     refine runs_cond rfl (fun hc => ?_) (fun hc => absurd hc (by rw [ha]; decide))
     refine go1 (jn @ls @e1) ?_
     exact leaves_fin rfl rfl (above_fin hA)
    ·rw [if_neg ha]
     refine runs_cond rfl (fun hc => absurd (eq_of_beq hc) ha) (fun hc => ?_)
     cases h0 : seenB p p.cutAt p.plateau.Metric with
     | false =>
      refine go1 (jn @lp (jn @la (jn @lm (jn @t1 (jn @c1 @h0))))) ?_
      exact leaves_fin rfl rfl (above_fin hA)
     | true =>
      cases h1 : p.plateau.On with
      | false =>
       refine go1 (jn @lp (jn @la (jn @lm (jn @t1 (jn @c1 (jn @h0 (jn @lo @h1))))))) ?_
       exact leaves_fin rfl rfl (above_fin hA)
      | true =>
       cases h2 : inB p.plateau.Patience 1 1099511627776 with
       | false =>
        refine go1 (jn @lp (jn @la (jn @lm (jn @t1 (jn @c1 (jn @h0 (jn @lo (jn @h1 (jn @lq (jn @t2 (jn @c2 @h2))))))))))) ?_
        exact leaves_fin rfl rfl (above_fin hA)
       | true =>
        cases h3 : inB p.plateau.Delta 0 4503599627370496 with
        | false =>
         refine go1 (jn @lp (jn @la (jn @lm (jn @t1 (jn @c1 (jn @h0 (jn @lo (jn @h1 (jn @lq (jn @t2 (jn @c2 (jn @h2 (jn @ld (jn @t3 (jn @c3 @h3))))))))))))))) ?_
         exact leaves_fin rfl rfl (above_fin hA)
        | true =>
         cases h4 : inB p.plateau.Floor 0 4503599627370496 with
         | false =>
          refine go1 (jn @lp (jn @la (jn @lm (jn @t1 (jn @c1 (jn @h0 (jn @lo (jn @h1 (jn @lq (jn @t2 (jn @c2 (jn @h2 (jn @ld (jn @t3 (jn @c3 (jn @h3 (jn @lf (jn @c4 @h4)))))))))))))))))) ?_
          exact leaves_fin rfl rfl (above_fin hA)
         | true =>
          cases h5 : inB p.plateau.Factor 0 4294967295 with
          | false =>
           refine go1 (jn @lp (jn @la (jn @lm (jn @t1 (jn @c1 (jn @h0 (jn @lo (jn @h1 (jn @lq (jn @t2 (jn @c2 (jn @h2 (jn @ld (jn @t3 (jn @c3 (jn @h3 (jn @lf (jn @c4 (jn @h4 (jn @lg (jn @t4 (jn @c5 @h5)))))))))))))))))))))) ?_
           exact leaves_fin rfl rfl (above_fin hA)
          | true =>
           refine go1 (jn @lp (jn @la (jn @lm (jn @t1 (jn @c1 (jn @h0 (jn @lo (jn @h1 (jn @lq (jn @t2 (jn @c2 (jn @h2 (jn @ld (jn @t3 (jn @c3 (jn @h3 (jn @lf (jn @c4 (jn @h4 (jn @lg (jn @t4 (jn @c5 (jn @h5 (jn @lh @c6)))))))))))))))))))))))) ?_
           exact leaves_fin rfl rfl (above_fin hA)
   ·cases h
  ·cases h
 ·cases h
def avgOkB (p : Pn) : Bool := (((p.ema.On == em0.On) && ((p.ema.Decay == em0.Decay) && true)) || (p.ema.On && inB p.ema.Decay 0 4294967296)) && (if p.swaEvery = 0 then p.swaFrom == 0 else inB p.swaEvery 1 1099511627776 && inB p.swaFrom 0 p.steps)
def avgOkG : List AV → Mem → Option (AV × Mem)
 | [.agg cs], m =>
  match unPn cs with
  | some p => some (.v (.bool (avgOkB p)), m)
  | none => none
 | _, _ => none
theorem avgOk_eq {p : Pn} (m : Mem) : avgOkG [.agg p.row] m = some (.v (.bool (avgOkB p)), m) := by
 simp only [avgOkG, unPn_row]
def kpAvgOk : Nat → Option (List Nat) := fun
 | 0 => some [1]
 | 1 => some [1, 18]
 | 2 => some [2]
 | 3 => some [1, 21]
 | 4 => some [2]
 | 5 => some [2]
 | _ => none
attribute [go_sem] kpAvgOk
def tab_avgOk_ok : List (FuncId × (List AV → Mem → Option (AV × Mem))) := [(73, inBG), (105, planCountG)]
theorem avgOk_ok : FunOk Tryz.prog 80 avgOkG := by
 have hC := table_ok (P := Tryz.prog) (l := tab_avgOk_ok) (table_more planIn_ok (table_more planCount_ok table_nil))
 have t1 := fun args mm => table_at (l := tab_avgOk_ok) (f := 73) (args := args) (m := mm) rfl
 have t2 := fun args mm => table_at (l := tab_avgOk_ok) (f := 105) (args := args) (m := mm) rfl
 refine fun_ok mixed hC Tryz.func80 rfl kpAvgOk false rfl fun args m r h => ?_
 unfold avgOkG at h
 split at h
 ·rename_i cs
  split at h
  ·rename_i p hp0
   obtain rfl := unPn_some hp0
   simp only [Option.some.injEq] at h
   subst h
   refine ⟨Nat.le_of_ble_eq_true rfl, ?_⟩
   refine en ?_
   have v1 : (m.push p.row).var m.vars.length = some p.row := push_var
   have nr := newPn (m := m) (x := p)
   have hA := above_push (cs := p.row) (above_self m)
   refine go1 @nr ?_
   generalize m.push p.row = m2 at v1 hA
   generalize m.vars.length = r1 at v1
   have k1 : (!true) = false := rfl
   have k2 : (!false) = true := rfl
   have ls := lpPnEma v1
   have lo := lpPnEmaOn v1
   have ld := lpPnEmaDecay v1
   have lv := lpPnSwaEvery v1
   have lf := lpPnSwaFrom v1
   have lt := lpPnSteps v1
   have e1 : eqTy Tryz.prog 8 32 (.agg p.ema.row) (.agg zeroEm) = _ := eqEm (x := p.ema) (y := em0)
   have c1 := inB_eq p.ema.Decay 0 4294967296
   have c2 : ∀ mm, planCountG [.v (.int .i64 p.swaEvery)] mm = some (.v (.bool (inB p.swaEvery 1 1099511627776)), mm) := fun _ => rfl
   have c3 := inB_eq p.swaFrom 0 p.steps
   unfold avgOkB
   cases hq : ((p.ema.On == em0.On) && ((p.ema.Decay == em0.Decay) && true)) with
   | true =>
    refine go1 (jn @ls (jn @e1 (jn @hq @k1))) ?_
    refine runs_cond rfl (fun hc => by cases hc) (fun hc => ?_)
    refine go1 @lv ?_
    by_cases hz : p.swaEvery = 0
    ·rw [if_pos hz]
     refine runs_cond rfl (fun hc => ?_) (fun hc => absurd hc (by rw [hz]; decide))
     refine go1 @lf ?_
     exact leaves_fin rfl rfl (above_fin hA)
    ·rw [if_neg hz]
     refine runs_cond rfl (fun hc => absurd (eq_of_beq hc) hz) (fun hc => ?_)
     cases g0 : inB p.swaEvery 1 1099511627776 with
     | false =>
      refine go1 (jn @lv (jn @t2 (jn @c2 @g0))) ?_
      exact leaves_fin rfl rfl (above_fin hA)
     | true =>
      refine go1 (jn @lv (jn @t2 (jn @c2 (jn @g0 (jn @lf (jn @lt (jn @t1 @c3))))))) ?_
      exact leaves_fin rfl rfl (above_fin hA)
   | false =>
    cases ho : p.ema.On with
    | false =>
     rw [ho] at hq
     refine go1 (jn @ls (jn @e1 (jn @hq (jn @k2 (jn @lo @ho))))) ?_
     refine runs_cond rfl (fun hc => ?_) (fun hc => by cases hc)
     refine go0 ?_
     exact leaves_fin rfl rfl (above_fin hA)
    | true =>
     rw [ho] at hq
     cases hd : inB p.ema.Decay 0 4294967296 with
     | false =>
      refine go1 (jn @ls (jn @e1 (jn @hq (jn @k2 (jn @lo (jn @ho (jn @ld (jn @t1 (jn @c1 @hd))))))))) ?_
      refine runs_cond rfl (fun hc => ?_) (fun hc => by cases hc)
      refine go0 ?_
      exact leaves_fin rfl rfl (above_fin hA)
     | true =>
      refine go1 (jn @ls (jn @e1 (jn @hq (jn @k1 (jn @k2 (jn @lo (jn @ho (jn @ld (jn @t1 (jn @c1 @hd)))))))))) ?_
      refine runs_cond rfl (fun hc => by cases hc) (fun hc => ?_)
      refine go1 @lv ?_
      by_cases hz : p.swaEvery = 0
      ·rw [if_pos hz]
       refine runs_cond rfl (fun hc => ?_) (fun hc => absurd hc (by rw [hz]; decide))
       refine go1 @lf ?_
       exact leaves_fin rfl rfl (above_fin hA)
      ·rw [if_neg hz]
       refine runs_cond rfl (fun hc => absurd (eq_of_beq hc) hz) (fun hc => ?_)
       cases g0 : inB p.swaEvery 1 1099511627776 with
       | false =>
        refine go1 (jn @lv (jn @t2 (jn @c2 @g0))) ?_
        exact leaves_fin rfl rfl (above_fin hA)
       | true =>
        refine go1 (jn @lv (jn @t2 (jn @c2 (jn @g0 (jn @lf (jn @lt (jn @t1 @c3))))))) ?_
        exact leaves_fin rfl rfl (above_fin hA)
  ·cases h
 ·cases h
end
section
attribute [local irreducible] Next Inside Runs Ops table
attribute [local irreducible] XRuns XOps
attribute [local go_sem] szStr szInt Option.getD_some isNil evStr evMinMax evFoldI iv mapPn cellsPn newPn fpPnSteps fpPnGroups fpPnSpans fpPnFrozen fpPnTracks rowsSp_len rowsTk_len rowsSg_len rowsBs_len rowsBo_len ldSp ldTk ldBs zrSp zoSp znSp zrTk zoTk znTk fpSpFrom_ fpSpTo_ fpTkGroup fpTkParam fpTkSegs feSgFrom_ leSgFrom_ feSgTo_ leSgTo_
theorem all_no {p : Nat → Bool} {n i : Nat} (hi : i < n) (h : p i = false) : (List.range n).all p = false := List.all_eq_false.2 ⟨i, List.mem_range.2 hi, by rw [h]; simp⟩
theorem all_succ (p : Nat → Bool) (n : Nat) : (List.range (n + 1)).all p = ((List.range n).all p && p n) := by
 rw [List.range_succ, List.all_append]
 simp
def prevTo (l : List Sp) (i : Nat) : Int := if i = 0 then 0 else (l.getD (i - 1) sp0).to_
def spAt (l : List Sp) (i : Nat) : Bool := ((l.getD i sp0).from_ == prevTo l i) && decide (prevTo l i < (l.getD i sp0).to_)
def spansOkB (p : Pn) : Bool := (List.range p.spans.length).all (spAt p.spans) && (prevTo p.spans p.spans.length == p.steps) && decide ((p.spans.length : Int) ≤ 16)
def spansOkG : List AV → Mem → Option (AV × Mem)
 | [.agg cs], m =>
  match unPn cs with
  | some p => if p.spans.length ≤ 1000000 then some (.v (.bool (spansOkB p)), m) else none
  | none => none
 | _, _ => none
theorem spansOk_eq {p : Pn} (h : p.spans.length ≤ 1000000) (m : Mem) : spansOkG [.agg p.row] m = some (.v (.bool (spansOkB p)), m) := by
 simp only [spansOkG, unPn_row]
 exact if_pos h
theorem stSp2 {m : Mem} {x : Sp} : evStore Tryz.prog (m.push zeroSp) 94 (.ptr m.vars.length 0) (.agg x.row) = some (m.push x.row) := by
 rw [store_push (cs := x.row) rfl szSp (Nat.le_refl _) rfl]
 rfl
theorem stTk {m : Mem} {x : Tk} : evStore Tryz.prog (m.push zeroTk) 68 (.ptr m.vars.length 0) (.agg x.row) = some (m.push x.row) := by
 rw [store_push (cs := x.row) rfl szTk (Nat.le_refl _) rfl]
 rfl
def kpSpansOk : Nat → Option (List Nat) := fun
 | 0 => some [1]
 | 1 => some [1, 3]
 | 2 => some [1, 3, 7, 8, 9]
 | 3 => some [1, 3, 7, 8, 9, 10]
 | 4 => some [1, 3, 5, 7, 8, 9]
 | 5 => some [1, 5, 7, 8, 9, 22]
 | 6 => some [2]
 | 7 => some [1, 3, 7, 8, 9]
 | 8 => some [1, 3, 7, 8, 9]
 | 9 => some [2]
 | _ => none
attribute [go_sem] kpSpansOk
theorem spansOk_ok : FunOk Tryz.prog 74 spansOkG := by
 have hC := table_ok (P := Tryz.prog) (l := []) table_nil
 refine fun_ok mixed hC Tryz.func74 rfl kpSpansOk false rfl fun args m r h => ?_
 unfold spansOkG at h
 split at h
 ·rename_i cs
  split at h
  ·rename_i p hp0
   obtain rfl := unPn_some hp0
   split at h
   ·rename_i hlen
    simp only [Option.some.injEq] at h
    subst h
    refine ⟨Nat.le_of_ble_eq_true rfl, ?_⟩
    refine en ?_
    have v1 : (m.push p.row).var m.vars.length = some p.row := push_var
    have nr := newPn (m := m) (x := p)
    have hA := above_push (cs := p.row) (above_self m)
    refine go1 @nr ?_
    generalize m.push p.row = m2 at v1 hA
    generalize m.vars.length = r1 at v1
    have l1 := lpPnSpans v1
    generalize hl : p.spans = l at l1 hlen
    have fin : ∀ (e : Env) (m' : Mem) (b : Bool), Above m m' → Ev.get e 2 = .v (.bool b) → b = spansOkB p → Leaves Tryz.prog false Tryz.f74 m (.v (.bool (spansOkB p)), m) .ret e m' := fun e m' b h0 h1 h2 => by rw [← h2]; exact leaves_fin rfl h1 (above_fin h0)
    have hB : spansOkB p = ((List.range l.length).all (spAt l) && (prevTo l l.length == p.steps) && decide ((l.length : Int) ≤ 16)) := by unfold spansOkB; rw [hl]
    refine go1 @l1 ?_
    refine runs_loop (fun k e m' => ∃ i : Nat, i ≤ l.length ∧ (List.range i).all (spAt l) = true ∧ Above m m' ∧ m'.var r1 = some p.row ∧ k = l.length - i ∧ e = [(1, .ptr r1 0), (3, .v (.int .i64 (prevTo l i))), (7, .lst .no 2 (rowsSp l)), (8, .v (.int .i64 (l.length : Int))), (9, .v (.int .i64 (i : Int)))]) (k := l.length) ⟨0, Nat.zero_le _, rfl, hA, v1, rfl, rfl⟩ ?_
    rintro k e m' ⟨i, hi0, hpre, hA2, w1, rfl, rfl⟩
    refine go0 ?_
    refine runs_cond rfl (fun hc => ?_) (fun hc => ?_)
    ·have hi1 : i < l.length := by have := of_decide_eq_true hc; omega
     have f1 := atSp (g := .no) (kk := .i64) hi1
     have r6 := next_i64 (i := i) (by omega)
     have hS : spAt l i = (((l.getD i sp0).from_ == prevTo l i) && decide (prevTo l i < (l.getD i sp0).to_)) := rfl
     have hpre2 := all_succ (spAt l) i
     rw [hpre, Bool.true_and] at hpre2
     have hnext : prevTo l (i + 1) = (l.getD i sp0).to_ := rfl
     generalize l.getD i sp0 = s at f1 hS hnext
     have st := stSp2 (m := m') (x := s)
     have v5 : (m'.push s.row).var m'.vars.length = some s.row := push_var
     have w1' := push_old (cs' := s.row) w1
     have hA3 := above_push (cs := s.row) hA2
     refine go1 (jn @f1 @st) ?_
     generalize m'.push s.row = m3 at v5 hA3 w1'
     generalize m'.vars.length = r5 at v5
     have a1 := lpSpFrom_ v5
     have a2 := lpSpTo_ v5
     cases q1 : (s.from_ != prevTo l i) with
     | true =>
      have hn : s.from_ ≠ prevTo l i := by simpa using q1
      refine go1 (jn @a1 @q1) ?_
      refine runs_cond rfl (fun hc => ?_) (fun hc => by cases hc)
      refine go0 ?_
      exact fin _ _ _ hA3 rfl (by rw [hB, all_no hi1 (by rw [hS, beq_eq_false_iff_ne.2 hn]; rfl)]; rfl)
     | false =>
      have hn : s.from_ = prevTo l i := by simpa using q1
      cases q2 : decide (s.to_ ≤ prevTo l i) with
      | true =>
       have := of_decide_eq_true q2
       refine go1 (jn @a1 (jn @q1 (jn @a2 @q2))) ?_
       refine runs_cond rfl (fun hc => ?_) (fun hc => by cases hc)
       refine go0 ?_
       exact fin _ _ _ hA3 rfl (by rw [hB, all_no hi1 (by rw [hS, decide_eq_false (by omega), Bool.and_false])]; rfl)
      | false =>
       have := of_decide_eq_false q2
       refine go1 (jn @a1 (jn @q1 (jn @a2 @q2))) ?_
       refine runs_cond rfl (fun hc => by cases hc) (fun hc => ?_)
       refine go1 (jn @a2 @r6) ?_
       exact ⟨l.length - (i + 1), by omega, i + 1, hi1, by rw [hpre2, hS, hn, beq_self_eq_true, decide_eq_true (by omega)]; rfl, hA3, w1', rfl, by rw [hnext]⟩
    ·obtain rfl : i = l.length := by have := of_decide_eq_false hc; omega
     have a1 := lpPnSteps w1
     have a2 := lpPnSpans w1
     rw [hl] at a2
     rw [hpre, Bool.true_and] at hB
     cases q1 : (prevTo l l.length == p.steps) with
     | false =>
      refine go1 (jn @a1 @q1) ?_
      exact fin _ _ _ hA2 rfl (by rw [hB, q1]; rfl)
     | true =>
      refine go1 (jn @a1 (jn @q1 @a2)) ?_
      exact fin _ _ _ hA2 rfl (by rw [hB, q1]; rfl)
   ·cases h
  ·cases h
 ·cases h
def frAt (p : Pn) (i : Nat) : Bool := (((p.frozen.getD i []).length : Int) == p.groups)
def frozenOkB (p : Pn) : Bool := (List.range p.frozen.length).all (frAt p) && ((p.frozen.length : Int) == (p.spans.length : Int))
def frozenOkG : List AV → Mem → Option (AV × Mem)
 | [.agg cs], m =>
  match unPn cs with
  | some p => if p.frozen.length ≤ 1000000 then some (.v (.bool (frozenOkB p)), m) else none
  | none => none
 | _, _ => none
theorem frozenOk_eq {p : Pn} (h : p.frozen.length ≤ 1000000) (m : Mem) : frozenOkG [.agg p.row] m = some (.v (.bool (frozenOkB p)), m) := by
 simp only [frozenOkG, unPn_row]
 exact if_pos h
def kpFrozenOk : Nat → Option (List Nat) := fun
 | 0 => some [1]
 | 1 => some [1, 6, 7, 8]
 | 2 => some [1, 6, 7, 8, 9]
 | 3 => some [1, 4, 6, 7, 8]
 | 4 => some [1, 6, 7, 8, 16]
 | 5 => some [2]
 | 6 => some [1, 6, 7, 8]
 | 7 => some [2]
 | _ => none
attribute [go_sem] kpFrozenOk
theorem frozenOk_ok : FunOk Tryz.prog 75 frozenOkG := by
 have hC := table_ok (P := Tryz.prog) (l := []) table_nil
 refine fun_ok mixed hC Tryz.func75 rfl kpFrozenOk false rfl fun args m r h => ?_
 unfold frozenOkG at h
 split at h
 ·rename_i cs
  split at h
  ·rename_i p hp0
   obtain rfl := unPn_some hp0
   split at h
   ·rename_i hlen
    simp only [Option.some.injEq] at h
    subst h
    refine ⟨Nat.le_of_ble_eq_true rfl, ?_⟩
    refine en ?_
    have v1 : (m.push p.row).var m.vars.length = some p.row := push_var
    have nr := newPn (m := m) (x := p)
    have hA := above_push (cs := p.row) (above_self m)
    refine go1 @nr ?_
    generalize m.push p.row = m2 at v1 hA
    generalize m.vars.length = r1 at v1
    have l1 := lpPnFrozen v1
    have l2 := lpPnGroups v1
    have l3 := lpPnSpans v1
    have fin : ∀ (e : Env) (b : Bool), Ev.get e 2 = .v (.bool b) → b = frozenOkB p → Leaves Tryz.prog false Tryz.f75 m (.v (.bool (frozenOkB p)), m) .ret e m2 := fun e b h1 h2 => by rw [← h2]; exact leaves_fin rfl h1 (above_fin hA)
    refine go1 @l1 ?_
    refine runs_loop (fun k e m' => ∃ i : Nat, i ≤ p.frozen.length ∧ (List.range i).all (frAt p) = true ∧ m2 = m' ∧ k = p.frozen.length - i ∧ e = [(1, .ptr r1 0), (6, .lst .no 1 (rowsBs p.frozen)), (7, .v (.int .i64 (p.frozen.length : Int))), (8, .v (.int .i64 (i : Int)))]) (k := p.frozen.length) ⟨0, Nat.zero_le _, rfl, rfl, rfl, rfl⟩ ?_
    rintro k e m' ⟨i, hi0, hpre, rfl, rfl, rfl⟩
    refine go0 ?_
    refine runs_cond rfl (fun hc => ?_) (fun hc => ?_)
    ·have hi1 : i < p.frozen.length := by have := of_decide_eq_true hc; omega
     have f1 := atBs (g := .no) (kk := .i64) hi1
     have r6 := next_i64 (i := i) (by omega)
     have hS : frAt p i = (((p.frozen.getD i []).length : Int) == p.groups) := rfl
     have hpre2 := all_succ (frAt p) i
     rw [hpre, Bool.true_and] at hpre2
     generalize p.frozen.getD i [] = row at f1 hS
     refine go1 (jn @f1 @l2) ?_
     cases q1 : ((row.length : Int) != p.groups) with
     | true =>
      have hn : (row.length : Int) ≠ p.groups := by simpa using q1
      refine runs_cond rfl (fun hc => ?_) (fun hc => absurd hc (by decide))
      refine go0 ?_
      exact fin _ _ rfl (by unfold frozenOkB; rw [all_no hi1 (by rw [hS, beq_eq_false_iff_ne.2 hn])]; rfl)
     | false =>
      have hn : (row.length : Int) = p.groups := by simpa using q1
      refine runs_cond rfl (fun hc => absurd hc (by decide)) (fun hc => ?_)
      refine go1 @r6 ?_
      exact ⟨p.frozen.length - (i + 1), by omega, i + 1, hi1, by rw [hpre2, hS, hn]; exact beq_self_eq_true _, rfl, rfl, rfl⟩
    ·obtain rfl : i = p.frozen.length := by have := of_decide_eq_false hc; omega
     refine go1 (jn @l1 @l3) ?_
     exact fin _ _ rfl (by unfold frozenOkB; rw [hpre, Bool.true_and])
   ·cases h
  ·cases h
 ·cases h
end
section
attribute [local irreducible] Next Inside Runs Ops table
attribute [local irreducible] XRuns XOps
attribute [local go_sem] szStr szInt Option.getD_some isNil evStr evMinMax evFoldI iv mapPn cellsPn newPn fpPnSteps fpPnWeights fpPnMetrics fpPnEval fpPnGroups fpPnSpans fpPnFrozen fpPnTracks rowsSp_len rowsTk_len rowsSg_len ldTk zrTk zoTk znTk fpTkGroup fpTkParam fpTkSegs feSgFrom_ leSgFrom_ feSgTo_ leSgTo_
def tkB (p : Pn) (i : Nat) (t : Tk) : Bool := (t.group == ((i / 3 : Nat) : Int)) && (t.param == ((i % 3 : Nat) : Int)) && segsOk t.segs && ((t.segs.getD 0 sg0).from_ == 0) && ((t.segs.getD (t.segs.length - 1) sg0).to_ == p.steps)
def tkAt (p : Pn) (i : Nat) : Bool := tkB p i (p.tracks.getD i tk0)
def tracksOkB (p : Pn) : Bool := (List.range p.tracks.length).all (tkAt p) && ((p.tracks.length : Int) == p.groups * 3)
def tracksDom (p : Pn) : Prop := p.tracks.length ≤ 1000000 ∧ (∀ t ∈ p.tracks, t.segs.length ≤ 1000000) ∧ 1 ≤ p.groups ∧ p.groups ≤ 8
instance (p : Pn) : Decidable (tracksDom p) := by unfold tracksDom; exact inferInstance
def tracksOkG : List AV → Mem → Option (AV × Mem)
 | [.agg cs], m =>
  match unPn cs with
  | some p => if tracksDom p then some (.v (.bool (tracksOkB p)), m) else none
  | none => none
 | _, _ => none
theorem tracksOk_eq {p : Pn} (h : tracksDom p) (m : Mem) : tracksOkG [.agg p.row] m = some (.v (.bool (tracksOkB p)), m) := by
 simp only [tracksOkG, unPn_row]
 exact if_pos h
theorem segsOk_pos {l : List Sg} (h : segsOk l = true) : 0 < l.length := by
 unfold segsOk at h
 rw [Bool.and_eq_true, decide_eq_true_eq] at h
 omega
def kpTracksOk : Nat → Option (List Nat) := fun
 | 0 => some [1]
 | 1 => some [1, 6, 7, 8]
 | 2 => some [1, 6, 7, 8, 9]
 | 3 => some [1, 3, 4, 6, 7, 8]
 | 4 => some [1, 4, 6, 7, 8, 30]
 | 5 => some [2]
 | 6 => some [1, 6, 7, 8, 50]
 | 7 => some [2]
 | 8 => some [1, 6, 7, 8]
 | 9 => some [2]
 | _ => none
attribute [go_sem] kpTracksOk
theorem tracksOk_ok : FunOk Tryz.prog 76 tracksOkG := by
 have hC := table_ok (P := Tryz.prog) (l := [(103, segsCheckG)]) (table_more segsCheck_ok table_nil)
 have t1 := fun args mm => table_at (l := [(103, segsCheckG)]) (f := 103) (args := args) (m := mm) rfl
 refine fun_okX Tryz.func76 rfl false rfl fun args m r h => ?_
 unfold tracksOkG at h
 split at h
 ·rename_i cs
  split at h
  ·rename_i p hp0
   obtain rfl := unPn_some hp0
   split at h
   ·rename_i hdom
    obtain ⟨hlen, hsl, g0, g1⟩ := hdom
    simp only [Option.some.injEq] at h
    subst h
    refine ⟨Nat.le_of_ble_eq_true rfl, fun φ wd => ?_⟩
    refine en ?_
    have v1 : (m.push p.row).var m.vars.length = some p.row := push_var
    have nr := newPn (m := m) (x := p)
    have hA := above_push (cs := p.row) (above_self m)
    refine xq ?_
    refine x_region (kp := kpTracksOk) mixed hC ?_
    refine go1 @nr ?_
    refine xq ?_
    generalize m.push p.row = m2 at v1 hA
    generalize m.vars.length = r1 at v1
    have l1 := lpPnTracks v1
    have fin : ∀ (e : Env) (m' : Mem) (F : Objs) (b : Bool), Above m m' → Ev.get e 2 = .v (.bool b) → b = tracksOkB p → XLeaves Tryz.prog false Tryz.f76 m (.v (.bool (tracksOkB p)), m) .ret e m' F := fun e m' F b h0 h1 h2 => by rw [← h2]; exact x_leaves (leaves_fin rfl h1 (above_fin h0))
    have n3 : ¬ (3 : Int) = 0 := by decide
    refine x_region (kp := kpTracksOk) mixed hC ?_
    refine go1 @l1 ?_
    refine xq ?_
    refine x_loop (fun k e m' F => ∃ i : Nat, i ≤ p.tracks.length ∧ (List.range i).all (tkAt p) = true ∧ Above m m' ∧ m'.var r1 = some p.row ∧ k = p.tracks.length - i ∧ e = [(1, AV.ptr r1 0), (6, .lst .no 3 (rowsTk p.tracks)), (7, .v (.int .i64 (p.tracks.length : Int))), (8, .v (.int .i64 (i : Int)))]) (k := p.tracks.length) ⟨0, Nat.zero_le _, rfl, hA, v1, rfl, rfl⟩ ?_
    rintro k e m' F ⟨i, hi0, hpre, hA2, w1, rfl, rfl⟩
    refine xq ?_
    refine x_region (kp := kpTracksOk) mixed hC ?_
    refine go0 ?_
    refine xq ?_
    refine x_cond rfl (fun hc => ?_) (fun hc => ?_)
    ·have hi1 : i < p.tracks.length := by have := of_decide_eq_true hc; omega
     have f1 := atTk (g := .no) (kk := .i64) hi1
     have r6 := next_i64 (i := i) (by omega)
     have hS : tkAt p i = tkB p i (p.tracks.getD i tk0) := rfl
     have hpre2 := all_succ (tkAt p) i
     rw [hpre, Bool.true_and] at hpre2
     have hsl2 := hsl (p.tracks.getD i tk0) (getD_in hi1)
     generalize p.tracks.getD i tk0 = t at f1 hS hsl2
     have st := stTk (m := m') (x := t)
     have v4 : (m'.push t.row).var m'.vars.length = some t.row := push_var
     have w2 := push_old (cs' := t.row) w1
     have hA3 := above_push (cs := t.row) hA2
     refine xq ?_
     refine x_region (kp := kpTracksOk) mixed hC ?_
     refine go1 (jn @f1 @st) ?_
     refine xq ?_
     generalize m'.push t.row = m3 at v4 hA3 w2
     generalize m'.vars.length = r4 at v4
     have a1 := lpTkGroup v4
     have a2 := lpTkParam v4
     have a3 := lpTkSegs v4
     have a4 := lpPnSteps w2
     have d1 : (i : Int).tdiv 3 = ((i / 3 : Nat) : Int) := rfl
     have d2 : (i : Int).tmod 3 = ((i % 3 : Nat) : Int) := rfl
     have d3 : IntKind.i64.wrap ((i / 3 : Nat) : Int) = ((i / 3 : Nat) : Int) := wrap_i64 (by omega) (by omega)
     have c1 := segsCheck_eq (g := .no) hsl2
     have bad : tkB p i t = false → (false = tracksOkB p) := fun hh => by unfold tracksOkB; rw [all_no hi1 (by rw [hS, hh])]; rfl
     refine x_region (kp := kpTracksOk) mixed hC ?_
     cases q1 : (t.group != ((i / 3 : Nat) : Int)) with
     | true =>
      have hn : t.group ≠ ((i / 3 : Nat) : Int) := by simpa using q1
      refine go1 (jn @n3 (jn @d1 (jn @d2 (jn @d3 (jn @a1 @q1))))) ?_
      refine xq ?_
      refine x_cond rfl (fun hc => ?_) (fun hc => by cases hc)
      refine xq ?_
      refine x_region (kp := kpTracksOk) mixed hC ?_
      refine go0 ?_
      refine xq ?_
      exact fin _ _ _ _ hA3 rfl (bad (by unfold tkB; rw [beq_eq_false_iff_ne.2 hn]; rfl))
     | false =>
      have hn1 : t.group = ((i / 3 : Nat) : Int) := by simpa using q1
      cases q2 : (t.param != ((i % 3 : Nat) : Int)) with
      | true =>
       have hn : t.param ≠ ((i % 3 : Nat) : Int) := by simpa using q2
       refine go1 (jn @n3 (jn @d1 (jn @d2 (jn @d3 (jn @a1 (jn @q1 (jn @a2 @q2))))))) ?_
       refine xq ?_
       refine x_cond rfl (fun hc => ?_) (fun hc => by cases hc)
       refine xq ?_
       refine x_region (kp := kpTracksOk) mixed hC ?_
       refine go0 ?_
       refine xq ?_
       exact fin _ _ _ _ hA3 rfl (bad (by unfold tkB; rw [beq_eq_false_iff_ne.2 hn, Bool.and_false]; rfl))
      | false =>
       have hn2 : t.param = ((i % 3 : Nat) : Int) := by simpa using q2
       cases q3 : segsOk t.segs with
       | false =>
        rw [q3] at c1
        simp only [Bool.false_eq_true, if_false] at c1
        have z1 : ((1 : Int) != 0) = true := rfl
        refine go1 (jn @n3 (jn @d1 (jn @d2 (jn @d3 (jn @a1 (jn @q1 (jn @a2 (jn @q2 (jn @a3 (jn @t1 (jn @c1 @z1))))))))))) ?_
        refine xq ?_
        refine x_cond rfl (fun hc => ?_) (fun hc => by cases hc)
        refine xq ?_
        refine x_region (kp := kpTracksOk) mixed hC ?_
        refine go0 ?_
        refine xq ?_
        exact fin _ _ _ _ hA3 rfl (bad (by unfold tkB; rw [q3, Bool.and_false]; rfl))
       | true =>
        rw [q3] at c1
        simp only [if_true] at c1
        have z0 : ((0 : Int) != 0) = false := rfl
        refine go1 (jn @n3 (jn @d1 (jn @d2 (jn @d3 (jn @a1 (jn @q1 (jn @a2 (jn @q2 (jn @a3 (jn @t1 (jn @c1 @z0))))))))))) ?_
        refine xq ?_
        refine x_cond rfl (fun hc => by cases hc) (fun hc => ?_)
        refine xq ?_
        have hpos := segsOk_pos q3
        have s0 : evIndexAddr Tryz.prog 66 (.lst .no 10 (rowsSg t.segs)) (.v (.int .i64 0)) = some (.eptr (t.segs.getD 0 sg0).row) := atSg (kk := .i64) (i := 0) hpos
        have s1 := atSg (g := .no) (kk := .i64) (l := t.segs) (i := t.segs.length - 1) (by omega)
        have w3 : IntKind.i64.wrap ((t.segs.length : Int) - 1) = ((t.segs.length - 1 : Nat) : Int) := by rw [wrap_i64 (by omega) (by omega)]; omega
        have hT : tkB p i t = (((t.segs.getD 0 sg0).from_ == 0) && ((t.segs.getD (t.segs.length - 1) sg0).to_ == p.steps)) := by
         unfold tkB
         rw [hn1, hn2, q3, beq_self_eq_true, beq_self_eq_true]
         simp only [Bool.true_and]
        generalize t.segs.getD 0 sg0 = sa at s0 hT
        generalize t.segs.getD (t.segs.length - 1) sg0 = sb at s1 hT
        refine x_walk0 (l2 := kpTracksOk 6) mixed hC (by kernel_rfl) ?_
        cases q4 : (sa.from_ != 0) with
        | true =>
         have hn : sa.from_ ≠ 0 := by simpa using q4
         refine gof1 (jn @a3 (jn @s0 @q4)) ?_
         refine xq ?_
         refine x_cond rfl (fun hc => ?_) (fun hc => by cases hc)
         refine xq ?_
         refine x_region (kp := kpTracksOk) mixed hC ?_
         refine go0 ?_
         refine xq ?_
         exact fin _ _ _ _ hA3 rfl (bad (by rw [hT, beq_eq_false_iff_ne.2 hn]; rfl))
        | false =>
         have hn : sa.from_ = 0 := by simpa using q4
         cases q5 : (sb.to_ != p.steps) with
         | true =>
          have hn : sb.to_ ≠ p.steps := by simpa using q5
          refine gof1 (jn @a3 (jn @s0 (jn @q4 (jn @w3 (jn @s1 (jn @a4 @q5)))))) ?_
          refine xq ?_
          refine x_cond rfl (fun hc => ?_) (fun hc => by cases hc)
          refine xq ?_
          refine x_region (kp := kpTracksOk) mixed hC ?_
          refine go0 ?_
          refine xq ?_
          exact fin _ _ _ _ hA3 rfl (bad (by rw [hT, beq_eq_false_iff_ne.2 hn, Bool.and_false]))
         | false =>
          have hn9 : sb.to_ = p.steps := by simpa using q5
          refine gof1 (jn @a3 (jn @s0 (jn @q4 (jn @w3 (jn @s1 (jn @a4 @q5)))))) ?_
          refine xq ?_
          refine x_cond rfl (fun hc => by cases hc) (fun hc => ?_)
          refine xq ?_
          refine x_region (kp := kpTracksOk) mixed hC ?_
          refine go1 @r6 ?_
          refine xq ?_
          exact ⟨p.tracks.length - (i + 1), by omega, i + 1, hi1, by rw [hpre2, hS, hT, hn, hn9, beq_self_eq_true, beq_self_eq_true]; rfl, hA3, w2, rfl, rfl⟩
    ·obtain rfl : i = p.tracks.length := by have := of_decide_eq_false hc; omega
     have a1 := lpPnTracks w1
     have a2 := lpPnGroups w1
     have w3 : IntKind.i64.wrap (p.groups * 3) = p.groups * 3 := wrap_i64 (by omega) (by omega)
     refine xq ?_
     refine x_region (kp := kpTracksOk) mixed hC ?_
     refine go1 (jn @a1 (jn @a2 @w3)) ?_
     refine xq ?_
     exact fin _ _ _ _ hA2 rfl (by unfold tracksOkB; rw [hpre, Bool.true_and])
   ·cases h
  ·cases h
 ·cases h
/-! ### plan.Check -/
def Pn.fit (p : Pn) : Prop := p.spans.length ≤ 1000000 ∧ p.frozen.length ≤ 1000000 ∧ p.tracks.length ≤ 1000000 ∧ ∀ t ∈ p.tracks, t.segs.length ≤ 1000000
instance (p : Pn) : Decidable p.fit := by unfold Pn.fit; exact inferInstance
def planOkB (p : Pn) : Bool := (inB p.steps 1 1000000 && (inB p.weights 0 16 && inB p.metrics 0 4)) && (inB p.groups 1 8 && (inB p.eval 0 p.steps && (spansOkB p && (frozenOkB p && tracksOkB p)))) && (stopOkB p && (cutOkB p && (keepOkB p && avgOkB p)))
def planCheckG : List AV → Mem → Option (AV × Mem)
 | [.agg cs], m =>
  match unPn cs with
  | some p => if p.fit then some (iv (if planOkB p then 0 else 1), m) else none
  | none => none
 | _, _ => none
theorem planCheck_eq {p : Pn} (h : p.fit) (m : Mem) : planCheckG [.agg p.row] m = some (.v (.int .i64 (if planOkB p then 0 else 1)), m) := by
 simp only [planCheckG, unPn_row]
 exact if_pos h
def kpPlanCheck : Nat → Option (List Nat) := fun
 | 0 => some [1]
 | 1 => some [1, 3]
 | 2 => some [1, 3]
 | 3 => some [1, 3]
 | 4 => some [2]
 | 5 => some [1, 16]
 | 6 => some [1, 16]
 | 7 => some [1, 16]
 | 8 => some [1, 16]
 | 9 => some [1, 16]
 | 10 => some [2]
 | 11 => some [1, 36]
 | 12 => some [1, 36]
 | 13 => some [1, 36]
 | 14 => some [36]
 | 15 => some [2]
 | 16 => some [2]
 | _ => none
attribute [go_sem] kpPlanCheck
def tab_planCheck_ok : List (FuncId × (List AV → Mem → Option (AV × Mem))) := [(73, inBG), (74, spansOkG), (75, frozenOkG), (76, tracksOkG), (77, stopOkG), (78, cutOkG), (79, keepOkG), (80, avgOkG)]
theorem planCheck_ok : FunOk Tryz.prog 59 planCheckG := by
 have hC := table_ok (P := Tryz.prog) (l := tab_planCheck_ok) (table_more planIn_ok (table_more spansOk_ok (table_more frozenOk_ok (table_more tracksOk_ok (table_more stopOk_ok (table_more cutOk_ok (table_more keepOk_ok (table_more avgOk_ok table_nil))))))))
 have t1 := fun args mm => table_at (l := tab_planCheck_ok) (f := 73) (args := args) (m := mm) rfl
 have t2 := fun args mm => table_at (l := tab_planCheck_ok) (f := 74) (args := args) (m := mm) rfl
 have t3 := fun args mm => table_at (l := tab_planCheck_ok) (f := 75) (args := args) (m := mm) rfl
 have t4 := fun args mm => table_at (l := tab_planCheck_ok) (f := 76) (args := args) (m := mm) rfl
 have t5 := fun args mm => table_at (l := tab_planCheck_ok) (f := 77) (args := args) (m := mm) rfl
 have t6 := fun args mm => table_at (l := tab_planCheck_ok) (f := 78) (args := args) (m := mm) rfl
 have t7 := fun args mm => table_at (l := tab_planCheck_ok) (f := 79) (args := args) (m := mm) rfl
 have t8 := fun args mm => table_at (l := tab_planCheck_ok) (f := 80) (args := args) (m := mm) rfl
 refine fun_ok mixed hC Tryz.func59 rfl kpPlanCheck false rfl fun args m r h => ?_
 unfold planCheckG at h
 split at h
 ·rename_i cs
  split at h
  ·rename_i p hp0
   obtain rfl := unPn_some hp0
   split at h
   ·rename_i hfit
    obtain ⟨hf1, hf2, hf3, hf4⟩ := hfit
    simp only [Option.some.injEq] at h
    subst h
    refine ⟨Nat.le_of_ble_eq_true rfl, ?_⟩
    refine en ?_
    have v1 : (m.push p.row).var m.vars.length = some p.row := push_var
    have nr := newPn (m := m) (x := p)
    have hA := above_push (cs := p.row) (above_self m)
    refine go1 @nr ?_
    generalize m.push p.row = m2 at v1 hA
    generalize m.vars.length = r1 at v1
    have l0 := vrPn v1
    have l1 := lpPnSteps v1
    have l2 := lpPnWeights v1
    have l3 := lpPnMetrics v1
    have l4 := lpPnGroups v1
    have l5 := lpPnEval v1
    have k1 : (!true) = false := rfl
    have k2 : (!false) = true := rfl
    have d1 := inB_eq p.steps 1 1000000
    have d2 := inB_eq p.weights 0 16
    have d3 := inB_eq p.metrics 0 4
    have d4 := inB_eq p.groups 1 8
    have d5 := inB_eq p.eval 0 p.steps
    have d6 := spansOk_eq hf1
    have d7 := frozenOk_eq hf2
    have fin : ∀ (e : Env) (x : Int), Ev.get e 2 = .v (.int .i64 x) → x = (if planOkB p then 0 else 1) → Leaves Tryz.prog false Tryz.f59 m (iv (if planOkB p then 0 else 1), m) .ret e m2 := fun e x h1 h2 => by rw [← h2]; exact leaves_fin rfl h1 (above_fin hA)
    cases h0 : inB p.steps 1 1000000 with
    | false =>
     refine go1 (jn @l1 (jn @t1 (jn @d1 (jn @h0 @k2)))) ?_
     refine runs_cond rfl (fun hc => ?_) (fun hc => by cases hc)
     refine go0 ?_
     refine runs_cond rfl (fun hc => ?_) (fun hc => by cases hc)
     refine go0 ?_
     exact fin _ _ rfl (by unfold planOkB; rw [h0]; simp)
    | true =>
     refine go1 (jn @l1 (jn @t1 (jn @d1 (jn @h0 @k1)))) ?_
     refine runs_cond rfl (fun hc => by cases hc) (fun hc => ?_)
     cases h1 : inB p.weights 0 16 with
     | false =>
      refine go1 (jn @l2 (jn @t1 (jn @d2 (jn @h1 @k2)))) ?_
      refine runs_cond rfl (fun hc => ?_) (fun hc => by cases hc)
      refine go0 ?_
      refine runs_cond rfl (fun hc => ?_) (fun hc => by cases hc)
      refine go0 ?_
      exact fin _ _ rfl (by unfold planOkB; rw [h0, h1]; simp)
     | true =>
      refine go1 (jn @l2 (jn @t1 (jn @d2 (jn @h1 @k1)))) ?_
      refine runs_cond rfl (fun hc => by cases hc) (fun hc => ?_)
      cases h2 : inB p.metrics 0 4 with
      | false =>
       refine go1 (jn @l3 (jn @t1 (jn @d3 (jn @h2 @k2)))) ?_
       refine runs_cond rfl (fun hc => ?_) (fun hc => by cases hc)
       refine go0 ?_
       exact fin _ _ rfl (by unfold planOkB; rw [h0, h1, h2]; simp)
      | true =>
       refine go1 (jn @l3 (jn @t1 (jn @d3 (jn @h2 @k1)))) ?_
       refine runs_cond rfl (fun hc => by cases hc) (fun hc => ?_)
       cases h3 : inB p.groups 1 8 with
       | false =>
        refine go1 (jn @l4 (jn @t1 (jn @d4 (jn @h3 @k2)))) ?_
        refine runs_cond rfl (fun hc => ?_) (fun hc => by cases hc)
        refine go0 ?_
        refine runs_cond rfl (fun hc => ?_) (fun hc => by cases hc)
        refine go0 ?_
        exact fin _ _ rfl (by unfold planOkB; rw [h0, h1, h2, h3]; simp)
       | true =>
        refine go1 (jn @l4 (jn @t1 (jn @d4 (jn @h3 @k1)))) ?_
        refine runs_cond rfl (fun hc => by cases hc) (fun hc => ?_)
        cases h4 : inB p.eval 0 p.steps with
        | false =>
         refine go1 (jn @l5 (jn @l1 (jn @t1 (jn @d5 (jn @h4 @k2))))) ?_
         refine runs_cond rfl (fun hc => ?_) (fun hc => by cases hc)
         refine go0 ?_
         refine runs_cond rfl (fun hc => ?_) (fun hc => by cases hc)
         refine go0 ?_
         exact fin _ _ rfl (by unfold planOkB; rw [h0, h1, h2, h3, h4]; simp)
        | true =>
         refine go1 (jn @l5 (jn @l1 (jn @t1 (jn @d5 (jn @h4 @k1))))) ?_
         refine runs_cond rfl (fun hc => by cases hc) (fun hc => ?_)
         cases h5 : spansOkB p with
         | false =>
          refine go1 (jn @l0 (jn @t2 (jn @d6 (jn @h5 @k2)))) ?_
          refine runs_cond rfl (fun hc => ?_) (fun hc => by cases hc)
          refine go0 ?_
          refine runs_cond rfl (fun hc => ?_) (fun hc => by cases hc)
          refine go0 ?_
          exact fin _ _ rfl (by unfold planOkB; rw [h0, h1, h2, h3, h4, h5]; simp)
         | true =>
          refine go1 (jn @l0 (jn @t2 (jn @d6 (jn @h5 @k1)))) ?_
          refine runs_cond rfl (fun hc => by cases hc) (fun hc => ?_)
          cases h6 : frozenOkB p with
          | false =>
           refine go1 (jn @l0 (jn @t3 (jn @d7 (jn @h6 @k2)))) ?_
           refine runs_cond rfl (fun hc => ?_) (fun hc => by cases hc)
           refine go0 ?_
           refine runs_cond rfl (fun hc => ?_) (fun hc => by cases hc)
           refine go0 ?_
           exact fin _ _ rfl (by unfold planOkB; rw [h0, h1, h2, h3, h4, h5, h6]; simp)
          | true =>
           refine go1 (jn @l0 (jn @t3 (jn @d7 (jn @h6 @k1)))) ?_
           refine runs_cond rfl (fun hc => by cases hc) (fun hc => ?_)
           have d8 := tracksOk_eq (p := p) ⟨hf3, hf4, inB_iff.1 h3⟩
           cases h7 : tracksOkB p with
           | false =>
            refine go1 (jn @l0 (jn @t4 (jn @d8 (jn @h7 @k2)))) ?_
            refine runs_cond rfl (fun hc => ?_) (fun hc => by cases hc)
            refine go0 ?_
            exact fin _ _ rfl (by unfold planOkB; rw [h0, h1, h2, h3, h4, h5, h6, h7]; simp)
           | true =>
            refine go1 (jn @l0 (jn @t4 (jn @d8 (jn @h7 @k1)))) ?_
            refine runs_cond rfl (fun hc => by cases hc) (fun hc => ?_)
            have hmd := inB_iff.1 h2
            have d9 := stopOk_eq hmd
            have da := cutOk_eq hmd
            have db := keepOk_eq hmd
            have dc := avgOk_eq (p := p)
            cases h8 : stopOkB p with
            | false =>
             refine go1 (jn @l0 (jn @t5 (jn @d9 (jn @h8 @k2)))) ?_
             refine runs_cond rfl (fun hc => ?_) (fun hc => by cases hc)
             refine go0 ?_
             refine runs_cond rfl (fun hc => ?_) (fun hc => by cases hc)
             refine go0 ?_
             exact fin _ _ rfl (by unfold planOkB; rw [h0, h1, h2, h3, h4, h5, h6, h7, h8]; simp)
            | true =>
             refine go1 (jn @l0 (jn @t5 (jn @d9 (jn @h8 @k1)))) ?_
             refine runs_cond rfl (fun hc => by cases hc) (fun hc => ?_)
             cases h9 : cutOkB p with
             | false =>
              refine go1 (jn @l0 (jn @t6 (jn @da (jn @h9 @k2)))) ?_
              refine runs_cond rfl (fun hc => ?_) (fun hc => by cases hc)
              refine go0 ?_
              refine runs_cond rfl (fun hc => ?_) (fun hc => by cases hc)
              refine go0 ?_
              exact fin _ _ rfl (by unfold planOkB; rw [h0, h1, h2, h3, h4, h5, h6, h7, h8, h9]; simp)
             | true =>
              refine go1 (jn @l0 (jn @t6 (jn @da (jn @h9 @k1)))) ?_
              refine runs_cond rfl (fun hc => by cases hc) (fun hc => ?_)
              cases h10 : keepOkB p with
              | false =>
               refine go1 (jn @l0 (jn @t7 (jn @db (jn @h10 @k2)))) ?_
               refine runs_cond rfl (fun hc => ?_) (fun hc => by cases hc)
               refine go0 ?_
               refine runs_cond rfl (fun hc => ?_) (fun hc => by cases hc)
               refine go0 ?_
               exact fin _ _ rfl (by unfold planOkB; rw [h0, h1, h2, h3, h4, h5, h6, h7, h8, h9, h10]; simp)
              | true =>
               refine go1 (jn @l0 (jn @t7 (jn @db (jn @h10 @k1)))) ?_
               refine runs_cond rfl (fun hc => by cases hc) (fun hc => ?_)
               cases h11 : avgOkB p with
               | false =>
                refine go1 (jn @l0 (jn @t8 (jn @dc (jn @h11 @k2)))) ?_
                refine runs_cond rfl (fun hc => ?_) (fun hc => by cases hc)
                refine go0 ?_
                exact fin _ _ rfl (by unfold planOkB; rw [h0, h1, h2, h3, h4, h5, h6, h7, h8, h9, h10, h11]; simp)
               | true =>
                refine go1 (jn @l0 (jn @t8 (jn @dc (jn @h11 @k1)))) ?_
                refine runs_cond rfl (fun hc => by cases hc) (fun hc => ?_)
                refine go0 ?_
                exact fin _ _ rfl (by unfold planOkB; rw [h0, h1, h2, h3, h4, h5, h6, h7, h8, h9, h10, h11]; rfl)
   ·cases h
  ·cases h
 ·cases h
end
section
attribute [local irreducible] Next Inside Runs Ops table
attribute [local irreducible] XRuns XOps
attribute [local go_sem] szStr szInt Option.getD_some isNil evMinMax evFoldI iv mapWt cellsWt newWt zrWt zoWt znWt mapCt cellsCt newCt zrCt zoCt znCt mapRu cellsRu newRu mapPt cellsPt newPt fpWtHas fpWtBest fpWtBad fpRuMax fpRuDelta fpRuRel fpPtMax fpPtDelta fpPtPatience fpPtFactor fpPtCooldown
def outB (w : Wt) (p : Int) : Bool := decide (p ≥ 1) && decide (w.bad ≥ p)
def outG : List AV → Mem → Option (AV × Mem)
 | [.agg cs, .v (.int .i64 p)], m =>
  match unWt cs with
  | some w => some (.v (.bool (outB w p)), m)
  | none => none
 | _, _ => none
theorem out_eq (w : Wt) (p : Int) (m : Mem) : outG [.agg w.row, .v (.int .i64 p)] m = some (.v (.bool (outB w p)), m) := by
 simp only [outG, unWt_row]
def kpOut : Nat → Option (List Nat) := fun
 | 0 => some [1, 2]
 | 1 => some [4]
 | _ => none
attribute [go_sem] kpOut
theorem out_ok : FunOk Tryz.prog 81 outG := by
 have hC := table_ok (P := Tryz.prog) (l := []) table_nil
 refine fun_ok mixed hC Tryz.func81 rfl kpOut false rfl fun args m r h => ?_
 unfold outG at h
 split at h
 ·rename_i cs p
  split at h
  ·rename_i w hw
   obtain rfl := unWt_some hw
   simp only [Option.some.injEq] at h
   subst h
   refine ⟨Nat.le_of_ble_eq_true rfl, ?_⟩
   refine en ?_
   have v2 : (m.push w.row).var m.vars.length = some w.row := push_var
   have nr := newWt (m := m) (x := w)
   have hA := above_push (cs := w.row) (above_self m)
   refine go1 @nr ?_
   generalize m.push w.row = m2 at v2 hA
   generalize m.vars.length = r2 at v2
   have l1 := lpWtBad v2
   unfold outB
   cases hp : decide (p ≥ 1) with
   | false =>
    refine go1 @hp ?_
    exact leaves_fin rfl rfl (above_fin hA)
   | true =>
    refine go1 (jn @hp @l1) ?_
    exact leaves_fin rfl rfl (above_fin hA)
  ·cases h
 ·cases h
def mkRule (m : Bool) (d : Int) : Ru := ⟨m, d, false⟩
def takeW (w : Wt) (x : Int) (r : Ru) : Wt := if (!w.has || betV x w.best r) = true then ⟨true, x, 0⟩ else ⟨w.has, w.best, mn (mx w.bad 0) 1099511627775 + 1⟩
def takeDom (w : Wt) (x : Int) (r : Ru) : Prop := inI x ∧ inI w.best ∧ inI r.delta
instance (w : Wt) (x : Int) (r : Ru) : Decidable (takeDom w x r) := by unfold takeDom; exact inferInstance
def takeG : List AV → Mem → Option (AV × Mem)
 | [.agg cs, .v (.int .i64 x), .agg rs], m =>
  match unWt cs, unRu rs with
  | some w, some r => if takeDom w x r then some (.agg (takeW w x r).row, m) else none
  | _, _ => none
 | _, _ => none
theorem take_eq {w : Wt} {x : Int} {r : Ru} (h : takeDom w x r) (m : Mem) : takeG [.agg w.row, .v (.int .i64 x), .agg r.row] m = some (.agg (takeW w x r).row, m) := by
 simp only [takeG, unWt_row, unRu_row]
 exact if_pos h
theorem mkWt1 {x : Int} : evBuild Tryz.prog 38 [(0, .v (.bool true)), (1, .v (.int .i64 x))] = some (.agg (Wt.mk true x 0).row) := by kernel_rfl
theorem bad_in (b : Int) : 0 ≤ mn (mx b 0) 1099511627775 ∧ mn (mx b 0) 1099511627775 ≤ 1099511627775 := by
 unfold mn mx
 split <;> split <;> omega
def kpTakeW : Nat → Option (List Nat) := fun
 | 0 => some [1, 3, 5, 6]
 | 1 => some [1, 3, 6, 16]
 | 2 => some [6]
 | 3 => some [3, 6]
 | 4 => some [6]
 | _ => none
attribute [go_sem] kpTakeW
def tab_takeW_ok : List (FuncId × (List AV → Mem → Option (AV × Mem))) := [(126, isG)]
theorem takeW_ok : FunOk Tryz.prog 141 takeG := by
 have hC := table_ok (P := Tryz.prog) (l := tab_takeW_ok) (table_more is_ok table_nil)
 have t1 := fun args mm => table_at (l := tab_takeW_ok) (f := 126) (args := args) (m := mm) rfl
 refine fun_ok mixed hC Tryz.func141 rfl kpTakeW false rfl fun args m r h => ?_
 unfold takeG at h
 split at h
 ·rename_i cs x rs
  split at h
  ·rename_i w r hw hr
   obtain rfl := unWt_some hw
   obtain rfl := unRu_some hr
   split at h
   ·rename_i hd
    simp only [Option.some.injEq] at h
    subst h
    refine ⟨Nat.le_of_ble_eq_true rfl, ?_⟩
    refine en ?_
    have v3 : (((m.push w.row).push r.row).push zeroWt).var m.vars.length = some w.row := push_old (push_old push_var)
    have v5 : (((m.push w.row).push r.row).push zeroWt).var (m.push w.row).vars.length = some r.row := push_old push_var
    have v6 : (((m.push w.row).push r.row).push zeroWt).var ((m.push w.row).push r.row).vars.length = some zeroWt := push_var
    have n1 := newWt (m := m) (x := w)
    have n2 := newRu (m := m.push w.row) (x := r)
    have n3 := znWt (m := (m.push w.row).push r.row)
    have hA := above_push (cs := zeroWt) (above_push (cs := r.row) (above_push (cs := w.row) (above_self m)))
    have hge : m.vars.length ≤ ((m.push w.row).push r.row).vars.length := by rw [push_len, push_len]; omega
    have hne : m.vars.length ≠ ((m.push w.row).push r.row).vars.length := by rw [push_len, push_len]; omega
    refine go1 (jn @n1 (jn @n2 @n3)) ?_
    generalize ((m.push w.row).push r.row).push zeroWt = m2 at v3 v5 v6 hA
    generalize ((m.push w.row).push r.row).vars.length = r6 at v6 hge hne
    generalize (m.push w.row).vars.length = r5 at v5
    generalize hr3 : m.vars.length = r3 at v3 hne ⊢
    have l1 := lpWtHas v3
    have l2 := lpWtBest v3
    have l3 := lpWtBad v3
    have l4 := vrRu v5
    have c1 := isG_eq (x := x) (b := w.best) (r := r) hd
    have k1 : (!true) = false := rfl
    have k2 : (!false) = true := rfl
    have st1 : evStore Tryz.prog m2 38 (.ptr r6 0) (.agg (Wt.mk true x 0).row) = some (setv m2 r6 (Wt.mk true x 0).row) := store_part v6 szWt rfl rfl (Nat.le_refl _) rfl rfl
    have m1 := mkWt1 (x := x)
    have e0 : takeW w x r = if (!w.has || betV x w.best r) = true then ⟨true, x, 0⟩ else ⟨w.has, w.best, mn (mx w.bad 0) 1099511627775 + 1⟩ := rfl
    have fin1 : takeW w x r = ⟨true, x, 0⟩ → ∀ e, Ev.get e 6 = .ptr r6 0 → Leaves Tryz.prog false Tryz.f141 m (.agg (takeW w x r).row, m) .ret e (setv m2 r6 (Wt.mk true x 0).row) := fun he e h6 => by
     rw [he]
     exact leaves_cell1 (a := 6) (x0 := .agg (Wt.mk true x 0).row) rfl (by rw [h6]; exact vrWt (setv_var v6)) rfl (above_fin (above_setv hA hge))
    cases hh : w.has with
    | false =>
     rw [hh] at l1 e0
     refine go1 (jn @l1 @k2) ?_
     refine runs_cond rfl (fun hc => ?_) (fun hc => by cases hc)
     refine go1 (jn @m1 @st1) ?_
     exact fin1 (by rw [e0, if_pos (by simp)]) _ rfl
    | true =>
     rw [hh] at l1 e0
     cases hi : betV x w.best r with
     | true =>
      rw [hi] at c1 e0
      refine go1 (jn @l1 (jn @k1 (jn @l2 (jn @l4 (jn @t1 @c1))))) ?_
      refine runs_cond rfl (fun hc => ?_) (fun hc => by cases hc)
      refine go1 (jn @m1 @st1) ?_
      exact fin1 (by rw [e0, if_pos (by simp)]) _ rfl
     | false =>
      rw [hi] at c1 e0
      refine go1 (jn @l1 (jn @k1 (jn @l2 (jn @l4 (jn @t1 @c1))))) ?_
      refine runs_cond rfl (fun hc => by cases hc) (fun hc => ?_)
      rw [if_neg (by simp), ← hh] at e0
      obtain ⟨b0, b1⟩ := bad_in w.bad
      have w1 : IntKind.i64.wrap (mn (mx w.bad 0) 1099511627775 + 1) = mn (mx w.bad 0) 1099511627775 + 1 := wrap_i64 (by omega) (by omega)
      have st2 : evStore Tryz.prog m2 3 (.ptr r3 2) (.v (.int .i64 (mn (mx w.bad 0) 1099511627775 + 1))) = some (setv m2 r3 (takeW w x r).row) := by
       rw [e0]
       exact store_part v3 szInt rfl rfl (Nat.le_of_ble_eq_true rfl) rfl rfl
      have l5 := vrWt (setv_var (cs := (takeW w x r).row) v3)
      have st3 : evStore Tryz.prog (setv m2 r3 (takeW w x r).row) 38 (.ptr r6 0) (.agg (takeW w x r).row) = some (setv (setv m2 r3 (takeW w x r).row) r6 (takeW w x r).row) := store_part (setv_other v6 hne.symm) szWt rfl rfl (Nat.le_refl _) rfl rfl
      refine go1 (jn @l3 (jn @w1 (jn @st2 (jn @l5 @st3)))) ?_
      exact leaves_cell1 rfl (vrWt (setv_var (setv_other v6 hne.symm))) rfl (above_fin (above_setv (above_setv hA (Nat.le_of_eq hr3)) hge))
   ·cases h
  ·cases h
 ·cases h
end
section
attribute [local irreducible] Next Inside Runs Ops table
attribute [local irreducible] XRuns XOps
attribute [local go_sem] szStr szInt Option.getD_some isNil evMinMax evFoldI iv mapWt cellsWt mapCt cellsCt newCt zrCt zoCt znCt mapRu cellsRu newRu mapPt cellsPt newPt fpPtMax fpPtDelta fpPtPatience fpPtFactor fpPtCooldown fpCtWatch fpCtWatchHas fpCtWatchBad fpCtRest fpCtScale mk0Wt niWt
def cutNew : Ct := ⟨wt0, 0, 4294967296⟩
def cutNewG : List AV → Mem → Option (AV × Mem)
 | [], m => some (.agg cutNew.row, m)
 | _, _ => none
def kpCutNew : Nat → Option (List Nat) := fun
 | 0 => some [0]
 | 1 => some [0]
 | _ => none
attribute [go_sem] kpCutNew
theorem cutNew_ok : FunOk Tryz.prog 33 cutNewG := by
 have hC := table_ok (P := Tryz.prog) (l := []) table_nil
 refine fun_ok mixed hC Tryz.func33 rfl kpCutNew false rfl fun args m r h => ?_
 unfold cutNewG at h
 split at h
 ·simp only [Option.some.injEq] at h
  subst h
  refine ⟨Nat.le_of_ble_eq_true rfl, ?_⟩
  refine en ?_
  have v0 : (m.push zeroCt).var m.vars.length = some zeroCt := push_var
  have nz := znCt (m := m)
  have hA := above_push (cs := zeroCt) (above_self m)
  refine go1 @nz ?_
  generalize m.push zeroCt = m2 at v0 hA
  generalize hr0 : m.vars.length = r0 at v0 ⊢
  have st1 : evStore Tryz.prog m2 40 (.ptr r0 0) (.agg cutNew.row) = some (setv m2 r0 cutNew.row) := store_part v0 szCt rfl rfl (Nat.le_refl _) rfl rfl
  refine go0 ?_
  refine ops_here (e := [(1, .agg cutNew.row), (0, .ptr r0 0)]) ?_
  refine go1 @st1 ?_
  have hl := vrCt (x := cutNew) (setv_var (cs := cutNew.row) v0)
  have hm := above_fin (above_setv (q := r0) (cs := cutNew.row) hA (Nat.le_of_eq hr0))
  exact leaves_cell1 rfl hl rfl hm
 ·cases h
def rateV (c : Ct) (v fl : Int) : Int := if c.scale < 0 ∨ c.scale > 4294967296 then 0 else mx (mulV v c.scale).1 (mn v fl)
def rateG : List AV → Mem → Option (AV × Mem)
 | [.agg cs, .v (.int .i64 v), .v (.int .i64 fl)], m =>
  match unCt cs with
  | some c => if inI v then some (iv (rateV c v fl), m) else none
  | none => none
 | _, _ => none
theorem rate_eq {c : Ct} {v : Int} (h : inI v) (fl : Int) (m : Mem) : rateG [.agg c.row, .v (.int .i64 v), .v (.int .i64 fl)] m = some (.v (.int .i64 (rateV c v fl)), m) := by
 simp only [rateG, unCt_row]
 exact if_pos h
def kpRate : Nat → Option (List Nat) := fun
 | 0 => some [1, 2, 3]
 | 1 => some [1, 2, 3, 16]
 | 2 => some [6]
 | 3 => some [1, 2, 7]
 | 4 => some [6]
 | _ => none
attribute [go_sem] kpRate
def tab_rate_ok : List (FuncId × (List AV → Mem → Option (AV × Mem))) := [(114, mulG)]
theorem rate_ok : FunOk Tryz.prog 97 rateG := by
 have hC := table_ok (P := Tryz.prog) (l := tab_rate_ok) (table_more mul_ok table_nil)
 have t1 := fun args mm => table_at (l := tab_rate_ok) (f := 114) (args := args) (m := mm) rfl
 refine fun_ok mixed hC Tryz.func97 rfl kpRate false rfl fun args m r h => ?_
 unfold rateG at h
 split at h
 ·rename_i cs v fl
  split at h
  ·rename_i c hc0
   obtain rfl := unCt_some hc0
   split at h
   ·rename_i hv
    simp only [Option.some.injEq] at h
    subst h
    refine ⟨Nat.le_of_ble_eq_true rfl, ?_⟩
    refine en ?_
    have v3 : (m.push c.row).var m.vars.length = some c.row := push_var
    have nr := newCt (m := m) (x := c)
    have hA := above_push (cs := c.row) (above_self m)
    refine go1 @nr ?_
    generalize m.push c.row = m2 at v3 hA
    generalize m.vars.length = r3 at v3
    have l1 := lpCtScale v3
    unfold rateV
    by_cases h1 : c.scale < 0
    ·have q1 : decide (c.scale < 0) = true := decide_eq_true h1
     refine go1 (jn @l1 @q1) ?_
     refine runs_cond rfl (fun hc => ?_) (fun hc => by cases hc)
     refine go0 ?_
     rw [if_pos (.inl h1)]
     exact leaves_fin rfl rfl (above_fin hA)
    ·have q1 : decide (c.scale < 0) = false := decide_eq_false h1
     by_cases h2 : c.scale > 4294967296
     ·have q2 : decide (c.scale > 4294967296) = true := decide_eq_true h2
      refine go1 (jn @l1 (jn @q1 @q2)) ?_
      refine runs_cond rfl (fun hc => ?_) (fun hc => by cases hc)
      refine go0 ?_
      rw [if_pos (.inr h2)]
      exact leaves_fin rfl rfl (above_fin hA)
     ·have q2 : decide (c.scale > 4294967296) = false := decide_eq_false h2
      have c1 := mulG_eq hv (show inI c.scale from ⟨by omega, by omega⟩)
      refine go1 (jn @l1 (jn @q1 @q2)) ?_
      refine runs_cond rfl (fun hc => by cases hc) (fun hc => ?_)
      refine go1 (jn @l1 (jn @t1 @c1)) ?_
      rw [if_neg (by omega)]
      exact leaves_fin rfl rfl (above_fin hA)
   ·cases h
  ·cases h
 ·cases h
def wt0B (w : Wt) : Bool := (w.has == wt0.has) && ((w.best == wt0.best) && ((w.bad == wt0.bad) && true))
def ctOk (c : Ct) : Bool := if (!c.watch.has && !(wt0B c.watch)) = true then false else inB c.rest 0 1099511627776 && inB c.watch.bad 0 1099511627776 && decide (c.scale ≥ 0) && decide (c.scale ≤ 4294967296)
def ctOkG : List AV → Mem → Option (AV × Mem)
 | [.agg cs], m =>
  match unCt cs with
  | some c => some (.v (.bool (ctOk c)), m)
  | none => none
 | _, _ => none
theorem ctOk_eq (c : Ct) (m : Mem) : ctOkG [.agg c.row] m = some (.v (.bool (ctOk c)), m) := by
 simp only [ctOkG, unCt_row]
def kpCtOk : Nat → Option (List Nat) := fun
 | 0 => some [1]
 | 1 => some [1, 12]
 | 2 => some [2]
 | 3 => some [2]
 | _ => none
attribute [go_sem] kpCtOk
def tab_ctOk_ok : List (FuncId × (List AV → Mem → Option (AV × Mem))) := [(107, platCountG)]
theorem ctOk_ok : FunOk Tryz.prog 86 ctOkG := by
 have hC := table_ok (P := Tryz.prog) (l := tab_ctOk_ok) (table_more platCount_ok table_nil)
 have t1 := fun args mm => table_at (l := tab_ctOk_ok) (f := 107) (args := args) (m := mm) rfl
 refine fun_ok mixed hC Tryz.func86 rfl kpCtOk false rfl fun args m r h => ?_
 unfold ctOkG at h
 split at h
 ·rename_i cs
  split at h
  ·rename_i c hc0
   obtain rfl := unCt_some hc0
   simp only [Option.some.injEq] at h
   subst h
   refine ⟨Nat.le_of_ble_eq_true rfl, ?_⟩
   refine en ?_
   have v1 : (m.push c.row).var m.vars.length = some c.row := push_var
   have nr := newCt (m := m) (x := c)
   have hA := above_push (cs := c.row) (above_self m)
   refine go1 @nr ?_
   generalize m.push c.row = m2 at v1 hA
   generalize m.vars.length = r1 at v1
   have k1 : (!true) = false := rfl
   have k2 : (!false) = true := rfl
   have l1 := lpCtWatchHas v1
   have l2 := lpCtWatch v1
   have l3 := lpCtRest v1
   have l4 := lpCtWatchBad v1
   have l5 := lpCtScale v1
   have e1 : eqTy Tryz.prog 8 38 (.agg c.watch.row) (.agg zeroWt) = some (wt0B c.watch) := eqWt (x := c.watch) (y := wt0)
   have c1 : ∀ mm, platCountG [.v (.int .i64 c.rest)] mm = some (.v (.bool (inB c.rest 0 1099511627776)), mm) := fun _ => rfl
   have c2 : ∀ mm, platCountG [.v (.int .i64 c.watch.bad)] mm = some (.v (.bool (inB c.watch.bad 0 1099511627776)), mm) := fun _ => rfl
   have hf : ∀ e : Env, Ev.get e 2 = .v (.bool false) → (!c.watch.has && !(wt0B c.watch)) = true → Leaves Tryz.prog false Tryz.f86 m (.v (.bool (ctOk c)), m) .ret e m2 := fun e h2 h3 => by
    unfold ctOk
    rw [if_pos h3]
    exact leaves_fin rfl h2 (above_fin hA)
   cases hx : (!c.watch.has && !(wt0B c.watch)) with
   | true =>
    rw [hx] at hf
    rw [Bool.and_eq_true] at hx
    obtain ⟨h1, h2⟩ := hx
    have h1 : c.watch.has = false := by simpa using h1
    have h2 : wt0B c.watch = false := by simpa using h2
    rw [h1] at l1
    rw [h2] at e1
    refine go1 (jn @l1 (jn @k2 (jn @l2 @e1))) ?_
    refine runs_cond rfl (fun hc => ?_) (fun hc => by cases hc)
    refine go0 ?_
    exact hf _ rfl rfl
   | false =>
    have e0 : ctOk c = (inB c.rest 0 1099511627776 && inB c.watch.bad 0 1099511627776 && decide (c.scale ≥ 0) && decide (c.scale ≤ 4294967296)) := by
     unfold ctOk
     rw [if_neg (by rw [hx]; decide)]
    refine ops_rcut [(1, .ptr r1 0), (12, .v (.bool false))] m2 ?_ ?_
    ·cases h1 : c.watch.has with
     | true =>
      rw [h1] at l1
      refine go1 (jn @l1 @k1) ?_
      exact ⟨rfl, rfl⟩
     | false =>
      have h2 : wt0B c.watch = true := by rw [h1] at hx; simpa using hx
      rw [h1] at l1
      rw [h2] at e1
      refine go1 (jn @l1 (jn @k1 (jn @k2 (jn @l2 @e1)))) ?_
      exact ⟨rfl, rfl⟩
    repeat (first | refine next_normal ?_ | refine runs_seq ?_)
    refine runs_cond rfl (fun hc => by cases hc) (fun hc => ?_)
    rw [e0]
    cases h1 : inB c.rest 0 1099511627776 with
    | false =>
     rw [h1] at c1
     refine go1 (jn @l3 (jn @t1 @c1)) ?_
     exact leaves_fin rfl rfl (above_fin hA)
    | true =>
     rw [h1] at c1
     cases h2 : inB c.watch.bad 0 1099511627776 with
     | false =>
      rw [h2] at c2
      refine go1 (jn @l3 (jn @t1 (jn @c1 (jn @l4 @c2)))) ?_
      exact leaves_fin rfl rfl (above_fin hA)
     | true =>
      rw [h2] at c2
      cases h3 : decide (c.scale ≥ 0) with
      | false =>
       refine go1 (jn @l3 (jn @t1 (jn @c1 (jn @l4 (jn @c2 (jn @l5 @h3)))))) ?_
       exact leaves_fin rfl rfl (above_fin hA)
      | true =>
       refine go1 (jn @l3 (jn @t1 (jn @c1 (jn @l4 (jn @c2 (jn @l5 @h3)))))) ?_
       exact leaves_fin rfl rfl (above_fin hA)
  ·cases h
 ·cases h
end
end Go.Proofs.YtmockbddhhmmeaaGreat.Ev
