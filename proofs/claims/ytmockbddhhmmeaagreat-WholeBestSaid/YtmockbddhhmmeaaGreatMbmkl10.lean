/- States: checks. (Written out by wip/tools/gen_run5.py.) -/
import Derived.Test.YtmockbddhhmmeaaGreatMbmkl9
import Derived.Test.YtmockbddhhmmeaaGreatMa8
namespace Go.Proofs.YtmockbddhhmmeaaGreat.Ev
open Go Go.Proofs
set_option maxRecDepth 10000
set_option maxHeartbeats 8000000
set_option linter.unusedVariables false
set_option linter.unusedSimpArgs false
section
attribute [local irreducible] Next Inside Runs Ops table
attribute [local irreducible] XRuns XOps
attribute [local go_sem] szStr szInt Option.getD_some isNil evMinMax evFoldI iv mapPn cellsPn newPn mapSs cellsSs newSs mapWt cellsWt newWt mapCt fpPnSteps fpPnWeights fpPnEval fpPnStop fpPnStopPatience fpPnPlateau fpPnPlateauPatience fpPnPlateauCooldown fpPnKeep fpPnKeepMax fpPnKeepCount fpPnEma fpPnEmaOn fpPnStopAt fpPnCutAt fpPnKeepAt fpPnSwaFrom fpPnSwaEvery fpSsStep fpSsStatus fpSsEnded fpSsStop fpSsCut fpSsCutWatch fpSsCutWatchBad fpSsCutRest fpSsKept fpSsEma fpSsSwa fpSsSwaCount fpSsSwaSums fpWtHas fpWtBad mk0Wt niWt niCt rowsI_len rowsKt_len
def outQ (p : Pn) (s : Ss) : Bool := decide (p.stopAt ≥ 0) && outB s.stop p.stop.Patience
def endedQ (p : Pn) (s : Ss) : Bool := inB s.step 1 p.steps && (s.ended == IntKind.i64.wrap (s.step - 1))
def statusB (p : Pn) (s : Ss) : Bool := if s.status = 0 then inB s.step 0 (IntKind.i64.wrap (p.steps - 1)) && (s.ended == 0) && !(outQ p s) else if s.status = 1 then endedQ p s && (s.step == p.steps) && !(outQ p s) else if s.status = 2 then endedQ p s && outQ p s && (s.step.tmod p.eval == 0) else if s.status = 3 then endedQ p s && !(outQ p s) && failedB p s else false
def statusBG : List AV → Mem → Option (AV × Mem)
 | [.agg ps, .agg ss], m =>
  match unPn ps, unSs ss with
  | some p, some s => if planOkB p = true then some (.v (.bool (statusB p s)), m) else none
  | _, _ => none
 | _, _ => none
theorem statusB_eq {p : Pn} {s : Ss} (hd : planOkB p = true) (m : Mem) : statusBG [.agg p.row, .agg s.row] m = some (.v (.bool (statusB p s)), m) := by
 simp only [statusBG, unPn_row, unSs_row]
 exact if_pos hd
def kpStatus : Nat → Option (List Nat) := fun
 | 0 => some [2, 3]
 | 1 => some [2, 3, 5]
 | 2 => some [2, 3, 5, 6]
 | 3 => some [2, 3, 5, 6, 32]
 | 4 => some [2, 3, 5, 6, 32, 33]
 | 5 => some [4]
 | 6 => some [2, 3, 5, 6, 32, 50]
 | 7 => some [4]
 | 8 => some [2, 3, 5, 6, 32, 64]
 | 9 => some [4]
 | 10 => some [2, 3, 5, 6, 78]
 | 11 => some [4]
 | 12 => some [4]
 | _ => none
attribute [go_sem] kpStatus
def tab_statusB_ok : List (FuncId × (List AV → Mem → Option (AV × Mem))) := [(81, outG), (82, inBG), (83, failedBG)]
theorem statusB_ok : FunOk Tryz.prog 60 statusBG := by
 have hC := table_ok (P := Tryz.prog) (l := tab_statusB_ok) (table_more out_ok (table_more stateIn_ok (table_more failedB_ok table_nil)))
 have t1 := fun args mm => table_at (l := tab_statusB_ok) (f := 81) (args := args) (m := mm) rfl
 have t2 := fun args mm => table_at (l := tab_statusB_ok) (f := 82) (args := args) (m := mm) rfl
 have t3 := fun args mm => table_at (l := tab_statusB_ok) (f := 83) (args := args) (m := mm) rfl
 refine fun_ok mixed hC Tryz.func60 rfl kpStatus false rfl fun args m r h => ?_
 unfold statusBG at h
 split at h
 ·rename_i ps ss
  split at h
  ·rename_i p s hp0 hs0
   obtain rfl := unPn_some hp0
   obtain rfl := unSs_some hs0
   split at h
   ·rename_i hd
    simp only [Option.some.injEq] at h
    subst h
    refine ⟨Nat.le_of_ble_eq_true rfl, ?_⟩
    refine en ?_
    have vp : ((m.push p.row).push s.row).var m.vars.length = some p.row := push_old push_var
    have vs : ((m.push p.row).push s.row).var (m.push p.row).vars.length = some s.row := push_var
    have n1 := newPn (m := m) (x := p)
    have n2 := newSs (m := m.push p.row) (x := s)
    have hA := above_push (cs := s.row) (above_push (cs := p.row) (above_self m))
    refine go1 (jn @n1 @n2) ?_
    generalize (m.push p.row).push s.row = m2 at vp vs hA
    generalize (m.push p.row).vars.length = rs at vs
    generalize m.vars.length = rp at vp
    have k1 : (!true) = false := rfl
    have k2 : (!false) = true := rfl
    have l1 := lpPnStopAt vp
    have l2 := lpSsStop vs
    have l3 := lpPnStopPatience vp
    have l4 := lpSsStep vs
    have l5 := lpPnSteps vp
    have l6 := lpSsEnded vs
    have l7 := lpSsStatus vs
    have l8 := lpPnEval vp
    have l9 := vrPn vp
    have la := vrSs vs
    have hev : p.stopAt ≥ 0 → (p.eval = 0) = False := fun hh => by
     have := (planOk_parts hd).2.2.2.2.2.2.2.2.1
     unfold stopOkB at this
     rw [if_neg (by omega)] at this
     simp only [Bool.and_eq_true] at this
     have := this.1.1.1
     unfold seenB at this
     simp only [Bool.and_eq_true, decide_eq_true_eq] at this
     exact eq_false (by omega)
    
    have e0 : statusB p s = if s.status = 0 then inB s.step 0 (IntKind.i64.wrap (p.steps - 1)) && (s.ended == 0) && !(outQ p s) else if s.status = 1 then endedQ p s && (s.step == p.steps) && !(outQ p s) else if s.status = 2 then endedQ p s && outQ p s && (s.step.tmod p.eval == 0) else if s.status = 3 then endedQ p s && !(outQ p s) && failedB p s else false := rfl
    rw [e0]
    clear e0
    have c1 := out_eq s.stop p.stop.Patience
    have c2 := inB_eq s.step 1 p.steps
    have c3 := inB_eq s.step 0 (IntKind.i64.wrap (p.steps - 1))
    have c4 := failedB_eq p s
    refine go0 ?_
    refine ops_rcut [(2, .ptr rp 0), (3, .ptr rs 0), (5, .v (.bool (outQ p s)))] m2 ?_ ?_
    ·skip
     cases h0 : decide (p.stopAt ≥ 0) with
     | false =>
      refine go1 (jn @l1 @h0) ?_
      exact ⟨by unfold outQ; rw [h0]; rfl, rfl⟩
     | true =>
      refine go1 (jn @l1 (jn @h0 (jn @l2 (jn @l3 (jn @t1 @c1))))) ?_
      exact ⟨by unfold outQ; rw [h0]; rfl, rfl⟩
    repeat (first | refine next_normal ?_ | refine runs_seq ?_)
    refine go0 ?_
    refine ops_rcut [(2, .ptr rp 0), (3, .ptr rs 0), (5, .v (.bool (outQ p s))), (6, .v (.bool (endedQ p s)))] m2 ?_ ?_
    ·skip
     cases h0 : inB s.step 1 p.steps with
     | false =>
      refine go1 (jn @l4 (jn @l5 (jn @t2 (jn @c2 @h0)))) ?_
      exact ⟨by unfold endedQ; rw [h0]; rfl, rfl⟩
     | true =>
      refine go1 (jn @l4 (jn @l5 (jn @t2 (jn @c2 (jn @h0 @l6))))) ?_
      exact ⟨by unfold endedQ; rw [h0]; rfl, rfl⟩
    have hout : outQ p s = true → p.stopAt ≥ 0 := fun hh => by
     unfold outQ at hh
     rw [Bool.and_eq_true, decide_eq_true_eq] at hh
     exact hh.1
    generalize outQ p s = qo at hout ⊢
    generalize endedQ p s = qe
    repeat (first | refine next_normal ?_ | refine runs_seq ?_)
    refine go1 @l7 ?_
    by_cases z0 : s.status = 0
    ·rw [if_pos z0]
     refine runs_cond rfl (fun hc => ?_) (fun hc => absurd hc (by rw [z0]; decide))
     cases g0 : inB s.step 0 (IntKind.i64.wrap (p.steps - 1)) with
     | false =>
      refine go1 (jn @k1 (jn @k2 (jn @l4 (jn @l5 (jn @t2 (jn @c3 @g0)))))) ?_
      exact leaves_fin rfl rfl (above_fin hA)
     | true =>
      cases g1 : (s.ended == 0) with
      | false =>
       refine go1 (jn @k1 (jn @k2 (jn @l4 (jn @l5 (jn @t2 (jn @c3 (jn @g0 (jn @l6 @g1)))))))) ?_
       exact leaves_fin rfl rfl (above_fin hA)
      | true =>
       refine go1 (jn @k1 (jn @k2 (jn @l4 (jn @l5 (jn @t2 (jn @c3 (jn @g0 (jn @l6 @g1)))))))) ?_
       exact leaves_fin rfl rfl (above_fin hA)
    rw [if_neg z0]
    refine runs_cond rfl (fun hc => absurd (eq_of_beq hc) z0) (fun hc => ?_)
    refine go0 ?_
    by_cases z1 : s.status = 1
    ·rw [if_pos z1]
     refine runs_cond rfl (fun hc => ?_) (fun hc => absurd hc (by rw [z1]; decide))
     cases g0 : qe with
     | false =>
      refine go1 (jn @k1 (jn @k2 @g0)) ?_
      exact leaves_fin rfl rfl (above_fin hA)
     | true =>
      cases g1 : (s.step == p.steps) with
      | false =>
       refine go1 (jn @k1 (jn @k2 (jn @g0 (jn @l4 (jn @l5 @g1))))) ?_
       exact leaves_fin rfl rfl (above_fin hA)
      | true =>
       refine go1 (jn @k1 (jn @k2 (jn @g0 (jn @l4 (jn @l5 @g1))))) ?_
       exact leaves_fin rfl rfl (above_fin hA)
    rw [if_neg z1]
    refine runs_cond rfl (fun hc => absurd (eq_of_beq hc) z1) (fun hc => ?_)
    refine go0 ?_
    by_cases z2 : s.status = 2
    ·rw [if_pos z2]
     refine runs_cond rfl (fun hc => ?_) (fun hc => absurd hc (by rw [z2]; decide))
     cases g0 : qe with
     | false =>
      refine go1 (jn @k1 (jn @k2 @g0)) ?_
      exact leaves_fin rfl rfl (above_fin hA)
     | true =>
      cases g1 : qo with
      | false =>
       refine go1 (jn @k1 (jn @k2 (jn @g0 @g1))) ?_
       exact leaves_fin rfl rfl (above_fin hA)
      | true =>
       have hz := hev (hout g1)
       refine go1 (jn @k1 (jn @k2 (jn @g0 (jn @g1 (jn @l4 (jn @l8 @hz)))))) ?_
       exact leaves_fin rfl rfl (above_fin hA)
    rw [if_neg z2]
    refine runs_cond rfl (fun hc => absurd (eq_of_beq hc) z2) (fun hc => ?_)
    refine go0 ?_
    by_cases z3 : s.status = 3
    ·rw [if_pos z3]
     refine runs_cond rfl (fun hc => ?_) (fun hc => absurd hc (by rw [z3]; decide))
     cases g0 : qe with
     | false =>
      refine go1 (jn @k1 (jn @k2 @g0)) ?_
      exact leaves_fin rfl rfl (above_fin hA)
     | true =>
      cases g1 : (!qo) with
      | false =>
       refine go1 (jn @k1 (jn @k2 (jn @g0 @g1))) ?_
       exact leaves_fin rfl rfl (above_fin hA)
      | true =>
       refine go1 (jn @k1 (jn @k2 (jn @g0 (jn @g1 (jn @l9 (jn @la (jn @t3 @c4))))))) ?_
       exact leaves_fin rfl rfl (above_fin hA)
    rw [if_neg z3]
    refine runs_cond rfl (fun hc => absurd (eq_of_beq hc) z3) (fun hc => ?_)
    refine go0 ?_
    exact leaves_fin rfl rfl (above_fin hA)
   ·cases h
  ·cases h
 ·cases h
def stopStB (p : Pn) (s : Ss) : Bool := if p.stopAt < 0 then wt0B s.stop else watchB s.stop (looksV p s)
def stopStBG : List AV → Mem → Option (AV × Mem)
 | [.agg ps, .agg ss], m =>
  match unPn ps, unSs ss with
  | some p, some s => some (.v (.bool (stopStB p s)), m)
  | _, _ => none
 | _, _ => none
theorem stopStB_eq (p : Pn) (s : Ss) (m : Mem) : stopStBG [.agg p.row, .agg s.row] m = some (.v (.bool (stopStB p s)), m) := by
 simp only [stopStBG, unPn_row, unSs_row]
def kpStopSt : Nat → Option (List Nat) := fun
 | 0 => some [2, 3]
 | 1 => some [2, 3, 7]
 | 2 => some [4]
 | 3 => some [4]
 | _ => none
attribute [go_sem] kpStopSt
def tab_stopStB : List (FuncId × (List AV → Mem → Option (AV × Mem))) := [(85, looksVG), (84, watchBG)]
theorem stopStB_ok : FunOk Tryz.prog 61 stopStBG := by
 have hC := table_ok (P := Tryz.prog) (l := tab_stopStB) (table_more looksV_ok (table_more watchB_ok table_nil))
 have t1 := fun args mm => table_at (l := tab_stopStB) (f := 85) (args := args) (m := mm) rfl
 have t2 := fun args mm => table_at (l := tab_stopStB) (f := 84) (args := args) (m := mm) rfl
 refine fun_okX Tryz.func61 rfl false rfl fun args m r h => ?_
 unfold stopStBG at h
 split at h
 ·rename_i ps ss
  split at h
  ·rename_i p s hp0 hs0
   obtain rfl := unPn_some hp0
   obtain rfl := unSs_some hs0
   simp only [Option.some.injEq] at h
   subst h
   refine ⟨Nat.le_of_ble_eq_true rfl, fun φ wd => ?_⟩
   refine en ?_
   have vp : ((m.push p.row).push s.row).var m.vars.length = some p.row := push_old push_var
   have vs : ((m.push p.row).push s.row).var (m.push p.row).vars.length = some s.row := push_var
   have n1 := newPn (m := m) (x := p)
   have n2 := newSs (m := m.push p.row) (x := s)
   have hA := above_push (cs := s.row) (above_push (cs := p.row) (above_self m))
   refine xq ?_
   refine x_region (kp := kpStopSt) mixed hC ?_
   refine go1 (jn @n1 @n2) ?_
   refine xq ?_
   generalize (m.push p.row).push s.row = m2 at vp vs hA
   generalize (m.push p.row).vars.length = rs at vs
   generalize m.vars.length = rp at vp
   have k1 : (!true) = false := rfl
   have k2 : (!false) = true := rfl
   have l1 := lpPnStopAt vp
   have l2 := lpSsStop vs
   have l3 := vrPn vp
   have l4 := vrSs vs
   have c1 := looksV_eq p s
   have c2 := watchB_eq s.stop (looksV p s)
   have e1 : eqTy Tryz.prog 8 38 (.agg s.stop.row) (.agg zeroWt) = some (wt0B s.stop) := eqWt (x := s.stop) (y := wt0)
   unfold stopStB
   refine x_region (kp := kpStopSt) mixed hC ?_
   refine go1 @l1 ?_
   refine xq ?_
   by_cases hz : p.stopAt < 0
   ·rw [if_pos hz]
    refine x_cond rfl (fun hc => ?_) (fun hc => absurd hz (of_decide_eq_false hc))
    refine xq ?_
    refine x_region (kp := kpStopSt) mixed hC ?_
    refine go1 (jn @l2 @e1) ?_
    refine xq ?_
    exact x_leaves (leaves_fin rfl rfl (above_fin hA))
   ·rw [if_neg hz]
    refine x_cond rfl (fun hc => absurd (of_decide_eq_true hc) hz) (fun hc => ?_)
    refine xq ?_
    refine x_walk0 (l2 := kpStopSt 3) mixed hC (by kernel_rfl) ?_
    refine gof1 (jn @l2 (jn @l3 (jn @l4 (jn @t1 (jn @c1 (jn @t2 @c2)))))) ?_
    refine xq ?_
    exact x_leaves (leaves_fin rfl rfl (above_fin hA))
  ·cases h
 ·cases h
def cutNewB (x : Ct) : Bool := ((x.watch.has == cutNew.watch.has) && ((x.watch.best == cutNew.watch.best) && ((x.watch.bad == cutNew.watch.bad) && true))) && ((x.rest == cutNew.rest) && ((x.scale == cutNew.scale) && true))
def cutStB (p : Pn) (s : Ss) : Bool := if p.cutAt < 0 then cutNewB s.cut else ctOk s.cut && watchB s.cut.watch (looksV p s) && decide (s.cut.watch.bad < p.plateau.Patience) && decide (s.cut.rest ≤ p.plateau.Cooldown)
def cutStBG : List AV → Mem → Option (AV × Mem)
 | [.agg ps, .agg ss], m =>
  match unPn ps, unSs ss with
  | some p, some s => some (.v (.bool (cutStB p s)), m)
  | _, _ => none
 | _, _ => none
theorem cutStB_eq (p : Pn) (s : Ss) (m : Mem) : cutStBG [.agg p.row, .agg s.row] m = some (.v (.bool (cutStB p s)), m) := by
 simp only [cutStBG, unPn_row, unSs_row]
def kpCutSt : Nat → Option (List Nat) := fun
 | 0 => some [2, 3]
 | 1 => some [2, 3, 7]
 | 2 => some [4]
 | 3 => some [4]
 | _ => none
attribute [go_sem] kpCutSt
def tab_cutStB : List (FuncId × (List AV → Mem → Option (AV × Mem))) := [(33, cutNewG), (86, ctOkG), (85, looksVG), (84, watchBG)]
theorem cutStB_ok : FunOk Tryz.prog 62 cutStBG := by
 have hC := table_ok (P := Tryz.prog) (l := tab_cutStB) (table_more cutNew_ok (table_more ctOk_ok (table_more looksV_ok (table_more watchB_ok table_nil))))
 have t1 := fun args mm => table_at (l := tab_cutStB) (f := 33) (args := args) (m := mm) rfl
 have t2 := fun args mm => table_at (l := tab_cutStB) (f := 86) (args := args) (m := mm) rfl
 have t3 := fun args mm => table_at (l := tab_cutStB) (f := 85) (args := args) (m := mm) rfl
 have t4 := fun args mm => table_at (l := tab_cutStB) (f := 84) (args := args) (m := mm) rfl
 refine fun_okX Tryz.func62 rfl false rfl fun args m r h => ?_
 unfold cutStBG at h
 split at h
 ·rename_i ps ss
  split at h
  ·rename_i p s hp0 hs0
   obtain rfl := unPn_some hp0
   obtain rfl := unSs_some hs0
   simp only [Option.some.injEq] at h
   subst h
   refine ⟨Nat.le_of_ble_eq_true rfl, fun φ wd => ?_⟩
   refine en ?_
   have vp : ((m.push p.row).push s.row).var m.vars.length = some p.row := push_old push_var
   have vs : ((m.push p.row).push s.row).var (m.push p.row).vars.length = some s.row := push_var
   have n1 := newPn (m := m) (x := p)
   have n2 := newSs (m := m.push p.row) (x := s)
   have hA := above_push (cs := s.row) (above_push (cs := p.row) (above_self m))
   refine xq ?_
   refine x_region (kp := kpCutSt) mixed hC ?_
   refine go1 (jn @n1 @n2) ?_
   refine xq ?_
   generalize (m.push p.row).push s.row = m2 at vp vs hA
   generalize (m.push p.row).vars.length = rs at vs
   generalize m.vars.length = rp at vp
   have k1 : (!true) = false := rfl
   have k2 : (!false) = true := rfl
   have l1 := lpPnCutAt vp
   have l2 := lpSsCut vs
   have l3 := vrPn vp
   have l4 := vrSs vs
   have l5 := lpSsCutWatch vs
   have l6 := lpSsCutWatchBad vs
   have l7 := lpPnPlateauPatience vp
   have l8 := lpSsCutRest vs
   have l9 := lpPnPlateauCooldown vp
   have c0 := fun mm => (show cutNewG [] mm = some (.agg cutNew.row, mm) from rfl)
   have c2 := ctOk_eq s.cut
   have c3 := looksV_eq p s
   have c4 := watchB_eq s.cut.watch (looksV p s)
   have e1 : eqTy Tryz.prog 8 40 (.agg s.cut.row) (.agg cutNew.row) = some (cutNewB s.cut) := eqCt (x := s.cut) (y := cutNew)
   unfold cutStB
   refine x_region (kp := kpCutSt) mixed hC ?_
   refine go1 @l1 ?_
   refine xq ?_
   by_cases hz : p.cutAt < 0
   ·rw [if_pos hz]
    refine x_cond rfl (fun hc => ?_) (fun hc => absurd hz (of_decide_eq_false hc))
    refine xq ?_
    refine x_walk0 (l2 := kpCutSt 2) mixed hC (by kernel_rfl) ?_
    refine gof1 (jn @l2 (jn @t1 (jn @c0 @e1))) ?_
    refine xq ?_
    exact x_leaves (leaves_fin rfl rfl (above_fin hA))
   rw [if_neg hz]
   refine x_cond rfl (fun hc => absurd (of_decide_eq_true hc) hz) (fun hc => ?_)
   refine xq ?_
   cases h0 : ctOk s.cut with
   | false =>
    refine x_walk0 (l2 := kpCutSt 3) mixed hC (by kernel_rfl) ?_
    refine gof1 (jn @l2 (jn @t2 (jn @c2 @h0))) ?_
    refine xq ?_
    exact x_leaves (leaves_fin rfl rfl (above_fin hA))
   | true =>
    cases h1 : watchB s.cut.watch (looksV p s) with
    | false =>
     refine x_walk0 (l2 := kpCutSt 3) mixed hC (by kernel_rfl) ?_
     refine gof1 (jn @l2 (jn @t2 (jn @c2 (jn @h0 (jn @l5 (jn @l3 (jn @l4 (jn @t3 (jn @c3 (jn @t4 (jn @c4 @h1))))))))))) ?_
     refine xq ?_
     exact x_leaves (leaves_fin rfl rfl (above_fin hA))
    | true =>
     cases h2 : decide (s.cut.watch.bad < p.plateau.Patience) with
     | false =>
      refine x_walk0 (l2 := kpCutSt 3) mixed hC (by kernel_rfl) ?_
      refine gof1 (jn @l2 (jn @t2 (jn @c2 (jn @h0 (jn @l5 (jn @l3 (jn @l4 (jn @t3 (jn @c3 (jn @t4 (jn @c4 (jn @h1 (jn @l6 (jn @l7 @h2)))))))))))))) ?_
      refine xq ?_
      exact x_leaves (leaves_fin rfl rfl (above_fin hA))
     | true =>
      refine x_walk0 (l2 := kpCutSt 3) mixed hC (by kernel_rfl) ?_
      refine gof1 (jn @l2 (jn @t2 (jn @c2 (jn @h0 (jn @l5 (jn @l3 (jn @l4 (jn @t3 (jn @c3 (jn @t4 (jn @c4 (jn @h1 (jn @l6 (jn @l7 (jn @h2 (jn @l8 @l9)))))))))))))))) ?_
      refine xq ?_
      exact x_leaves (leaves_fin rfl rfl (above_fin hA))
  ·cases h
 ·cases h
def avgStB (p : Pn) (s : Ss) : Bool := ((s.ema.length : Int) == longV p (p.ema.On && decide (takenV s > 0))) && (s.swa.count == sumsV p (takenV s)) && ((s.swa.sums.length : Int) == longV p (decide (sumsV p (takenV s) > 0)))
def avgStBG : List AV → Mem → Option (AV × Mem)
 | [.agg ps, .agg ss], m =>
  match unPn ps, unSs ss with
  | some p, some s => some (.v (.bool (avgStB p s)), m)
  | _, _ => none
 | _, _ => none
theorem avgStB_eq (p : Pn) (s : Ss) (m : Mem) : avgStBG [.agg p.row, .agg s.row] m = some (.v (.bool (avgStB p s)), m) := by
 simp only [avgStBG, unPn_row, unSs_row]
def kpAvgSt : Nat → Option (List Nat) := fun
 | 0 => some [2, 3]
 | 1 => some [2, 3, 5]
 | 2 => some [4]
 | _ => none
attribute [go_sem] kpAvgSt
def tab_avgStB : List (FuncId × (List AV → Mem → Option (AV × Mem))) := [(90, takenVG), (91, sumsVG), (92, longVG)]
theorem avgStB_ok : FunOk Tryz.prog 64 avgStBG := by
 have hC := table_ok (P := Tryz.prog) (l := tab_avgStB) (table_more takenV_ok (table_more sumsV_ok (table_more longV_ok table_nil)))
 have t1 := fun args mm => table_at (l := tab_avgStB) (f := 90) (args := args) (m := mm) rfl
 have t2 := fun args mm => table_at (l := tab_avgStB) (f := 91) (args := args) (m := mm) rfl
 have t3 := fun args mm => table_at (l := tab_avgStB) (f := 92) (args := args) (m := mm) rfl
 refine fun_okX Tryz.func64 rfl false rfl fun args m r h => ?_
 unfold avgStBG at h
 split at h
 ·rename_i ps ss
  split at h
  ·rename_i p s hp0 hs0
   obtain rfl := unPn_some hp0
   obtain rfl := unSs_some hs0
   simp only [Option.some.injEq] at h
   subst h
   refine ⟨Nat.le_of_ble_eq_true rfl, fun φ wd => ?_⟩
   refine en ?_
   have vp : ((m.push p.row).push s.row).var m.vars.length = some p.row := push_old push_var
   have vs : ((m.push p.row).push s.row).var (m.push p.row).vars.length = some s.row := push_var
   have n1 := newPn (m := m) (x := p)
   have n2 := newSs (m := m.push p.row) (x := s)
   have hA := above_push (cs := s.row) (above_push (cs := p.row) (above_self m))
   refine xq ?_
   refine x_region (kp := kpAvgSt) mixed hC ?_
   refine go1 (jn @n1 @n2) ?_
   refine xq ?_
   generalize (m.push p.row).push s.row = m2 at vp vs hA
   generalize (m.push p.row).vars.length = rs at vs
   generalize m.vars.length = rp at vp
   have k1 : (!true) = false := rfl
   have k2 : (!false) = true := rfl
   have l1 := lpSsEma vs
   have l2 := lpPnEmaOn vp
   have l3 := vrPn vp
   have l4 := vrSs vs
   have l5 := lpSsSwaCount vs
   have l6 := lpSsSwaSums vs
   have c1 := takenV_eq s
   have c2 := sumsV_eq p (takenV s)
   have c3 := longV_eq p (p.ema.On && decide (takenV s > 0))
   have c5 := longV_eq p (decide (sumsV p (takenV s) > 0))
   unfold avgStB
   refine x_walk0 (l2 := kpAvgSt 1) mixed hC (by kernel_rfl) ?_
   refine gof1 (jn @l3 (jn @l4 (jn @t1 (jn @c1 (jn @t2 @c2))))) ?_
   refine xq ?_
   generalize sumsV p (takenV s) = n at c2 c5
   cases ho : p.ema.On with
   | false =>
    rw [ho] at l2
    simp only [Bool.false_and]
    have c3 := longV_eq p false
    cases h0 : ((s.ema.length : Int) == longV p (false)) with
    | false =>
     refine x_walk0 (l2 := kpAvgSt 2) mixed hC (by kernel_rfl) ?_
     refine gof1 (jn @ho (jn @l1 (jn @l3 (jn @l2 (jn @l4 (jn @t1 (jn @c1 (jn @t3 (jn @c3 @h0))))))))) ?_
     refine xq ?_
     exact x_leaves (leaves_fin rfl rfl (above_fin hA))
    | true =>
     cases h1 : (s.swa.count == n) with
     | false =>
      refine x_walk0 (l2 := kpAvgSt 2) mixed hC (by kernel_rfl) ?_
      refine gof1 (jn @ho (jn @l1 (jn @l3 (jn @l2 (jn @l4 (jn @t1 (jn @c1 (jn @t3 (jn @c3 (jn @h0 (jn @l5 @h1))))))))))) ?_
      refine xq ?_
      exact x_leaves (leaves_fin rfl rfl (above_fin hA))
     | true =>
      refine x_walk0 (l2 := kpAvgSt 2) mixed hC (by kernel_rfl) ?_
      refine gof1 (jn @ho (jn @l1 (jn @l3 (jn @l2 (jn @l4 (jn @t1 (jn @c1 (jn @t3 (jn @c3 (jn @h0 (jn @l5 (jn @h1 (jn @l6 @c5))))))))))))) ?_
      refine xq ?_
      exact x_leaves (leaves_fin rfl rfl (above_fin hA))
   | true =>
    rw [ho] at l2
    simp only [Bool.true_and]
    have c3 := longV_eq p (decide (takenV s > 0))
    cases h0 : ((s.ema.length : Int) == longV p (decide (takenV s > 0))) with
    | false =>
     refine x_walk0 (l2 := kpAvgSt 2) mixed hC (by kernel_rfl) ?_
     refine gof1 (jn @ho (jn @l1 (jn @l3 (jn @l2 (jn @l4 (jn @t1 (jn @c1 (jn @t3 (jn @c3 @h0))))))))) ?_
     refine xq ?_
     exact x_leaves (leaves_fin rfl rfl (above_fin hA))
    | true =>
     cases h1 : (s.swa.count == n) with
     | false =>
      refine x_walk0 (l2 := kpAvgSt 2) mixed hC (by kernel_rfl) ?_
      refine gof1 (jn @ho (jn @l1 (jn @l3 (jn @l2 (jn @l4 (jn @t1 (jn @c1 (jn @t3 (jn @c3 (jn @h0 (jn @l5 @h1))))))))))) ?_
      refine xq ?_
      exact x_leaves (leaves_fin rfl rfl (above_fin hA))
     | true =>
      refine x_walk0 (l2 := kpAvgSt 2) mixed hC (by kernel_rfl) ?_
      refine gof1 (jn @ho (jn @l1 (jn @l3 (jn @l2 (jn @l4 (jn @t1 (jn @c1 (jn @t3 (jn @c3 (jn @h0 (jn @l5 (jn @h1 (jn @l6 @c5))))))))))))) ?_
      refine xq ?_
      exact x_leaves (leaves_fin rfl rfl (above_fin hA))
  ·cases h
 ·cases h
end
section
attribute [local irreducible] Next Inside Runs Ops table
attribute [local irreducible] XRuns XOps
attribute [local go_sem] szStr szInt Option.getD_some isNil evMinMax evFoldI iv mapRd cellsRd newRd ldRd rowsRd_len fpRdHas fpRdVal feRdHas leRdHas feRdVal leRdVal mapIn cellsIn newIn fpInReadings fpInWeights mapPn cellsPn newPn fpPnMetrics fpPnWeights rowsI_len List.cons_append
def badRd (r : Rd) : Bool := !r.has && (r.val != 0)
def badRdG : List AV → Mem → Option (AV × Mem)
 | [.agg cs], m =>
  match unRd cs with
  | some r => some (.v (.bool (badRd r)), m)
  | none => none
 | _, _ => none
theorem badRd_eq (r : Rd) (m : Mem) : badRdG [.agg r.row] m = some (.v (.bool (badRd r)), m) := by
 simp only [badRdG, unRd_row]
def kpBadRd : Nat → Option (List Nat) := fun
 | 0 => some [1]
 | 1 => some [2]
 | _ => none
attribute [go_sem] kpBadRd
theorem badRd_ok : FunOk Tryz.prog 94 badRdG := by
 have hC := table_ok (P := Tryz.prog) (l := []) table_nil
 refine fun_ok mixed hC Tryz.func94 rfl kpBadRd false rfl fun args m r h => ?_
 unfold badRdG at h
 split at h
 ·rename_i cs
  split at h
  ·rename_i r hr0
   obtain rfl := unRd_some hr0
   simp only [Option.some.injEq] at h
   subst h
   refine ⟨Nat.le_of_ble_eq_true rfl, ?_⟩
   refine en ?_
   have v1 : (m.push r.row).var m.vars.length = some r.row := push_var
   have nr := newRd (m := m) (x := r)
   have hA := above_push (cs := r.row) (above_self m)
   refine go1 @nr ?_
   generalize m.push r.row = m2 at v1 hA
   generalize m.vars.length = r1 at v1
   have l1 := lpRdHas v1
   have l2 := lpRdVal v1
   have k1 : (!true) = false := rfl
   have k2 : (!false) = true := rfl
   unfold badRd
   cases hh : r.has with
   | true =>
    rw [hh] at l1
    refine go1 (jn @l1 @k1) ?_
    exact leaves_fin rfl rfl (above_fin hA)
   | false =>
    rw [hh] at l1
    refine go1 (jn @l1 (jn @k2 @l2)) ?_
    exact leaves_fin rfl rfl (above_fin hA)
  ·cases h
 ·cases h
def findRdG : List AV → Mem → Option (AV × Mem)
 | [.lst _ 2 rows, .fn (.func 94) [] []], m =>
  match unsRd rows with
  | some l => if l.length ≤ 1000000 then some (iv (firstBy badRd l 0), m) else none
  | none => none
 | _, _ => none
def kpFindRd : Nat → Option (List Nat) := fun
 | 0 => some [0, 1]
 | 1 => some [0, 1, 7, 8]
 | 2 => some [0, 1, 7, 8, 9]
 | 3 => some [0, 1, 5, 7, 8]
 | 4 => some [0, 1, 5, 7, 8, 16]
 | 5 => some [4]
 | 6 => some [0, 1, 7, 8]
 | 7 => some [4]
 | _ => none
attribute [go_sem] kpFindRd
def tab_findRd_ok : List (FuncId × (List AV → Mem → Option (AV × Mem))) := [(94, badRdG)]
theorem findRd_ok : FunOk Tryz.prog 110 findRdG := by
 have hC := table_ok (P := Tryz.prog) (l := tab_findRd_ok) (table_more badRd_ok table_nil)
 have t1 := fun args mm => table_at (l := tab_findRd_ok) (f := 94) (args := args) (m := mm) rfl
 refine fun_ok mixed hC Tryz.func110 rfl kpFindRd false rfl fun args m r h => ?_
 unfold findRdG at h
 split at h
 ·rename_i g rows
  split at h
  ·rename_i l hl0
   obtain rfl := unsRd_some hl0
   split at h
   ·rename_i hlen
    simp only [Option.some.injEq] at h
    subst h
    refine ⟨Nat.le_of_ble_eq_true rfl, ?_⟩
    refine en ?_
    refine go0 ?_
    refine runs_loop (fun k e m' => ∃ (i : Nat), i ≤ l.length ∧ firstBy badRd (l.drop i) i = firstBy badRd l 0 ∧ m = m' ∧ k = l.length - i ∧
     e = [(0, AV.lst g 2 (rowsRd l)), (1, .fn (.func 94) [] []), (7, .v (.int .i64 l.length)), (8, .v (.int .i64 (i : Int)))]) (k := l.length) ⟨0, Nat.zero_le _, rfl, rfl, rfl, rfl⟩ ?_
    rintro k e m' ⟨i, hi, hf, rfl, rfl, rfl⟩
    refine go0 ?_
    refine runs_cond rfl (fun hc => ?_) (fun hc => ?_)
    ·have hi1 : i < l.length := by have := of_decide_eq_true hc; omega
     have f1 := atRd (g := g) (kk := .i64) hi1
     have f2 := badRd_eq (l.getD i rd0)
     refine go1 (jn @f1 (jn @t1 @f2)) ?_
     refine runs_cond rfl (fun hc => ?_) (fun hc => ?_)
     ·rw [by_yes hi1 hc hf]
      refine go0 ?_
      exact leaves_v rfl rfl
     ·have r6 := next_i64 (i := i) (by omega)
      refine go1 @r6 ?_
      exact ⟨l.length - (i + 1), by omega, i + 1, hi1, by_no hi1 hc hf, rfl, rfl, rfl⟩
    ·have hi1 : i = l.length := by have := of_decide_eq_false hc; omega
     subst hi1
     rw [by_end hf]
     refine go0 ?_
     exact leaves_v rfl rfl
   ·cases h
  ·cases h
 ·cases h
def anyRdG : List AV → Mem → Option (AV × Mem)
 | [.lst _ 2 rows, .fn (.func 94) [] []], m =>
  match unsRd rows with
  | some l => if l.length ≤ 1000000 then some (.v (.bool (l.any badRd)), m) else none
  | none => none
 | _, _ => none
theorem anyRd_eq {l : List Rd} {g : Grow} (h : l.length ≤ 1000000) (m : Mem) : anyRdG [.lst g 2 (rowsRd l), .fn (.func 94) [] []] m = some (.v (.bool (l.any badRd)), m) := by
 simp only [anyRdG, unsRd_rowsRd]
 exact if_pos h
def kpAnyRd : Nat → Option (List Nat) := fun
 | 0 => some [0, 1]
 | 1 => some [4]
 | _ => none
attribute [go_sem] kpAnyRd
def tab_anyRd_ok : List (FuncId × (List AV → Mem → Option (AV × Mem))) := [(110, findRdG)]
theorem anyRd_ok : FunOk Tryz.prog 93 anyRdG := by
 have hC := table_ok (P := Tryz.prog) (l := tab_anyRd_ok) (table_more findRd_ok table_nil)
 have t1 := fun args mm => table_at (l := tab_anyRd_ok) (f := 110) (args := args) (m := mm) rfl
 refine fun_ok mixed hC Tryz.func93 rfl kpAnyRd false rfl fun args m r h => ?_
 unfold anyRdG at h
 split at h
 ·rename_i g rows
  split at h
  ·rename_i l hl0
   obtain rfl := unsRd_some hl0
   split at h
   ·rename_i hlen
    simp only [Option.some.injEq] at h
    subst h
    refine ⟨Nat.le_of_ble_eq_true rfl, ?_⟩
    refine en ?_
    have f1 : findRdG [.lst .no 2 (rowsRd l), .fn (.func 94) [] []] m = some (.v (.int .i64 (firstBy badRd l 0)), m) := by
     simp only [findRdG, unsRd_rowsRd]
     exact if_pos hlen
    have e : decide (firstBy badRd l 0 ≥ 0) = l.any badRd := firstBy_any badRd l 0
    refine go1 (jn @t1 (jn @f1 @e)) ?_
    exact leaves_v rfl rfl
   ·cases h
  ·cases h
 ·cases h
/-! ### reading.Check -/
def rdOkB (p : Pn) (x : In) : Bool := planOkB p && ((x.readings.length : Int) == p.metrics) && ((x.weights.length : Int) == p.weights) && !(x.readings.any badRd)
def rdFit (p : Pn) (x : In) : Prop := p.fit ∧ x.readings.length ≤ 1000000 ∧ x.weights.length ≤ 1000000
instance (p : Pn) (x : In) : Decidable (rdFit p x) := by unfold rdFit; exact inferInstance
def rdCheckG : List AV → Mem → Option (AV × Mem)
 | [.agg ps, .agg xs], m =>
  match unPn ps, unIn xs with
  | some p, some x => if rdFit p x then some (iv (if rdOkB p x then 0 else 1), m) else none
  | _, _ => none
 | _, _ => none
theorem rdCheck_eq {p : Pn} {x : In} (h : rdFit p x) (m : Mem) : rdCheckG [.agg p.row, .agg x.row] m = some (.v (.int .i64 (if rdOkB p x then 0 else 1)), m) := by
 simp only [rdCheckG, unPn_row, unIn_row]
 exact if_pos h
def kpRdCheck : Nat → Option (List Nat) := fun
 | 0 => some [2, 3]
 | 1 => some [3, 23]
 | 2 => some [4]
 | 3 => some [26]
 | 4 => some [4]
 | 5 => some [4]
 | _ => none
attribute [go_sem] kpRdCheck
def tab_rdCheck_ok : List (FuncId × (List AV → Mem → Option (AV × Mem))) := [(59, planCheckG), (93, anyRdG)]
theorem rdCheck_ok : FunOk Tryz.prog 65 rdCheckG := by
 have hC := table_ok (P := Tryz.prog) (l := tab_rdCheck_ok) (table_more planCheck_ok (table_more anyRd_ok table_nil))
 have t1 := fun args mm => table_at (l := tab_rdCheck_ok) (f := 59) (args := args) (m := mm) rfl
 have t2 := fun args mm => table_at (l := tab_rdCheck_ok) (f := 93) (args := args) (m := mm) rfl
 refine fun_ok mixed hC Tryz.func65 rfl kpRdCheck false rfl fun args m r h => ?_
 unfold rdCheckG at h
 split at h
 ·rename_i ps xs
  split at h
  ·rename_i p x hp0 hx0
   obtain rfl := unPn_some hp0
   obtain rfl := unIn_some hx0
   split at h
   ·rename_i hd
    obtain ⟨hfit, hr6, hw6⟩ := hd
    simp only [Option.some.injEq] at h
    subst h
    refine ⟨Nat.le_of_ble_eq_true rfl, ?_⟩
    refine en ?_
    have vp : ((m.push p.row).push x.row).var m.vars.length = some p.row := push_old push_var
    have vx : ((m.push p.row).push x.row).var (m.push p.row).vars.length = some x.row := push_var
    have n1 := newPn (m := m) (x := p)
    have n2 := newIn (m := m.push p.row) (x := x)
    have hA := above_push (cs := x.row) (above_push (cs := p.row) (above_self m))
    refine go1 (jn @n1 @n2) ?_
    generalize (m.push p.row).push x.row = m2 at vp vx hA
    generalize (m.push p.row).vars.length = rx at vx
    generalize m.vars.length = rp at vp
    have l1 := vrPn vp
    have l2 := lpPnMetrics vp
    have l3 := lpPnWeights vp
    have l4 := lpInReadings vx
    have l5 := lpInWeights vx
    have c1 : ∀ mm, planCheckG [.agg p.row] mm = some (.v (.int .i64 (if planOkB p then 0 else 1)), mm) := fun mm => by
     simp only [planCheckG, unPn_row]
     exact if_pos hfit
    have c2 := anyRd_eq (l := x.readings) (g := .no) hr6
    have k1 : (!true) = false := rfl
    have k2 : (!false) = true := rfl
    have z0 : ((0 : Int) != 0) = false := rfl
    have z1 : ((1 : Int) != 0) = true := rfl
    have fin : ∀ (e : Env) (n : Int), Ev.get e 4 = .v (.int .i64 n) → n = (if rdOkB p x then 0 else 1) → Leaves Tryz.prog false Tryz.f65 m (iv (if rdOkB p x then 0 else 1), m) .ret e m2 := fun e n h1 h2 => by rw [← h2]; exact leaves_fin rfl h1 (above_fin hA)
    cases h0 : planOkB p with
    | false =>
     rw [h0] at c1
     simp only [Bool.false_eq_true, if_false] at c1
     refine go1 (jn @l1 (jn @t1 (jn @c1 @z1))) ?_
     refine runs_cond rfl (fun hc => ?_) (fun hc => by cases hc)
     refine go0 ?_
     exact fin _ _ rfl (by unfold rdOkB; rw [h0]; rfl)
    | true =>
     rw [h0] at c1
     simp only [if_true] at c1
     cases h1 : ((x.readings.length : Int) == p.metrics) with
     | false =>
      have q1 : ((x.readings.length : Int) != p.metrics) = true := by unfold bne; rw [h1]; rfl
      refine go1 (jn @l1 (jn @t1 (jn @c1 (jn @z0 (jn @l4 (jn @l2 @q1)))))) ?_
      refine runs_cond rfl (fun hc => ?_) (fun hc => by cases hc)
      refine go0 ?_
      exact fin _ _ rfl (by unfold rdOkB; rw [h1]; simp)
     | true =>
      have q1 : ((x.readings.length : Int) != p.metrics) = false := by unfold bne; rw [h1]; rfl
      cases h2 : ((x.weights.length : Int) == p.weights) with
      | false =>
       have q2 : ((x.weights.length : Int) != p.weights) = true := by unfold bne; rw [h2]; rfl
       refine go1 (jn @l1 (jn @t1 (jn @c1 (jn @z0 (jn @l4 (jn @l2 (jn @q1 (jn @l5 (jn @l3 @q2))))))))) ?_
       refine runs_cond rfl (fun hc => ?_) (fun hc => by cases hc)
       refine go0 ?_
       exact fin _ _ rfl (by unfold rdOkB; rw [h2]; simp)
      | true =>
       have q2 : ((x.weights.length : Int) != p.weights) = false := by unfold bne; rw [h2]; rfl
       refine go1 (jn @l1 (jn @t1 (jn @c1 (jn @z0 (jn @l4 (jn @l2 (jn @q1 (jn @l5 (jn @l3 @q2))))))))) ?_
       refine runs_cond rfl (fun hc => by cases hc) (fun hc => ?_)
       refine go1 (jn @l4 (jn @t2 @c2)) ?_
       cases h3 : x.readings.any badRd with
       | true =>
        refine runs_cond rfl (fun hc => ?_) (fun hc => by cases hc)
        refine go0 ?_
        exact fin _ _ rfl (by unfold rdOkB; rw [h3]; simp)
       | false =>
        refine runs_cond rfl (fun hc => by cases hc) (fun hc => ?_)
        refine go0 ?_
        exact fin _ _ rfl (by unfold rdOkB; rw [h0, h1, h2, h3]; rfl)
   ·cases h
  ·cases h
 ·cases h
/-! ### reading.Of -/
def rdOf (x : In) (at_ : Int) : Int × Bool := if at_ < 0 ∨ at_ ≥ (x.readings.length : Int) then (0, false) else if (x.readings.getD at_.toNat rd0).has = true then ((x.readings.getD at_.toNat rd0).val, true) else (0, false)
def rdOfG : List AV → Mem → Option (AV × Mem)
 | [.agg xs, .v (.int .i64 a)], m =>
  match unIn xs with
  | some x => if x.readings.length ≤ 1000000 then some (.tup [iv (rdOf x a).1, .v (.bool (rdOf x a).2)], m) else none
  | none => none
 | _, _ => none
theorem rdOf_eq {x : In} (h : x.readings.length ≤ 1000000) (a : Int) (m : Mem) : rdOfG [.agg x.row, .v (.int .i64 a)] m = some (.tup [.v (.int .i64 (rdOf x a).1), .v (.bool (rdOf x a).2)], m) := by
 simp only [rdOfG, unIn_row]
 exact if_pos h
def kpRdOf : Nat → Option (List Nat) := fun
 | 0 => some [1, 2]
 | 1 => some [1, 2, 23]
 | 2 => some [4, 5]
 | 3 => some [4, 5]
 | _ => none
attribute [go_sem] kpRdOf
theorem rdOf_ok : FunOk Tryz.prog 120 rdOfG := by
 have hC := table_ok (P := Tryz.prog) (l := []) table_nil
 refine fun_ok mixed hC Tryz.func120 rfl kpRdOf false rfl fun args m r h => ?_
 unfold rdOfG at h
 split at h
 ·rename_i xs a
  split at h
  ·rename_i x hx0
   obtain rfl := unIn_some hx0
   split at h
   ·rename_i hlen
    simp only [Option.some.injEq] at h
    subst h
    refine ⟨Nat.le_of_ble_eq_true rfl, ?_⟩
    refine en ?_
    have v2 : (m.push x.row).var m.vars.length = some x.row := push_var
    have nr := newIn (m := m) (x := x)
    have hA := above_push (cs := x.row) (above_self m)
    refine go1 @nr ?_
    generalize m.push x.row = m2 at v2 hA
    generalize m.vars.length = r2 at v2
    have l1 := lpInReadings v2
    have k1 : (!true) = false := rfl
    have k2 : (!false) = true := rfl
    have bad : ∀ (e : Env), Ev.get e 4 = .v (.int .i64 0) → Ev.get e 5 = .v (.bool false) → rdOf x a = (0, false) → Leaves Tryz.prog false Tryz.f120 m (.tup [iv (rdOf x a).1, .v (.bool (rdOf x a).2)], m) .ret e m2 := fun e h1 h2 h3 => by
     rw [h3]
     exact leaves_all rfl (by decide) (.cons rfl (by rw [h1]; rfl) (.cons rfl (by rw [h2]; rfl) .nil)) (above_fin hA)
    by_cases h1 : a < 0
    ·have q1 : decide (a < 0) = true := decide_eq_true h1
     refine go1 @q1 ?_
     refine runs_cond rfl (fun hc => ?_) (fun hc => by cases hc)
     refine go0 ?_
     exact bad _ rfl rfl (by unfold rdOf; rw [if_pos (.inl h1)])
    ·have q1 : decide (a < 0) = false := decide_eq_false h1
     by_cases h2 : a ≥ (x.readings.length : Int)
     ·have q2 : decide (a ≥ (x.readings.length : Int)) = true := decide_eq_true h2
      refine go1 (jn @q1 (jn @l1 @q2)) ?_
      refine runs_cond rfl (fun hc => ?_) (fun hc => by cases hc)
      refine go0 ?_
      exact bad _ rfl rfl (by unfold rdOf; rw [if_pos (.inr h2)])
     ·have q2 : decide (a ≥ (x.readings.length : Int)) = false := decide_eq_false h2
      obtain ⟨i, rfl⟩ := Int.eq_ofNat_of_zero_le (show 0 ≤ a by omega)
      have hi : i < x.readings.length := by omega
      have f1 := atRd (g := .no) (kk := .i64) hi
      have e0 : rdOf x (i : Int) = if (x.readings.getD i rd0).has = true then ((x.readings.getD i rd0).val, true) else (0, false) := by
       unfold rdOf
       rw [if_neg (by omega), Int.toNat_natCast]
      generalize x.readings.getD i rd0 = y at f1 e0
      cases hh : y.has with
      | false =>
       refine go1 (jn @q1 (jn @l1 (jn @q2 (jn @f1 (jn @hh @k2))))) ?_
       refine runs_cond rfl (fun hc => ?_) (fun hc => by cases hc)
       refine go0 ?_
       exact bad _ rfl rfl (by rw [e0, if_neg (by rw [hh]; decide)])
      | true =>
       rw [if_pos hh] at e0
       refine go1 (jn @q1 (jn @l1 (jn @q2 (jn @f1 (jn @hh @k1))))) ?_
       refine runs_cond rfl (fun hc => by cases hc) (fun hc => ?_)
       refine go1 (jn @l1 @f1) ?_
       rw [e0]
       exact leaves_all rfl (by decide) (.cons rfl rfl (.cons rfl rfl .nil)) (above_fin hA)
   ·cases h
  ·cases h
 ·cases h
end
section
attribute [local irreducible] Next Inside Runs Ops table
attribute [local irreducible] XRuns XOps
attribute [local go_sem] szStr szInt Option.getD_some isNil evMinMax evFoldI iv mapRd cellsRd newRd ldRd zrRd zoRd znRd rowsRd_len fpRdHas mapIn cellsIn newIn fpInReadings rowsI_len mkInts1 loadInt
def intAt (v : Int) (x : Int) : Bool := v == x
def indexG : List AV → Mem → Option (AV × Mem)
 | [.lst _ 1 rows, .v (.int .i64 v)], m =>
  match unJ rows with
  | some l => if l.length ≤ 1000000 then some (iv (firstBy (intAt v) l 0), m) else none
  | none => none
 | _, _ => none
def kpIndex : Nat → Option (List Nat) := fun
 | 0 => some [0, 1]
 | 1 => some [0, 1, 7, 8]
 | 2 => some [0, 1, 7, 8, 9]
 | 3 => some [0, 1, 5, 7, 8]
 | 4 => some [0, 1, 5, 7, 8, 16]
 | 5 => some [4]
 | 6 => some [0, 1, 7, 8]
 | 7 => some [4]
 | _ => none
attribute [go_sem] kpIndex
theorem index_ok : FunOk Tryz.prog 155 indexG := by
 have hC := table_ok (P := Tryz.prog) (l := []) table_nil
 refine fun_ok mixed hC Tryz.func155 rfl kpIndex false rfl fun args m r h => ?_
 unfold indexG at h
 split at h
 ·rename_i g rows v
  split at h
  ·rename_i l hl0
   obtain rfl := unJ_some hl0
   split at h
   ·rename_i hlen
    simp only [Option.some.injEq] at h
    subst h
    refine ⟨Nat.le_of_ble_eq_true rfl, ?_⟩
    refine en ?_
    refine go0 ?_
    refine runs_loop (fun k e m' => ∃ (i : Nat), i ≤ l.length ∧ firstBy (intAt v) (l.drop i) i = firstBy (intAt v) l 0 ∧ m = m' ∧ k = l.length - i ∧
     e = [(0, AV.lst g 1 (rowsI l)), (1, .v (.int .i64 v)), (7, .v (.int .i64 l.length)), (8, .v (.int .i64 (i : Int)))]) (k := l.length) ⟨0, Nat.zero_le _, rfl, rfl, rfl, rfl⟩ ?_
    rintro k e m' ⟨i, hi, hf, rfl, rfl, rfl⟩
    refine go0 ?_
    refine runs_cond rfl (fun hc => ?_) (fun hc => ?_)
    ·have hi1 : i < l.length := by have := of_decide_eq_true hc; omega
     have f1 := atInts (g := g) (kk := .i64) hi1
     refine go1 @f1 ?_
     refine runs_cond rfl (fun hc => ?_) (fun hc => ?_)
     ·rw [by_yes (d := 0) (p := intAt v) hi1 hc hf]
      refine go0 ?_
      exact leaves_v rfl rfl
     ·have r6 := next_i64 (i := i) (by omega)
      refine go1 @r6 ?_
      exact ⟨l.length - (i + 1), by omega, i + 1, hi1, by_no (d := 0) (p := intAt v) hi1 hc hf, rfl, rfl, rfl⟩
    ·have hi1 : i = l.length := by have := of_decide_eq_false hc; omega
     subst hi1
     rw [by_end hf]
     refine go0 ?_
     exact leaves_v rfl rfl
   ·cases h
  ·cases h
 ·cases h
def contG : List AV → Mem → Option (AV × Mem)
 | [.lst _ 1 rows, .v (.int .i64 v)], m =>
  match unJ rows with
  | some l => if l.length ≤ 1000000 then some (.v (.bool (l.any (intAt v))), m) else none
  | none => none
 | _, _ => none
theorem cont_eq {l : List Int} {g : Grow} (h : l.length ≤ 1000000) (v : Int) (m : Mem) : contG [.lst g 1 (rowsI l), .v (.int .i64 v)] m = some (.v (.bool (l.any (intAt v))), m) := by
 simp only [contG, unJ_rowsI]
 exact if_pos h
def kpCont : Nat → Option (List Nat) := fun
 | 0 => some [0, 1]
 | 1 => some [4]
 | _ => none
attribute [go_sem] kpCont
def tab_cont_ok : List (FuncId × (List AV → Mem → Option (AV × Mem))) := [(155, indexG)]
theorem cont_ok : FunOk Tryz.prog 138 contG := by
 have hC := table_ok (P := Tryz.prog) (l := tab_cont_ok) (table_more index_ok table_nil)
 have t1 := fun args mm => table_at (l := tab_cont_ok) (f := 155) (args := args) (m := mm) rfl
 refine fun_ok mixed hC Tryz.func138 rfl kpCont false rfl fun args m r h => ?_
 unfold contG at h
 split at h
 ·rename_i g rows v
  split at h
  ·rename_i l hl0
   obtain rfl := unJ_some hl0
   split at h
   ·rename_i hlen
    simp only [Option.some.injEq] at h
    subst h
    refine ⟨Nat.le_of_ble_eq_true rfl, ?_⟩
    refine en ?_
    have f1 : indexG [.lst .no 1 (rowsI l), .v (.int .i64 v)] m = some (.v (.int .i64 (firstBy (intAt v) l 0)), m) := by
     simp only [indexG, unJ_rowsI]
     exact if_pos hlen
    have e : decide (firstBy (intAt v) l 0 ≥ 0) = l.any (intAt v) := firstBy_any (intAt v) l 0
    refine go1 (jn @t1 (jn @f1 @e)) ?_
    exact leaves_v rfl rfl
   ·cases h
  ·cases h
 ·cases h
/-! ### reading.Missing -/
def missTo (l : List Rd) : Nat → List Int
 | 0 => []
 | i + 1 => if (l.getD i rd0).has = true then missTo l i else missTo l i ++ [(i : Int)]
theorem missTo_len (l : List Rd) : ∀ i, (missTo l i).length ≤ i
 | 0 => Nat.le_refl _
 | i + 1 => by
  have := missTo_len l i
  rw [missTo]
  split
  ·omega
  ·rw [List.length_append]
   simp
   omega
def missL (l : List Rd) : List Int := missTo l l.length
def missG : List AV → Mem → Option (AV × Mem)
 | [.agg xs], m =>
  match unIn xs with
  | some x => if x.readings.length ≤ 1000000 then some (.lst .no 1 (rowsI (missL x.readings)), m) else none
  | none => none
 | _, _ => none
theorem miss_eq {x : In} (h : x.readings.length ≤ 1000000) (m : Mem) : missG [.agg x.row] m = some (.lst .no 1 (rowsI (missL x.readings)), m) := by
 simp only [missG, unIn_row]
 exact if_pos h
theorem stRd {m : Mem} {x : Rd} : evStore Tryz.prog (m.push zeroRd) 89 (.ptr m.vars.length 0) (.agg x.row) = some (m.push x.row) := by
 rw [store_push (cs := x.row) rfl szRd (Nat.le_refl _) rfl]
 rfl
def kpMiss : Nat → Option (List Nat) := fun
 | 0 => some [1]
 | 1 => some [1, 3]
 | 2 => some [3, 7, 8, 9]
 | 3 => some [3, 7, 8, 9, 10]
 | 4 => some [3, 4, 5, 7, 8, 9]
 | 5 => some [3, 4, 7, 8, 9, 16]
 | 6 => some [3, 7, 8, 9]
 | 7 => some [3, 7, 8, 9]
 | 8 => some [2]
 | _ => none
attribute [go_sem] kpMiss
theorem miss_ok : FunOk Tryz.prog 137 missG := by
 have hC := table_ok (P := Tryz.prog) (l := []) table_nil
 refine fun_ok mixed hC Tryz.func137 rfl kpMiss false rfl fun args m r h => ?_
 unfold missG at h
 split at h
 ·rename_i xs
  split at h
  ·rename_i x hx0
   obtain rfl := unIn_some hx0
   split at h
   ·rename_i hlen
    simp only [Option.some.injEq] at h
    subst h
    refine ⟨Nat.le_of_ble_eq_true rfl, ?_⟩
    refine en ?_
    have v1 : (m.push x.row).var m.vars.length = some x.row := push_var
    have nr := newIn (m := m) (x := x)
    have hG := growsA_push (cs := x.row) (growsA_full (m := m))
    have l1 := lpInReadings v1
    refine go1 (jn @nr @l1) ?_
    generalize m.push x.row = m2 at hG
    have k1 : (!true) = false := rfl
    have k2 : (!false) = true := rfl
    generalize x.readings = l at hlen
    refine runs_loop (fun k e m' => ∃ (i : Nat) (g : Grow), i ≤ l.length ∧ GrowsA m g m' ∧ k = l.length - i ∧
     e = [(3, AV.lst g 1 (rowsI (missTo l i))), (7, .lst .no 2 (rowsRd l)), (8, .v (.int .i64 l.length)), (9, .v (.int .i64 (i : Int)))]) (k := l.length) ⟨0, _, Nat.zero_le _, hG, rfl, rfl⟩ ?_
    rintro k e m' ⟨i, g, hi, hG, rfl, rfl⟩
    refine go0 ?_
    refine runs_cond rfl (fun hc => ?_) (fun hc => ?_)
    ·have hi1 : i < l.length := by have := of_decide_eq_true hc; omega
     have f1 := atRd (g := .no) (kk := .i64) hi1
     have r6 := next_i64 (i := i) (by omega)
     have hS : missTo l (i + 1) = if (l.getD i rd0).has = true then missTo l i else missTo l i ++ [(i : Int)] := rfl
     have hln := missTo_len l i
     generalize missTo l i = L at hS hln
     generalize l.getD i rd0 = y at f1 hS
     have st := stRd (m := m') (x := y)
     have v5 : (m'.push y.row).var m'.vars.length = some y.row := push_var
     have hG3 := growsA_push (cs := y.row) hG
     refine go1 (jn @f1 @st) ?_
     generalize m'.push y.row = m3 at v5 hG3
     generalize m'.vars.length = r5 at v5
     have l2 := lpRdHas v5
     cases hh : y.has with
     | true =>
      rw [hh] at l2
      refine go1 (jn @l2 @k1) ?_
      refine runs_cond rfl (fun hc => by cases hc) (fun hc => ?_)
      refine go1 @r6 ?_
      exact ⟨l.length - (i + 1), by omega, i + 1, g, hi1, hG3, rfl, by rw [hS, if_pos hh]⟩
     | false =>
      rw [hh] at l2
      refine go1 (jn @l2 @k2) ?_
      refine runs_cond rfl (fun hc => ?_) (fun hc => by cases hc)
      obtain ⟨g2, m4, a1, hG4⟩ := app_growsA appInts hG3 (xs := rowsI L) (y := .lst .full 1 [[.v (.int .i64 (i : Int))]]) asList_lst (by rw [rowsI_len]; unfold lim; simp; omega)
      refine go1 (jn @a1 @r6) ?_
      refine ⟨l.length - (i + 1), by omega, i + 1, g2, hi1, hG4, rfl, ?_⟩
      rw [hS, if_neg (by rw [hh]; decide)]
      unfold rowsI
      rw [List.map_append]
      rfl
    ·have hi1 : i = l.length := by have := of_decide_eq_false hc; omega
     subst hi1
     refine go0 ?_
     exact leaves_lst rfl rfl (growsA_fin hG)
   ·cases h
  ·cases h
 ·cases h
end
noncomputable section
attribute [local irreducible] Next Inside Runs Ops table
attribute [local irreducible] XRuns XOps XLin
attribute [local go_sem] szStr szInt Option.getD_some isNil evMinMax evFoldI iv mapKt cellsKt newKt ldKt rowsKt_len fpKtStep fpKtVal feKtStep leKtStep feKtVal leKtVal mapRu cellsRu List.cons_append ldBool
def aheadB (most : Bool) (a b : Kt) : Bool := betV a.val b.val (mkRule most 0)
def aheadFn (most : Bool) : AV := .fn (.func 125) [] [.eptr [.v (.bool most)]]
def shelfRow (n : Int) (most : Bool) : List AV := [iv n, aheadFn most]
def aheadG : List AV → Mem → Option (AV × Mem)
 | [.agg ac, .agg bc, .eptr [.v (.bool most)]], m =>
  match unKt ac, unKt bc with
  | some a, some b => if inI a.val ∧ inI b.val then some (.v (.bool (aheadB most a b)), m) else none
  | _, _ => none
 | _, _ => none
theorem ahead_eq {a b : Kt} (h : inI a.val ∧ inI b.val) (most : Bool) (m : Mem) : aheadG [.agg a.row, .agg b.row, .eptr [.v (.bool most)]] m = some (.v (.bool (aheadB most a b)), m) := by
 simp only [aheadG, unKt_row]
 exact if_pos h
theorem mkRuM {m : Bool} : evBuild Tryz.prog 57 [(0, .v (.bool m))] = some (.agg (mkRule m 0).row) := by kernel_rfl
def kpAhead : Nat → Option (List Nat) := fun
 | 0 => some [2, 3, 4]
 | 1 => some [5]
 | _ => none
attribute [go_sem] kpAhead
def tab_ahead_ok : List (FuncId × (List AV → Mem → Option (AV × Mem))) := [(126, isG)]
theorem ahead_ok : FunOk Tryz.prog 125 aheadG := by
 have hC := table_ok (P := Tryz.prog) (l := tab_ahead_ok) (table_more is_ok table_nil)
 have t1 := fun args mm => table_at (l := tab_ahead_ok) (f := 126) (args := args) (m := mm) rfl
 refine fun_ok mixed hC Tryz.func125 rfl kpAhead false rfl fun args m r h => ?_
 unfold aheadG at h
 split at h
 ·rename_i ac bc most
  split at h
  ·rename_i a b ha0 hb0
   obtain rfl := unKt_some ha0
   obtain rfl := unKt_some hb0
   split at h
   ·rename_i hd
    simp only [Option.some.injEq] at h
    subst h
    refine ⟨Nat.le_of_ble_eq_true rfl, ?_⟩
    refine en ?_
    have va : ((m.push a.row).push b.row).var m.vars.length = some a.row := push_old push_var
    have vb : ((m.push a.row).push b.row).var (m.push a.row).vars.length = some b.row := push_var
    have n1 := newKt (m := m) (x := a)
    have n2 := newKt (m := m.push a.row) (x := b)
    have hA := above_push (cs := b.row) (above_push (cs := a.row) (above_self m))
    refine go1 (jn @n1 @n2) ?_
    generalize (m.push a.row).push b.row = m2 at va vb hA
    generalize (m.push a.row).vars.length = rb at vb
    generalize m.vars.length = ra at va
    have l1 := lpKtVal va
    have l2 := lpKtVal vb
    have mk := mkRuM (m := most)
    have c1 := isG_eq (x := a.val) (b := b.val) (r := mkRule most 0) ⟨hd.1, hd.2, show inI 0 by decide⟩
    refine go1 (jn @l1 (jn @l2 (jn @mk (jn @t1 @c1)))) ?_
    exact leaves_fin rfl rfl (above_fin hA)
   ·cases h
  ·cases h
 ·cases h
/-! ### best.of -/
def zeroSf : List AV := [.v (.int .i64 0), .v .nilFunc]
theorem zrSf : zeroCells Tryz.prog 162 = some zeroSf := by kernel_rfl
theorem zoSf : zeroSf.all okCell = true := rfl
theorem znSf {m : Mem} : newVar m m.vars.length zeroSf = some (m.push zeroSf) := newVar_push rfl
theorem szSf : tSize Tryz.prog 162 = some 2 := by kernel_rfl
theorem agSf : tAgg Tryz.prog 162 = some true := by kernel_rfl
theorem newSf {m : Mem} {n : Int} {b : Bool} : newVar m m.vars.length (shelfRow n b) = some (m.push (shelfRow n b)) := newVar_push rfl
theorem cellsSf {n : Int} {b : Bool} : cellsOf (.agg (shelfRow n b)) = some (shelfRow n b) := rfl
theorem mapSf {n : Int} {b : Bool} : List.map argCell (shelfRow n b) = shelfRow n b := rfl
theorem vrSf {m : Mem} {r : Nat} {n : Int} {b : Bool} (hv : m.var r = some (shelfRow n b)) : evLoad Tryz.prog m 162 (.ptr r 0) = some (.agg (shelfRow n b)) := load_sub (off := 0) hv szSf agSf (Nat.le_of_ble_eq_true rfl) rfl
theorem fpSfCount {r : Nat} : evFieldAddr Tryz.prog 162 (.ptr r 0) 0 = some (.ptr r 0) := by kernel_rfl
theorem fpSfAhead {r : Nat} : evFieldAddr Tryz.prog 162 (.ptr r 0) 1 = some (.ptr r 1) := by kernel_rfl
theorem lpSfCount {m : Mem} {r : Nat} {n : Int} {b : Bool} (hv : m.var r = some (shelfRow n b)) : evLoad Tryz.prog m 3 (.ptr r 0) = some (.v (.int .i64 n)) := load_cell (k := 1) hv (by kernel_rfl) (by kernel_rfl) rfl
theorem lpSfAhead {m : Mem} {r : Nat} {n : Int} {b : Bool} (hv : m.var r = some (shelfRow n b)) : evLoad Tryz.prog m 160 (.ptr r 1) = some (aheadFn b) := load_cell (k := 1) hv (by kernel_rfl) (by kernel_rfl) rfl
theorem mkSf {n : Int} {b : Bool} : evBuild Tryz.prog 162 [(0, .v (.int .i64 n)), (1, .fn (.func 125) [] [.eptr [.v (.bool b)]])] = some (.agg (shelfRow n b)) := by kernel_rfl
def shelfG : List AV → Mem → Option (AV × Mem)
 | [.v (.int .i64 n), .v (.bool b)], m => some (.agg (shelfRow (mx n 0) b), m)
 | _, _ => none
theorem shelf_eq (n : Int) (b : Bool) (m : Mem) : shelfG [.v (.int .i64 n), .v (.bool b)] m = some (.agg (shelfRow (mx n 0) b), m) := rfl
def kpShelf : Nat → Option (List Nat) := fun
 | 0 => some [0, 3, 4]
 | 1 => some [4]
 | _ => none
attribute [go_sem] kpShelf
theorem shelf_ok : FunOk Tryz.prog 108 shelfG := by
 have hC := table_ok (P := Tryz.prog) (l := []) table_nil
 refine fun_okX Tryz.func108 rfl false rfl fun args m r h => ?_
 unfold shelfG at h
 split at h
 ·rename_i n b
  simp only [Option.some.injEq] at h
  subst h
  refine ⟨Nat.le_of_ble_eq_true rfl, fun φ wd => ?_⟩
  refine en ?_
  have v4 : (m.push zeroSf).var m.vars.length = some zeroSf := push_var
  have nz := znSf (m := m)
  have zr := zrSf
  have zo := zoSf
  have hA := above_push (cs := zeroSf) (above_self m)
  refine xq ?_
  refine x_ops (l2 := kpShelf 0) ?_
  refine xops_step (xs_boxStill (t1 := 0) rfl rfl (by decide) rfl rfl rfl rfl ?_)
  refine gox1 hC (jn @zr (jn @zo @nz)) ?_
  refine xq ?_
  generalize m.push zeroSf = m2 at v4 hA
  generalize hr4 : m.vars.length = r4 at v4
  have st : evStore Tryz.prog m2 162 (.ptr r4 0) (.agg (shelfRow (mx n 0) b)) = some (setv m2 r4 (shelfRow (mx n 0) b)) := store_part v4 szSf rfl rfl (Nat.le_refl _) rfl rfl
  have mk := mkSf (n := mx n 0) (b := b)
  refine x_region (kp := kpShelf) mixed hC ?_
  refine go1 (jn @mk @st) ?_
  refine xq ?_
  exact x_leaves (leaves_cell1 rfl (vrSf (setv_var v4)) rfl (above_fin (above_setv hA (Nat.le_of_eq hr4))))
 ·cases h
def putG : List AV → Mem → Option (AV × Mem)
 | [.agg ys, .ptr r1 0, .ptr r2 0], m =>
  match unKt ys, m.var r1, m.var r2 with
  | some y, some [.v (.int .i64 _), .fn (.func 125) [] [.eptr [.v (.bool b)]]], some xs =>
   match unKt xs with
   | some x => if inI x.val ∧ inI y.val then some (.v (.bool (aheadB b x y)), m) else none
   | none => none
  | _, _, _ => none
 | _, _ => none
theorem put_eq {x y : Kt} {b : Bool} {n : Int} {m : Mem} {r1 r2 : Nat} (h1 : m.var r1 = some (shelfRow n b)) (h2 : m.var r2 = some x.row) (h : inI x.val ∧ inI y.val) : putG [.agg y.row, .ptr r1 0, .ptr r2 0] m = some (.v (.bool (aheadB b x y)), m) := by
 simp only [putG, unKt_row, h1, h2, shelfRow, aheadFn, iv]
 exact if_pos h
def kpPut1 : Nat → Option (List Nat) := fun
 | 0 => some [1, 2, 3]
 | 1 => some [4]
 | _ => none
attribute [go_sem] kpPut1
attribute [local go_sem] fpSfAhead aheadFn
def tab_put1_ok : List (FuncId × (List AV → Mem → Option (AV × Mem))) := [(125, aheadG)]
theorem put1_ok : FunOk Tryz.prog 169 putG := by
 have hC := table_ok (P := Tryz.prog) (l := tab_put1_ok) (table_more ahead_ok table_nil)
 have t1 := fun args mm => table_at (l := tab_put1_ok) (f := 125) (args := args) (m := mm) rfl
 refine fun_ok mixed hC Tryz.func169 rfl kpPut1 false rfl fun args m r h => ?_
 unfold putG at h
 split at h
 ·rename_i ys r1 r2
  split at h
  ·rename_i y n b xs hy0 hv1 hv2
   obtain rfl := unKt_some hy0
   split at h
   ·rename_i x hx0
    obtain rfl := unKt_some hx0
    split at h
    ·rename_i hd
     simp only [Option.some.injEq] at h
     subst h
     refine ⟨Nat.le_of_ble_eq_true rfl, ?_⟩
     refine en ?_
     have vy : (m.push y.row).var m.vars.length = some y.row := push_var
     have w1 : (m.push y.row).var r1 = some (shelfRow n b) := push_old hv1
     have w2 : (m.push y.row).var r2 = some x.row := push_old hv2
     have n1 := newKt (m := m) (x := y)
     have hA := above_push (cs := y.row) (above_self m)
     refine go1 @n1 ?_
     generalize m.push y.row = m2 at vy w1 w2 hA
     generalize m.vars.length = ry at vy
     have l1 := lpSfAhead w1
     have l2 := vrKt w2
     have l3 := vrKt vy
     have c1 := ahead_eq (a := x) (b := y) hd b
     refine go1 (jn @l1 (jn @l2 (jn @l3 (jn @t1 @c1)))) ?_
     exact leaves_fin rfl rfl (above_fin hA)
    ·cases h
   ·cases h
  ·cases h
 ·cases h
/-! ### what state.kept looks for -/
def keptBad (p : Pn) (s : Ss) (k : Kt) : Bool := !(inB k.step 0 (IntKind.i64.wrap (takenV s - 1))) || ((IntKind.i64.wrap (k.step + 1)).tmod p.eval != 0)
def keptBadG : List AV → Mem → Option (AV × Mem)
 | [.agg ks, .ptr r1 0, .ptr r2 0], m =>
  match unKt ks, (m.var r1).bind unSs, (m.var r2).bind unPn with
  | some k, some s, some p => if p.eval ≠ 0 then some (.v (.bool (keptBad p s k)), m) else none
  | _, _, _ => none
 | _, _ => none
theorem keptBad_eq {p : Pn} {s : Ss} {k : Kt} {m : Mem} {r1 r2 : Nat} (h1 : m.var r1 = some s.row) (h2 : m.var r2 = some p.row) (h : p.eval ≠ 0) : keptBadG [.agg k.row, .ptr r1 0, .ptr r2 0] m = some (.v (.bool (keptBad p s k)), m) := by
 simp only [keptBadG, unKt_row, h1, h2, Option.bind_some, unSs_row, unPn_row]
 exact if_pos h
theorem bind_var {α : Type} {m : Mem} {r : Nat} {un : List AV → Option α} {x : α} (h : (m.var r).bind un = some x) : ∃ cs, m.var r = some cs ∧ un cs = some x := Option.bind_eq_some_iff.1 h
def kpKeptBad : Nat → Option (List Nat) := fun
 | 0 => some [1, 2, 3]
 | 1 => some [4]
 | _ => none
attribute [go_sem] kpKeptBad
attribute [local go_sem] mapSs fpPnEval
def tabKeptBad : List (FuncId × (List AV → Mem → Option (AV × Mem))) := [(90, takenVG), (82, inBG)]
theorem keptBad_ok : FunOk Tryz.prog 89 keptBadG := by
 have hC := table_ok (P := Tryz.prog) (l := tabKeptBad) (table_more takenV_ok (table_more stateIn_ok table_nil))
 have t1 := fun args mm => table_at (l := tabKeptBad) (f := 90) (args := args) (m := mm) rfl
 have t2 := fun args mm => table_at (l := tabKeptBad) (f := 82) (args := args) (m := mm) rfl
 refine fun_okX Tryz.func89 rfl false rfl fun args m r h => ?_
 unfold keptBadG at h
 split at h
 ·rename_i ks r1 r2
  split at h
  ·rename_i k s p hk0 hs0 hp0
   obtain rfl := unKt_some hk0
   obtain ⟨ss, vs0, hs1⟩ := bind_var hs0
   obtain ⟨ps, vp0, hp1⟩ := bind_var hp0
   obtain rfl := unSs_some hs1
   obtain rfl := unPn_some hp1
   split at h
   ·rename_i hev
    simp only [Option.some.injEq] at h
    subst h
    refine ⟨Nat.le_of_ble_eq_true rfl, fun φ wd => ?_⟩
    refine en ?_
    have vk : (m.push k.row).var m.vars.length = some k.row := push_var
    have vs : (m.push k.row).var r1 = some s.row := push_old vs0
    have vp : (m.push k.row).var r2 = some p.row := push_old vp0
    have n1 := newKt (m := m) (x := k)
    have hA := above_push (cs := k.row) (above_self m)
    refine xq ?_
    refine x_region (kp := kpKeptBad) mixed hC ?_
    refine go1 @n1 ?_
    refine xq ?_
    generalize m.push k.row = m2 at vk vs vp hA
    generalize m.vars.length = rk at vk
    have l1 := lpKtStep vk
    have l2 := vrSs vs
    have l3 := lpPnEval vp
    have c1 := takenV_eq s
    have c2 := inB_eq k.step 0 (IntKind.i64.wrap (takenV s - 1))
    have k1 : (!true) = false := rfl
    have k2 : (!false) = true := rfl
    have hz : (p.eval = 0) = False := eq_false hev
    unfold keptBad
    cases h1 : inB k.step 0 (IntKind.i64.wrap (takenV s - 1)) with
    | false =>
     rw [h1] at c2
     refine x_walk0 (l2 := kpKeptBad 1) mixed hC (by kernel_rfl) ?_
     refine gof1 (jn @l1 (jn @l2 (jn @t1 (jn @c1 (jn @t2 (jn @c2 @k2)))))) ?_
     refine xq ?_
     exact x_leaves (leaves_fin rfl rfl (above_fin hA))
    | true =>
     rw [h1] at c2
     refine x_walk0 (l2 := kpKeptBad 1) mixed hC (by kernel_rfl) ?_
     refine gof1 (jn @l1 (jn @l2 (jn @t1 (jn @c1 (jn @t2 (jn @c2 (jn @k1 (jn @l3 @hz)))))))) ?_
     refine xq ?_
     exact x_leaves (leaves_fin rfl rfl (above_fin hA))
   ·cases h
  ·cases h
 ·cases h
end
end Go.Proofs.YtmockbddhhmmeaaGreat.Ev
