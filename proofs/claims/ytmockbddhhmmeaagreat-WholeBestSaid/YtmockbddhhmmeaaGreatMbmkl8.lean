/- The phase of a step. -/
import Derived.Test.YtmockbddhhmmeaaGreatMbmkl7
import Derived.Test.YtmockbddhhmmeaaGreatMbmkl3
namespace Go.Proofs.YtmockbddhhmmeaaGreat.Ev
open Go Go.Proofs
set_option maxRecDepth 10000
set_option maxHeartbeats 8000000
set_option linter.unusedVariables false
set_option linter.unusedSimpArgs false
section
attribute [local irreducible] Next Inside Runs Ops table
attribute [local irreducible] XRuns XOps
attribute [local go_sem] szStr szInt Option.getD_some isNil evStr iv loadInt rowsSp_len fpSpFrom_ fpSpTo_ feSpFrom_ feSpTo_ leSpFrom_ leSpTo_ ldSp newSp cellsSp mapSp List.cons_append
def spanHas (step : Int) (s : Sp) : Bool := decide (s.from_ ≤ step) && decide (step < s.to_)
def spanHasG : List AV → Mem → Option (AV × Mem)
 | [.agg cs, .ptr r 0], m =>
  match unSp cs, m.var r with
  | some s, some [.v (.int .i64 step)] => some (.v (.bool (spanHas step s)), m)
  | _, _ => none
 | _, _ => none
theorem lpInt1 {m : Mem} {r : Nat} {n : Int} (hv : m.var r = some [.v (.int .i64 n)]) : evLoad Tryz.prog m 3 (.ptr r 0) = some (.v (.int .i64 n)) := by
 unfold evLoad
 simp only [ptrCells, hv, Option.map_some, szInt, agInt]
 rfl
def kpSpanHas : Nat → Option (List Nat) := fun
 | 0 => some [1, 2]
 | 1 => some [3]
 | _ => none
attribute [go_sem] kpSpanHas
theorem spanHas_ok : FunOk Tryz.prog 112 spanHasG := by
 have hC := table_ok (P := Tryz.prog) (l := []) table_nil
 refine fun_ok mixed hC Tryz.func112 rfl kpSpanHas false rfl fun args m r h => ?_
 unfold spanHasG at h
 split at h
 ·rename_i cs r0
  split at h
  ·rename_i s step hs hv
   obtain rfl := unSp_some hs
   simp only [Option.some.injEq] at h
   subst h
   refine ⟨Nat.le_of_ble_eq_true rfl, ?_⟩
   refine en ?_
   have hp : (m.push s.row).var m.vars.length = some s.row := push_var
   have f1 := lpSpFrom_ hp
   have f2 := lpSpTo_ hp
   have f3 := lpInt1 (push_old (cs' := s.row) hv)
   have fin : ∀ (e : Env) (b : Bool), Ev.get e 3 = .v (.bool b) → b = spanHas step s → Leaves Tryz.prog false Tryz.f112 m (.v (.bool (spanHas step s)), m) .ret e (m.push s.row) := fun e b h1 h2 => by
    rw [← h2]; exact leaves_fin rfl h1 fin_push
   repeat' (first | refine gos1 (jn @f1 (jn @f2 @f3)) ?_ | (refine ops_here ?_; (fail_if_success (refine ops_case (B := true) rfl rfl rfl ?_ ?_)); (fail_if_success (refine ops_case (B := false) rfl rfl rfl ?_ ?_)); refine ops_case rfl rfl rfl (fun hB => ?_) (fun hB => ?_) <;> rw [hB]) | (refine runs_here ?_; refine runs_cond rfl (fun hc => ?_) (fun hc => ?_) <;> first | (cases hc; done) | skip))
   all_goals exact fin _ _ rfl (by first | (simp_all [spanHas]; done) | (simp_all [spanHas]; omega))
  ·cases h
 ·cases h
def spanFindG : List AV → Mem → Option (AV × Mem)
 | [.lst _ 2 rows, .fn (.func 112) [] [.ptr r 0]], m =>
  match unsSp rows, m.var r with
  | some l, some [.v (.int .i64 step)] => if l.length ≤ big40 then some (.v (.int .i64 (firstBy (spanHas step) l 0)), m) else none
  | _, _ => none
 | _, _ => none
def kpSpanFind : Nat → Option (List Nat) := fun
 | 0 => some [0, 1]
 | 1 => some [0, 1, 7, 8]
 | 2 => some [0, 1, 7, 8, 9]
 | 3 => some [0, 1, 5, 7, 8]
 | 4 => some [0, 1, 5, 7, 8, 16]
 | 5 => some [4]
 | 6 => some [0, 1, 7, 8]
 | 7 => some [4]
 | _ => none
attribute [go_sem] kpSpanFind
def tab_spanFind_ok : List (FuncId × (List AV → Mem → Option (AV × Mem))) := [(112, spanHasG)]
theorem spanFind_ok : FunOk Tryz.prog 111 spanFindG := by
 have hC := table_ok (P := Tryz.prog) (l := tab_spanFind_ok) (table_more spanHas_ok table_nil)
 have t1 := fun args mm => table_at (l := tab_spanFind_ok) (f := 112) (args := args) (m := mm) rfl
 refine fun_ok mixed hC Tryz.func111 rfl kpSpanFind false rfl fun args m r h => ?_
 unfold spanFindG at h
 split at h
 ·rename_i g rows r0
  split at h
  ·rename_i l step hl0 hv
   obtain rfl := unsSp_some hl0
   split at h
   ·rename_i hlen
    simp only [Option.some.injEq] at h
    subst h
    unfold big40 at hlen
    refine ⟨Nat.le_of_ble_eq_true rfl, ?_⟩
    refine en ?_
    refine go0 ?_
    refine runs_loop (fun k e m' => ∃ (i : Nat), i ≤ l.length ∧ firstBy (spanHas step) (l.drop i) i = firstBy (spanHas step) l 0 ∧ m = m' ∧ k = l.length - i ∧
     e = [(0, AV.lst g 2 (rowsSp l)), (1, .fn (.func 112) [] [.ptr r0 0]), (7, .v (.int .i64 l.length)), (8, .v (.int .i64 (i : Int)))]) (k := l.length) ⟨0, Nat.zero_le _, rfl, rfl, rfl, rfl⟩ ?_
    rintro k e m' ⟨i, hi, hf, rfl, rfl, rfl⟩
    refine go0 ?_
    refine runs_cond rfl (fun hc => ?_) (fun hc => ?_)
    ·have hi1 : i < l.length := by have := of_decide_eq_true hc; omega
     have f1 := atSp (g := g) (kk := .i64) hi1
     have f2 : spanHasG [.agg (l.getD i sp0).row, .ptr r0 0] m = some (.v (.bool (spanHas step (l.getD i sp0))), m) := by
      simp only [spanHasG, hv]
      rfl
     refine go1 (jn @f1 (jn @t1 @f2)) ?_
     refine runs_cond rfl (fun hc => ?_) (fun hc => ?_)
     ·rw [by_yes hi1 hc hf]
      refine go0 ?_
      exact leaves_v rfl rfl
     ·have r6 := next_i64 (i := i) (by omega)
      refine go1 @r6 ?_
      exact ⟨l.length - (i + 1), by omega, i + 1, hi1, by_no hi1 hc hf, rfl, rfl, rfl⟩
    ·have hi1 : i = l.length := by have := of_decide_eq_false hc; omega
     subst hi1
     rw [by_end hf]
     refine go0 ?_
     exact leaves_v rfl rfl
   ·cases h
  ·cases h
 ·cases h
def spanAtG : List AV → Mem → Option (AV × Mem)
 | [.lst _ 2 rows, .v (.int .i64 step)], m =>
  match unsSp rows with
  | some l => if l.length ≤ big40 then some (.v (.int .i64 (firstBy (spanHas step) l 0)), m) else none
  | none => none
 | _, _ => none
theorem spanAtG_eq {m : Mem} {g : Grow} {l : List Sp} {step : Int} (h : l.length ≤ big40) : spanAtG [.lst g 2 (rowsSp l), .v (.int .i64 step)] m = some (.v (.int .i64 (firstBy (spanHas step) l 0)), m) := by
 simp only [spanAtG, unsSp_rowsSp]
 rw [if_pos h]
def kpSpanAt : Nat → Option (List Nat) := fun
 | 0 => some [0, 3]
 | 1 => some [4]
 | _ => none
attribute [go_sem] kpSpanAt
theorem newInt1 {m : Mem} {n : Int} : newVar m m.vars.length [.v (.int .i64 n)] = some (m.push [.v (.int .i64 n)]) := newVar_push rfl
theorem cellsInt1 {n : Int} : cellsOf (.v (.int .i64 n)) = some [.v (.int .i64 n)] := rfl
attribute [local go_sem] newInt1 cellsInt1
def tab_spanAt_ok : List (FuncId × (List AV → Mem → Option (AV × Mem))) := [(111, spanFindG)]
theorem spanAt_ok : FunOk Tryz.prog 95 spanAtG := by
 have hC := table_ok (P := Tryz.prog) (l := tab_spanAt_ok) (table_more spanFind_ok table_nil)
 have t1 := fun args mm => table_at (l := tab_spanAt_ok) (f := 111) (args := args) (m := mm) rfl
 refine fun_ok mixed hC Tryz.func95 rfl kpSpanAt false rfl fun args m r h => ?_
 unfold spanAtG at h
 split at h
 ·rename_i g rows step
  split at h
  ·rename_i l hl0
   obtain rfl := unsSp_some hl0
   split at h
   ·rename_i hlen
    simp only [Option.some.injEq] at h
    subst h
    refine ⟨Nat.le_of_ble_eq_true rfl, ?_⟩
    refine en ?_
    have f1 : spanFindG [.lst .no 2 (rowsSp l), .fn (.func 112) [] [.ptr m.vars.length 0]] (m.push [.v (.int .i64 step)]) = some (.v (.int .i64 (firstBy (spanHas step) l 0)), m.push [.v (.int .i64 step)]) := by
     simp only [spanFindG, unsSp_rowsSp, push_var]
     rw [if_pos hlen]
    refine go1 (jn @t1 @f1) ?_
    exact leaves_fin rfl rfl fin_push
   ·cases h
  ·cases h
 ·cases h
attribute [local go_sem] evMinMax evFoldI mapPn cellsPn newPn fpPnSpans
def phaseV (p : Pn) (step : Int) : Int := firstBy (spanHas step) p.spans 0
def phaseG : List AV → Mem → Option (AV × Mem)
 | [.agg cs, .v (.int .i64 step)], m =>
  match unPn cs with
  | some p => if p.spans.length ≤ big40 then some (.v (.int .i64 (phaseV p step)), m) else none
  | none => none
 | _, _ => none
theorem phase_eq {p : Pn} (h : p.spans.length ≤ big40) (step : Int) (m : Mem) : phaseG [.agg p.row, .v (.int .i64 step)] m = some (.v (.int .i64 (phaseV p step)), m) := by
 simp only [phaseG, unPn_row]
 exact if_pos h
def kpPhase : Nat → Option (List Nat) := fun
 | 0 => some [1, 2]
 | 1 => some [4]
 | _ => none
attribute [go_sem] kpPhase
def tab_phase_ok : List (FuncId × (List AV → Mem → Option (AV × Mem))) := [(95, spanAtG)]
theorem phase_ok : FunOk Tryz.prog 67 phaseG := by
 have hC := table_ok (P := Tryz.prog) (l := tab_phase_ok) (table_more spanAt_ok table_nil)
 have t1 := fun args mm => table_at (l := tab_phase_ok) (f := 95) (args := args) (m := mm) rfl
 refine fun_ok mixed hC Tryz.func67 rfl kpPhase false rfl fun args m r h => ?_
 unfold phaseG at h
 split at h
 ·rename_i cs step
  split at h
  ·rename_i p hp0
   obtain rfl := unPn_some hp0
   split at h
   ·rename_i hdom
    simp only [Option.some.injEq] at h
    subst h
    refine ⟨Nat.le_of_ble_eq_true rfl, ?_⟩
    refine en ?_
    have v2 : (m.push p.row).var m.vars.length = some p.row := push_var
    have nr := newPn (m := m) (x := p)
    have hA := above_push (cs := p.row) (above_self m)
    refine go1 @nr ?_
    generalize m.push p.row = m2 at v2 hA
    generalize m.vars.length = r2 at v2
    have l1 := lpPnSpans v2
    have c1 := fun mm => spanAtG_eq (m := mm) (g := .no) (step := step) hdom
    refine go1 (jn @l1 (jn @t1 @c1)) ?_
    exact leaves_fin rfl rfl (above_fin hA)
   ·cases h
  ·cases h
 ·cases h
end
section
attribute [local irreducible] Next Inside Runs Ops table
attribute [local irreducible] XRuns XOps
attribute [local go_sem] szStr szInt Option.getD_some isNil evMinMax evFoldI iv mapWt cellsWt mapCt cellsCt newCt zrCt zoCt znCt mapRu cellsRu mapPt cellsPt newPt fpPtMax fpPtDelta fpPtPatience fpPtFactor fpPtCooldown fpCtWatch fpCtWatchHas fpCtWatchBad fpCtRest fpCtScale
def cutW (c : Ct) (x : Int) (p : Pt) : Wt := takeW c.watch x (mkRule p.Max p.Delta)
def noBad (w : Wt) : Wt := ⟨w.has, w.best, 0⟩
def cutV (c : Ct) (x : Int) (p : Pt) : Ct × Bool :=
 if c.rest > 0 then (⟨noBad (cutW c x p), c.rest - 1, c.scale⟩, false)
 else if outB (cutW c x p) p.Patience = false then (⟨cutW c x p, c.rest, c.scale⟩, false)
 else (⟨noBad (cutW c x p), p.Cooldown, (mulV c.scale p.Factor).1⟩, true)
def cutDom (c : Ct) (x : Int) (p : Pt) : Prop := takeDom c.watch x (mkRule p.Max p.Delta) ∧ inI c.rest ∧ inI c.scale ∧ inI p.Factor
instance (c : Ct) (x : Int) (p : Pt) : Decidable (cutDom c x p) := by unfold cutDom; exact inferInstance
def cutG : List AV → Mem → Option (AV × Mem)
 | [.agg cs, .v (.int .i64 x), .agg ps], m =>
  match unCt cs, unPt ps with
  | some c, some p => if cutDom c x p then some (.tup [.agg (cutV c x p).1.row, .v (.bool (cutV c x p).2)], m) else none
  | _, _ => none
 | _, _ => none
theorem cut_eq {c : Ct} {x : Int} {p : Pt} (h : cutDom c x p) (m : Mem) : cutG [.agg c.row, .v (.int .i64 x), .agg p.row] m = some (.tup [.agg (cutV c x p).1.row, .v (.bool (cutV c x p).2)], m) := by
 simp only [cutG, unCt_row, unPt_row]
 exact if_pos h
theorem mkRu2 {m : Bool} {d : Int} : evBuild Tryz.prog 57 [(0, .v (.bool m)), (1, .v (.int .i64 d))] = some (.agg (mkRule m d).row) := by kernel_rfl
def kpCut : Nat → Option (List Nat) := fun
 | 0 => some [1, 3, 5, 6]
 | 1 => some [3, 5, 6]
 | 2 => some [3, 5, 6, 20]
 | 3 => some [3, 6]
 | 4 => some [3, 6]
 | 5 => some [6, 7]
 | 6 => some [3, 5, 6, 33]
 | 7 => some [6, 7]
 | 8 => some [3, 5, 6]
 | 9 => some [3, 6]
 | 10 => some [6, 7]
 | _ => none
attribute [go_sem] kpCut
def tab_cut_ok : List (FuncId × (List AV → Mem → Option (AV × Mem))) := [(141, takeG), (81, outG), (114, mulG)]
theorem cut_ok : FunOk Tryz.prog 140 cutG := by
 have hC := table_ok (P := Tryz.prog) (l := tab_cut_ok) (table_more takeW_ok (table_more out_ok (table_more mul_ok table_nil)))
 have t1 := fun args mm => table_at (l := tab_cut_ok) (f := 141) (args := args) (m := mm) rfl
 have t2 := fun args mm => table_at (l := tab_cut_ok) (f := 81) (args := args) (m := mm) rfl
 have t3 := fun args mm => table_at (l := tab_cut_ok) (f := 114) (args := args) (m := mm) rfl
 refine fun_ok mixed hC Tryz.func140 rfl kpCut false rfl fun args m r h => ?_
 unfold cutG at h
 split at h
 ·rename_i cs x ps
  split at h
  ·rename_i c p hc0 hp0
   obtain rfl := unCt_some hc0
   obtain rfl := unPt_some hp0
   split at h
   ·rename_i hd
    obtain ⟨hd, hr, hs, hf⟩ := hd
    simp only [Option.some.injEq] at h
    subst h
    refine ⟨Nat.le_of_ble_eq_true rfl, ?_⟩
    refine en ?_
    have v3 : (((m.push c.row).push p.row).push zeroCt).var m.vars.length = some c.row := push_old (push_old push_var)
    have v5 : (((m.push c.row).push p.row).push zeroCt).var (m.push c.row).vars.length = some p.row := push_old push_var
    have v6 : (((m.push c.row).push p.row).push zeroCt).var ((m.push c.row).push p.row).vars.length = some zeroCt := push_var
    have n1 := newCt (m := m) (x := c)
    have n2 := newPt (m := m.push c.row) (x := p)
    have n3 := znCt (m := (m.push c.row).push p.row)
    have hA := above_push (cs := zeroCt) (above_push (cs := p.row) (above_push (cs := c.row) (above_self m)))
    have hge : m.vars.length ≤ ((m.push c.row).push p.row).vars.length := by rw [push_len, push_len]; omega
    have hne : m.vars.length ≠ ((m.push c.row).push p.row).vars.length := by rw [push_len, push_len]; omega
    have hne5 : (m.push c.row).vars.length ≠ m.vars.length := by rw [push_len]; omega
    have l1 := lpPtMax v5
    have l2 := lpPtDelta v5
    have l3 := lpCtWatch v3
    have mk := mkRu2 (m := p.Max) (d := p.Delta)
    have c1 := take_eq hd
    refine go1 (jn @n1 (jn @n2 @n3)) ?_
    generalize ((m.push c.row).push p.row).push zeroCt = m2 at v3 v5 v6 hA l1 l2 l3 ⊢
    generalize ((m.push c.row).push p.row).vars.length = r6 at v6 hge hne ⊢
    generalize (m.push c.row).vars.length = r5 at v5 hne5 l1 l2 ⊢
    generalize hr3 : m.vars.length = r3 at v3 hne hne5 l3 ⊢
    have e0 : cutW c x p = takeW c.watch x (mkRule p.Max p.Delta) := rfl
    rw [← e0] at c1
    unfold cutV
    generalize cutW c x p = w at c1 ⊢
    have a1 : evStore Tryz.prog m2 38 (.ptr r3 0) (.agg w.row) = some (setv m2 r3 (Ct.mk w c.rest c.scale).row) := store_part v3 szWt rfl rfl (Nat.le_of_ble_eq_true rfl) rfl rfl
    have u3 : (setv m2 r3 (Ct.mk w c.rest c.scale).row).var r3 = some (Ct.mk w c.rest c.scale).row := setv_var v3
    have u5 : (setv m2 r3 (Ct.mk w c.rest c.scale).row).var r5 = some p.row := setv_other v5 hne5
    have u6 : (setv m2 r3 (Ct.mk w c.rest c.scale).row).var r6 = some zeroCt := setv_other v6 hne.symm
    have hA1 := above_setv (cs := (Ct.mk w c.rest c.scale).row) hA (Nat.le_of_eq hr3)
    have l4 := lpCtRest u3
    have l5 := lpCtWatch u3
    have l6 := lpPtPatience u5
    have l7 := vrCt u3
    have l8 := lpCtScale u3
    have l9 := lpPtFactor u5
    have la := lpPtCooldown u5
    refine go1 (jn @l1 (jn @l2 (jn @l3 (jn @mk (jn @t1 (jn @c1 @a1)))))) ?_
    generalize setv m2 r3 (Ct.mk w c.rest c.scale).row = m3 at u3 u5 u6 hA1 l4 l5 l6 l7 l8 l9 la ⊢
    by_cases hrest : c.rest > 0
    ·have q1 : decide (c.rest > 0) = true := decide_eq_true hrest
     rw [if_pos hrest]
     have w1 : IntKind.i64.wrap (c.rest - 1) = c.rest - 1 := wrap_i64 (by omega) (by have := hr.2; omega)
     have a2 : evStore Tryz.prog m3 3 (.ptr r3 3) (.v (.int .i64 (c.rest - 1))) = some (setv m3 r3 (Ct.mk w (c.rest - 1) c.scale).row) := store_part u3 szInt rfl rfl (Nat.le_of_ble_eq_true rfl) rfl rfl
     have a3 : evStore Tryz.prog (setv m3 r3 (Ct.mk w (c.rest - 1) c.scale).row) 3 (.ptr r3 2) (.v (.int .i64 0)) = some (setv (setv m3 r3 (Ct.mk w (c.rest - 1) c.scale).row) r3 (Ct.mk (noBad w) (c.rest - 1) c.scale).row) := store_part (setv_var u3) szInt rfl rfl (Nat.le_of_ble_eq_true rfl) rfl rfl
     rw [setv_setv] at a3
     have lb := vrCt (setv_var (cs := (Ct.mk (noBad w) (c.rest - 1) c.scale).row) u3)
     have u7 := setv_other (cs := (Ct.mk (noBad w) (c.rest - 1) c.scale).row) u6 hne.symm
     have a4 : evStore Tryz.prog (setv m3 r3 (Ct.mk (noBad w) (c.rest - 1) c.scale).row) 40 (.ptr r6 0) (.agg (Ct.mk (noBad w) (c.rest - 1) c.scale).row) = some (setv (setv m3 r3 (Ct.mk (noBad w) (c.rest - 1) c.scale).row) r6 (Ct.mk (noBad w) (c.rest - 1) c.scale).row) := store_part u7 szCt rfl rfl (Nat.le_refl _) rfl rfl
     refine go1 (jn @l4 @q1) ?_
     refine runs_cond rfl (fun hc => ?_) (fun hc => by cases hc)
     refine go1 (jn @l4 (jn @w1 (jn @a2 (jn @a3 (jn @lb @a4))))) ?_
     exact leaves_all rfl (by decide) (.cons (vrCt (setv_var u7)) rfl (.cons rfl rfl .nil)) (above_fin (above_setv (above_setv hA1 (Nat.le_of_eq hr3)) hge))
    ·have q1 : decide (c.rest > 0) = false := decide_eq_false hrest
     rw [if_neg hrest]
     have c2 := out_eq w p.Patience
     have k1 : (!true) = false := rfl
     have k2 : (!false) = true := rfl
     refine go1 (jn @l4 @q1) ?_
     refine runs_cond rfl (fun hc => by cases hc) (fun hc => ?_)
     cases ho : outB w p.Patience with
     | false =>
      rw [if_pos rfl]
      rw [ho] at c2
      have a4 : evStore Tryz.prog m3 40 (.ptr r6 0) (.agg (Ct.mk w c.rest c.scale).row) = some (setv m3 r6 (Ct.mk w c.rest c.scale).row) := store_part u6 szCt rfl rfl (Nat.le_refl _) rfl rfl
      refine go1 (jn @l5 (jn @l6 (jn @t2 (jn @c2 @k2)))) ?_
      refine runs_cond rfl (fun hc => ?_) (fun hc => by cases hc)
      refine go1 (jn @l7 @a4) ?_
      exact leaves_all rfl (by decide) (.cons (vrCt (setv_var u6)) rfl (.cons rfl rfl .nil)) (above_fin (above_setv hA1 hge))
     | true =>
      rw [if_neg (by decide)]
      rw [ho] at c2
      have c3 := mulG_eq hs hf
      have a5 : evStore Tryz.prog m3 3 (.ptr r3 4) (.v (.int .i64 (mulV c.scale p.Factor).1)) = some (setv m3 r3 (Ct.mk w c.rest (mulV c.scale p.Factor).1).row) := store_part u3 szInt rfl rfl (Nat.le_of_ble_eq_true rfl) rfl rfl
      have lc := lpPtCooldown (setv_other (cs := (Ct.mk w c.rest (mulV c.scale p.Factor).1).row) u5 hne5)
      have a6 : evStore Tryz.prog (setv m3 r3 (Ct.mk w c.rest (mulV c.scale p.Factor).1).row) 3 (.ptr r3 3) (.v (.int .i64 p.Cooldown)) = some (setv (setv m3 r3 (Ct.mk w c.rest (mulV c.scale p.Factor).1).row) r3 (Ct.mk w p.Cooldown (mulV c.scale p.Factor).1).row) := store_part (setv_var u3) szInt rfl rfl (Nat.le_of_ble_eq_true rfl) rfl rfl
      have a7 : evStore Tryz.prog (setv m3 r3 (Ct.mk w p.Cooldown (mulV c.scale p.Factor).1).row) 3 (.ptr r3 2) (.v (.int .i64 0)) = some (setv (setv m3 r3 (Ct.mk w p.Cooldown (mulV c.scale p.Factor).1).row) r3 (Ct.mk (noBad w) p.Cooldown (mulV c.scale p.Factor).1).row) := store_part (setv_var u3) szInt rfl rfl (Nat.le_of_ble_eq_true rfl) rfl rfl
      rw [setv_setv] at a6 a7
      have lb := vrCt (setv_var (cs := (Ct.mk (noBad w) p.Cooldown (mulV c.scale p.Factor).1).row) u3)
      have u7 := setv_other (cs := (Ct.mk (noBad w) p.Cooldown (mulV c.scale p.Factor).1).row) u6 hne.symm
      have a8 : evStore Tryz.prog (setv m3 r3 (Ct.mk (noBad w) p.Cooldown (mulV c.scale p.Factor).1).row) 40 (.ptr r6 0) (.agg (Ct.mk (noBad w) p.Cooldown (mulV c.scale p.Factor).1).row) = some (setv (setv m3 r3 (Ct.mk (noBad w) p.Cooldown (mulV c.scale p.Factor).1).row) r6 (Ct.mk (noBad w) p.Cooldown (mulV c.scale p.Factor).1).row) := store_part u7 szCt rfl rfl (Nat.le_refl _) rfl rfl
      refine go1 (jn @l5 (jn @l6 (jn @t2 (jn @c2 @k1)))) ?_
      refine runs_cond rfl (fun hc => by cases hc) (fun hc => ?_)
      refine go1 (jn @l8 (jn @l9 (jn @t3 (jn @c3 (jn @a5 (jn @lc (jn @a6 (jn @a7 (jn @lb @a8))))))))) ?_
      exact leaves_all rfl (by decide) (.cons (vrCt (setv_var u7)) rfl (.cons rfl rfl .nil)) (above_fin (above_setv (above_setv hA1 (Nat.le_of_eq hr3)) hge))
   ·cases h
  ·cases h
 ·cases h
end
section
attribute [local irreducible] Next Inside Runs Ops table
theorem rhe_le {p d k : Int} (hd : 0 < d) (h : p ≤ k * d) : rhe p d ≤ k := by
 have e := Int.ediv_mul_add_emod p d
 have r0 := Int.emod_nonneg p (show d ≠ 0 by omega)
 have r1 := Int.emod_lt_of_pos p hd
 unfold rhe
 generalize hq : p / d = q at *
 generalize hr : p % d = r at *
 by_cases hqk : q < k
 ·split <;> omega
 ·have hqk2 : q = k := by
   have : q ≤ k := by
    rw [← hq]
    exact Int.ediv_le_of_le_mul hd h
   omega
  have hr0 : r = 0 := by rw [← hqk2] at h; omega
  rw [if_neg (by omega)]
  omega
theorem rhe_nonneg {p d : Int} (hd : 0 < d) (h : 0 ≤ p) : 0 ≤ rhe p d := by
 have := Int.ediv_nonneg h (Int.le_of_lt hd)
 unfold rhe
 split <;> omega
theorem nearV_ok {p d k : Int} (hd : 0 < d) (p0 : 0 ≤ p) (h : p ≤ k * d) (hk : k < 18446744073709551616) : nearV p d = (rhe p d, 0) := by
 have h1 := rhe_le hd h
 unfold nearV
 rw [if_neg (by omega), if_neg, if_neg (by omega)]
 have : p / 18446744073709551616 < d := by
  apply Int.ediv_lt_of_lt_mul (by decide)
  have h2 : k * d ≤ 18446744073709551615 * d := Int.mul_le_mul_of_nonneg_right (by omega) (by omega)
  omega
 omega
theorem mulV_nn {x y k : Int} (x0 : 0 ≤ x) (y0 : 0 ≤ y) (h : x * y ≤ k * 4294967296) (hk : k < 9223372036854775808) : mulV x y = (rhe (x * y) 4294967296, 0) ∧ 0 ≤ (mulV x y).1 ∧ (mulV x y).1 ≤ k := by
 have hp := Int.mul_nonneg x0 y0
 have h1 := rhe_le (d := 4294967296) (by decide) h
 have h2 := rhe_nonneg (d := 4294967296) (by decide) hp
 have h3 := nearV_ok (d := 4294967296) (by decide) hp h (by omega)
 have e : mulV x y = (rhe (x * y) 4294967296, 0) := by
  have s1 : sizeV x = x := by unfold sizeV; rw [if_neg (by omega)]
  have s2 : sizeV y = y := by unfold sizeV; rw [if_neg (by omega)]
  unfold mulV
  rw [s1, s2, h3, if_neg (by simp), decide_eq_false (show ¬ x < 0 by omega), decide_eq_false (show ¬ y < 0 by omega)]
  unfold signedV
  rw [if_neg (by decide), if_pos (by show rhe (x * y) 4294967296 < _; omega)]
 rw [e]
 exact ⟨rfl, h2, h1⟩
theorem tm_nn {x y k : Int} (x0 : 0 ≤ x) (y0 : 0 ≤ y) (h : x * y ≤ k * 4294967296) (hk : k < 9223372036854775808) : 0 ≤ tm x y ∧ tm x y ≤ k := (mulV_nn x0 y0 h hk).2
theorem tm_one {x y : Int} (x0 : 0 ≤ x) (x1 : x ≤ 4294967296) (y0 : 0 ≤ y) (y1 : y ≤ 4294967296) : 0 ≤ tm x y ∧ tm x y ≤ 4294967296 := by
 refine tm_nn x0 y0 ?_ (by decide)
 exact Int.mul_le_mul x1 y1 y0 (by decide)
theorem powN_one : ∀ (n : Nat) (r x : Int), 0 ≤ r ∧ r ≤ 4294967296 → 0 ≤ x ∧ x ≤ 4294967296 → 0 ≤ powN r x n ∧ powN r x n ≤ 4294967296 := by
 intro n
 induction n using Nat.strongRecOn with
 | _ n ih =>
  intro r x hr hx
  rw [powN]
  split
  ·exact hr
  ·refine ih (n / 2) (by omega) _ _ ?_ (tm_one hx.1 hx.2 hx.1 hx.2)
   split
   ·exact tm_one hr.1 hr.2 hx.1 hx.2
   ·exact hr
theorem powV_one (x n : Int) : 0 ≤ (powV x n).1 ∧ (powV x n).1 ≤ 4294967296 := by
 unfold powV
 split
 ·rename_i h
  exact powN_one _ _ _ ⟨by decide, by decide⟩ (inB_iff.1 h.1)
 ·exact ⟨by decide, by decide⟩
theorem quart {u s k : Int} (u0 : 0 ≤ u) (u1 : u ≤ 1073741824) (s0 : 0 ≤ s) (s1 : s ≤ k * 4) (hk : k < 9223372036854775808) : 0 ≤ tm u s ∧ tm u s ≤ k := by
 refine tm_nn u0 s0 ?_ hk
 have := Int.mul_le_mul u1 s1 s0 (by decide)
 omega
theorem polyN_one {u : Int} (u0 : 0 ≤ u) (u1 : u ≤ 1073741824) : 0 ≤ polyN u 6 ∧ polyN u 6 ≤ 4294967296 := by
 have s1 : polyN u 1 = 2044063 := by
  show IntKind.i64.wrap (2044063 - tm u 0) = _
  obtain ⟨a, b⟩ := quart (k := 0) u0 u1 (Int.le_refl 0) (by decide) (by decide)
  rw [show tm u 0 = 0 by omega]
  rfl
 have s2 : 26687907 ≤ polyN u 2 ∧ polyN u 2 ≤ 27198923 := by
  show 26687907 ≤ IntKind.i64.wrap (27198923 - tm u (polyN u 1)) ∧ IntKind.i64.wrap (27198923 - tm u (polyN u 1)) ≤ _
  obtain ⟨a, b⟩ := quart (s := polyN u 1) (k := 511016) u0 u1 (by rw [s1]; decide) (by rw [s1]; decide) (by decide)
  rw [wrap_i64 (by omega) (by omega)]
  omega
 have s3 : 239084879 ≤ polyN u 3 ∧ polyN u 3 ≤ 245884610 := by
  show 239084879 ≤ IntKind.i64.wrap (245884610 - tm u (polyN u 2)) ∧ IntKind.i64.wrap (245884610 - tm u (polyN u 2)) ≤ _
  obtain ⟨a, b⟩ := quart (s := polyN u 2) (k := 6799731) u0 u1 (by omega) (by omega) (by decide)
  rw [wrap_i64 (by omega) (by omega)]
  omega
 have s4 : 1310785176 ≤ polyN u 4 ∧ polyN u 4 ≤ 1372256329 := by
  show 1310785176 ≤ IntKind.i64.wrap (1372256329 - tm u (polyN u 3)) ∧ IntKind.i64.wrap (1372256329 - tm u (polyN u 3)) ≤ _
  obtain ⟨a, b⟩ := quart (s := polyN u 3) (k := 61471153) u0 u1 (by omega) (by omega) (by decide)
  rw [wrap_i64 (by omega) (by omega)]
  omega
 have s5 : 3671880797 ≤ polyN u 5 ∧ polyN u 5 ≤ 4014944880 := by
  show 3671880797 ≤ IntKind.i64.wrap (4014944880 - tm u (polyN u 4)) ∧ IntKind.i64.wrap (4014944880 - tm u (polyN u 4)) ≤ _
  obtain ⟨a, b⟩ := quart (s := polyN u 4) (k := 343064083) u0 u1 (by omega) (by omega) (by decide)
  rw [wrap_i64 (by omega) (by omega)]
  omega
 show 0 ≤ IntKind.i64.wrap (4294967296 - tm u (polyN u 5)) ∧ IntKind.i64.wrap (4294967296 - tm u (polyN u 5)) ≤ _
 obtain ⟨a, b⟩ := quart (s := polyN u 5) (k := 1003736220) u0 u1 (by omega) (by omega) (by decide)
 rw [wrap_i64 (by omega) (by omega)]
 omega
theorem cosV_one {t : Int} (t0 : 0 ≤ t) (t1 : t ≤ 2147483648) : 0 ≤ cosV t ∧ cosV t ≤ 4294967296 := by
 obtain ⟨u0, u1⟩ := tm_nn (k := 1073741824) t0 t0 (by have := Int.mul_le_mul t1 t1 t0 (by decide); omega) (by decide)
 obtain ⟨p0, p1⟩ := polyN_one u0 u1
 unfold cosV
 rw [wrap_i64 (n := tm t t * 4) (by omega) (by omega), wrap_i64 (n := 4294967296 - tm t t * 4) (by omega) (by omega)]
 exact tm_one (by omega) (by omega) p0 p1
theorem waveV_one {t : Int} (t0 : 0 ≤ t) (t1 : t ≤ 4294967296) : 0 ≤ (waveV t).1 ∧ (waveV t).1 ≤ 4294967296 := by
 have hb : inB t 0 4294967296 = true := inB_iff.2 ⟨t0, t1⟩
 have h : (cosAt t).2 = 0 ∧ -4294967296 ≤ (cosAt t).1 ∧ (cosAt t).1 ≤ 4294967296 := by
  unfold cosAt
  rw [hb, if_neg (by decide)]
  split
  ·rw [wrap_i64 (n := 4294967296 - t) (by omega) (by omega)]
   obtain ⟨a, b⟩ := cosV_one (t := 4294967296 - t) (by omega) (by omega)
   refine ⟨rfl, ?_⟩
   show _ ≤ IntKind.i64.wrap (0 - cosV (4294967296 - t)) ∧ IntKind.i64.wrap (0 - cosV (4294967296 - t)) ≤ _
   rw [wrap_i64 (by omega) (by omega)]
   omega
  ·obtain ⟨a, b⟩ := cosV_one (t := t) (by omega) (by omega)
   exact ⟨rfl, by show _ ≤ cosV t; omega, b⟩
 unfold waveV
 obtain ⟨h1, h2, h3⟩ := h
 rw [if_neg (by rw [h1]; simp)]
 generalize (cosAt t).1 = c at h2 h3
 split
 ·show 0 ≤ IntKind.i64.wrap (4294967296 - IntKind.i64.wrap (4294967296 - c) / 2) ∧ IntKind.i64.wrap (4294967296 - IntKind.i64.wrap (4294967296 - c) / 2) ≤ _
  rw [wrap_i64 (n := 4294967296 - c) (by omega) (by omega), wrap_i64 (by omega) (by omega)]
  omega
 ·show 0 ≤ IntKind.i64.wrap (4294967296 + c) / 2 ∧ IntKind.i64.wrap (4294967296 + c) / 2 ≤ _
  rw [wrap_i64 (by omega) (by omega)]
  omega
theorem weightV_one (c : Cv) {t : Int} (t0 : 0 ≤ t) (t1 : t ≤ 4294967296) : 0 ≤ weightV c t ∧ weightV c t ≤ 4294967296 := by
 unfold weightV
 split
 ·exact powV_one _ _
 ·split
  ·exact waveV_one t0 t1
  ·exact ⟨by decide, by decide⟩
theorem shareV_one {i n : Int} (i0 : 0 ≤ i) (i1 : i < n) (n1 : n ≤ 1048576) : (shareV i n).2 = 0 ∧ 0 ≤ (shareV i n).1 ∧ (shareV i n).1 ≤ 4294967296 := by
 unfold shareV
 rw [if_neg (by omega)]
 split
 ·exact ⟨rfl, by decide, by decide⟩
 ·have hp : i * 4294967296 ≤ 4294967296 * (n - 1) := by
   rw [Int.mul_comm]
   exact Int.mul_le_mul_of_nonneg_left (by omega) (by decide)
  have hp0 : 0 ≤ i * 4294967296 := Int.mul_nonneg i0 (by decide)
  have h1 := rhe_le (d := n - 1) (by omega) hp
  have h2 := rhe_nonneg (d := n - 1) (by omega) hp0
  rw [nearV_ok (d := n - 1) (by omega) hp0 hp (by decide)]
  refine ⟨rfl, ?_⟩
  show 0 ≤ IntKind.i64.wrap (rhe (i * 4294967296) (n - 1)) ∧ IntKind.i64.wrap (rhe (i * 4294967296) (n - 1)) ≤ _
  rw [wrap_i64 (by omega) (by omega)]
  exact ⟨h2, h1⟩
theorem lerpV_err {a b t : Int} (t0 : 0 ≤ t) (t1 : t ≤ 4294967296) : (lerpV a b t).2 = 0 := by
 unfold lerpV
 rw [if_neg (by omega)]
 split <;> rfl
theorem curveAtV_err {c : Cv} {i n : Int} (hc : curveOk c = true) (i0 : 0 ≤ i) (i1 : i < n) (n1 : n ≤ 1048576) : (curveAtV c i n).2 = 0 := by
 have h1 : inB n 1 1048576 = true := inB_iff.2 ⟨by omega, n1⟩
 have h2 : inB i 0 (n - 1) = true := inB_iff.2 ⟨i0, by omega⟩
 obtain ⟨_, s0, s1⟩ := shareV_one i0 i1 n1
 unfold curveAtV
 rw [if_neg (by rw [hc, h1, h2]; simp)]
 split
 ·rfl
 ·split
  ·exact lerpV_err s0 s1
  ·obtain ⟨w0, w1⟩ := weightV_one c s0 s1
   exact lerpV_err w0 w1
theorem cycL_has {times a : Int} (t1 : 1 ≤ times) (t2 : times ≤ 16) (ha : a ≤ 1048576) : ∀ (k : Nat) (s : Sp) (n : Int), spOk s → s.from_ ≤ a → s.to_ - s.from_ ≤ 1048576 → a + 1 - s.to_ ≤ k → (cycL times a k s n).1.from_ ≤ a ∧ a < (cycL times a k s n).1.to_ ∧ (cycL times a k s n).1.to_ - (cycL times a k s n).1.from_ ≤ 1048576 ∧ spOk (cycL times a k s n).1
 | 0, s, n, h, h1, h2, h3 => ⟨h1, by show a < s.to_; omega, h2, h⟩
 | k + 1, s, n, h, h1, h2, h3 => by
  rw [cycL]
  split
  ·rename_i h4
   obtain ⟨p1, p2⟩ := nextS_ok h (by omega) t1 t2
   refine cycL_has t1 t2 ha k _ _ p1 h4 ?_ (by omega)
   unfold nextS mn
   simp only
   split <;> omega
  ·exact ⟨h1, by show a < s.to_; omega, h2, h⟩
theorem cycV_has {a b c : Int} (h : cycMay a b c = true) : (cycV a b c).1.from_ ≤ c ∧ c < (cycV a b c).1.to_ ∧ (cycV a b c).1.to_ - (cycV a b c).1.from_ ≤ 1048576 ∧ 0 ≤ (cycV a b c).1.from_ ∧ (cycV a b c).1.to_ ≤ 4194304 := by
 unfold cycMay at h
 rw [Bool.and_eq_true, Bool.and_eq_true, inB_iff, inB_iff, inB_iff] at h
 obtain ⟨⟨⟨a0, a1⟩, b0, b1⟩, c0, c1⟩ := h
 unfold cycV
 split
 ·have d0 : 0 ≤ c / a := Int.ediv_nonneg c0 (by omega)
  have d1 : c / a * a ≤ c := Int.ediv_mul_le c (by omega)
  have d3 : 0 ≤ c / a * a := Int.mul_nonneg d0 (by omega)
  have d4 := Int.lt_ediv_add_one_mul_self c (show 0 < a by omega)
  rw [Int.add_mul] at d4
  exact ⟨d1, by show c < c / a * a + a; omega, by show c / a * a + a - c / a * a ≤ _; omega, d3, by show c / a * a + a ≤ _; omega⟩
 ·obtain ⟨h1, h2, h3, h4⟩ := cycL_has b0 b1 c1 (c + 1).toNat ⟨0, a⟩ 0 ⟨by show (0 : Int) ≤ 0; decide, by show (0 : Int) < a; omega, by show a ≤ _; omega⟩ c0 (by show a - 0 ≤ _; omega) (by show c + 1 - a ≤ _; omega)
  exact ⟨h1, h2, h3, h4.1, h4.2.2⟩
theorem segV_err {s : Sg} {step : Int} (h : segOk s = true) (h1 : s.from_ ≤ step) (h2 : step < s.to_) : (segV s step).2 = 0 := by
 have hp := segOk_parts h
 unfold segOk at h
 obtain ⟨p1, p2, p3, p4, p5, p6⟩ := hp
 rw [Bool.and_eq_true] at h
 have h := h.2
 unfold segV
 rw [wrap_i64 (n := step - s.begin_) (by omega) (by omega)]
 split
 ·rename_i hf
  rw [if_pos hf, Bool.and_eq_true, inB_iff] at h
  exact curveAtV_err p6 (by omega) (by omega) h.2.2
 ·rename_i hf
  rw [if_neg hf, Bool.and_eq_true, Bool.and_eq_true] at h
  have hm : cycMay s.first s.times (step - s.begin_) = true := by
   unfold cycMay
   rw [h.1.1, h.1.2, inB_iff.2 ⟨by omega, by omega⟩]
   rfl
  obtain ⟨q1, q2, q3, q4, q5⟩ := cycV_has hm
  have e : cycFindV s.first s.times (step - s.begin_) = ((cycV s.first s.times (step - s.begin_)).1, (cycV s.first s.times (step - s.begin_)).2, 0) := by
   unfold cycFindV
   rw [if_pos hm]
  rw [e, if_neg (by simp)]
  show (curveAtV _ (IntKind.i64.wrap (step - s.begin_ - (cycV s.first s.times (step - s.begin_)).1.from_)) (IntKind.i64.wrap ((cycV s.first s.times (step - s.begin_)).1.to_ - (cycV s.first s.times (step - s.begin_)).1.from_))).2 = 0
  rw [wrap_i64 (by omega) (by omega), wrap_i64 (by omega) (by omega)]
  exact curveAtV_err p6 (by omega) (by omega) q3
theorem segs_cover {l : List Sg} {step : Int} (h : segsOk l = true) (h0 : (l.getD 0 sg0).from_ ≤ step) : ∀ n : Nat, n < l.length → step < (l.getD n sg0).to_ → ∃ i, i ≤ n ∧ (l.getD i sg0).from_ ≤ step ∧ step < (l.getD i sg0).to_
 | 0, hn, ht => ⟨0, Nat.le_refl _, h0, ht⟩
 | n + 1, hn, ht => by
  by_cases hs : step < (l.getD n sg0).to_
  ·obtain ⟨i, a, b⟩ := segs_cover h h0 n (by omega) hs
   exact ⟨i, by omega, b⟩
  ·have := (segsOk_at h hn).2 (by omega)
   rw [show n + 1 - 1 = n by omega] at this
   exact ⟨n + 1, Nat.le_refl _, by omega, ht⟩
theorem segsAtV_ok {l : List Sg} {step : Int} (h : segsOk l = true) (h0 : (l.getD 0 sg0).from_ ≤ step) (h1 : step < (l.getD (l.length - 1) sg0).to_) : ∃ i, i < l.length ∧ (∀ j, j < i → ¬ ((l.getD j sg0).from_ ≤ step ∧ step < (l.getD j sg0).to_)) ∧ (l.getD i sg0).from_ ≤ step ∧ step < (l.getD i sg0).to_ ∧ segOk (l.getD i sg0) = true ∧ firstBy (hasSg step) l 0 = (i : Int) ∧ segsAtV l step = segV (l.getD i sg0) step ∧ (segV (l.getD i sg0) step).2 = 0 := by
 have hpos := segsOk_pos h
 obtain ⟨i, a, b, c⟩ := segs_cover h h0 (l.length - 1) (by omega) h1
 have hi : i < l.length := by omega
 have hno : ∀ j, j < i → ¬ ((l.getD j sg0).from_ ≤ step ∧ step < (l.getD j sg0).to_) := fun j hj hh => by
  have := segs_lt h hj hi
  omega
 have e := firstBy_at (d := sg0) (p := hasSg step) 0 hi (fun j hj => hasSg_no (hno j hj)) (hasSg_yes ⟨b, c⟩)
 rw [Nat.zero_add] at e
 have ho := (segsOk_at h hi).1
 refine ⟨i, hi, hno, b, c, ho, e, ?_, segV_err ho b c⟩
 unfold segsAtV
 rw [h, if_neg (by decide), e, if_neg (by omega), Int.toNat_natCast]
/-! ### a plan that may be -/
theorem planOk_parts {p : Pn} (h : planOkB p = true) : (1 ≤ p.steps ∧ p.steps ≤ 1000000) ∧ (0 ≤ p.weights ∧ p.weights ≤ 16) ∧ (0 ≤ p.metrics ∧ p.metrics ≤ 4) ∧ (1 ≤ p.groups ∧ p.groups ≤ 8) ∧ (0 ≤ p.eval ∧ p.eval ≤ p.steps) ∧ spansOkB p = true ∧ frozenOkB p = true ∧ tracksOkB p = true ∧ stopOkB p = true ∧ cutOkB p = true ∧ keepOkB p = true ∧ avgOkB p = true := by
 unfold planOkB at h
 simp only [Bool.and_eq_true, inB_iff] at h
 obtain ⟨⟨⟨a, b, c⟩, d, e, f, g, i⟩, j, k, l, n⟩ := h
 exact ⟨a, b, c, d, e, f, g, i, j, k, l, n⟩
theorem track_ok {p : Pn} (h : planOkB p = true) {i : Nat} (hi : i < p.tracks.length) : segsOk (p.tracks.getD i tk0).segs = true ∧ ((p.tracks.getD i tk0).segs.getD 0 sg0).from_ = 0 ∧ ((p.tracks.getD i tk0).segs.getD ((p.tracks.getD i tk0).segs.length - 1) sg0).to_ = p.steps := by
 obtain ⟨_, _, _, _, _, _, _, ht, _⟩ := planOk_parts h
 unfold tracksOkB at ht
 rw [Bool.and_eq_true] at ht
 have := List.all_eq_true.1 ht.1 i (List.mem_range.2 hi)
 unfold tkAt tkB at this
 simp only [Bool.and_eq_true, beq_iff_eq] at this
 exact ⟨this.1.1.2, this.1.2, this.2⟩
theorem tracks_len {p : Pn} (h : planOkB p = true) : (p.tracks.length : Int) = p.groups * 3 := by
 obtain ⟨_, _, _, _, _, _, _, ht, _⟩ := planOk_parts h
 unfold tracksOkB at ht
 rw [Bool.and_eq_true, beq_iff_eq] at ht
 exact ht.2
theorem track_val {p : Pn} (h : planOkB p = true) {step : Int} (s0 : 0 ≤ step) (s1 : step < p.steps) {i : Nat} (hi : i < p.tracks.length) : (segsAtV (p.tracks.getD i tk0).segs step).2 = 0 := by
 obtain ⟨t1, t2, t3⟩ := track_ok h hi
 obtain ⟨k, _, _, _, _, _, _, e, e2⟩ := segsAtV_ok t1 (by rw [t2]; exact s0) (by rw [t3]; exact s1)
 rw [e, e2]
end
noncomputable section
attribute [local irreducible] Next Inside Runs Ops table
attribute [local irreducible] XRuns XOps
attribute [local go_sem] szStr szInt Option.getD_some isNil evMinMax evFoldI iv mapPn cellsPn newPn fpPnTracks rowsTk_len ldTk zrTk zoTk znTk fpTkSegs mkInts0 mkInts1
def RawI (F : Objs) (vals : List Int) (r : AV) : Prop := ∃ b c cs, r = .v (rawSl b 0 vals.length c) ∧ (b, XOb.arr cs) ∈ F ∧ vals.length ≤ c ∧ c ≤ cs.length ∧ cs.take vals.length = vals.map iv
def rowV (p : Pn) (step : Int) (j : Nat) : Int := (segsAtV (p.tracks.getD j tk0).segs step).1
def rowL (p : Pn) (step : Int) (n : Nat) : List Int := (List.range n).map (rowV p step)
theorem rowL_len (p : Pn) (step : Int) (n : Nat) : (rowL p step n).length = n := by unfold rowL; simp
theorem rowL_succ (p : Pn) (step : Int) (n : Nat) : rowL p step (n + 1) = rowL p step n ++ [rowV p step n] := by unfold rowL; rw [List.range_succ, List.map_append]; rfl
theorem raw_new {F : Objs} {v : Int} {b c : Nat} {vs : List Value} (h1 : 1 ≤ c) (h2 : vs.length = (c - 1) * 1) : RawI ((b, .arr ([[iv v]].flatten ++ vs.map .v)) :: F) [v] (.v (rawSl b 0 1 c)) :=
 ⟨b, c, _, rfl, List.mem_cons_self, h1, by simp; omega, rfl⟩
theorem raw_put {F : Objs} {vals : List Int} {v : Int} {b c : Nat} {cs : List AV} (hm : (b, XOb.arr cs) ∈ F) (h1 : vals.length + 1 ≤ c) (h2 : c ≤ cs.length) (h3 : cs.take vals.length = vals.map iv) :
  RawI (setObjs F b (.arr (splice cs (0 + vals.length * 1) [[iv v]].flatten))) (vals ++ [v]) (.v (rawSl b 0 (vals.length + 1) c)) := by
 refine ⟨b, c, splice cs (0 + vals.length * 1) [[iv v]].flatten, by simp, ?_, by simp; omega, ?_, ?_⟩
 ·exact List.mem_map.2 ⟨_, hm, by simp⟩
 ·rw [splice_length (by simp; omega)]; exact h2
 ·unfold splice
  have hl : (cs.take (0 + vals.length * 1)).length = vals.length := by simp; omega
  rw [List.append_assoc, List.take_append, hl]
  simp only [List.length_append, List.length_cons, List.length_nil, List.map_append]
  rw [List.take_of_length_le (by omega), show 0 + vals.length * 1 = vals.length by omega, h3, show vals.length + (0 + 1) - vals.length = 1 by omega]
  rfl
theorem raw_grow {F : Objs} {vals : List Int} {v : Int} {b' c' : Nat} {cs : List AV} {vs : List Value} (hc : vals.length ≤ cs.length) (h1 : vals.length + 1 ≤ c') (h2 : vs.length = (c' - (vals.length + 1)) * 1) (h3 : cs.take vals.length = vals.map iv) :
  RawI ((b', .arr ((cs.drop 0).take (vals.length * 1) ++ [[iv v]].flatten ++ vs.map .v)) :: F) (vals ++ [v]) (.v (rawSl b' 0 (vals.length + 1) c')) := by
 have e : (cs.drop 0).take (vals.length * 1) = vals.map iv := by rw [List.drop_zero, Nat.mul_one, h3]
 rw [e]
 refine ⟨b', c', _, by simp, List.mem_cons_self, by simp; omega, ?_, ?_⟩
 ·simp; omega
 ·rw [List.length_append, List.map_append, List.append_assoc, List.take_append]
  simp
  exact List.take_of_length_le (by simp)
def rowPre (args : List AV) (_ : Mem) : Prop := ∃ (p : Pn) (step : Int), args = [.agg p.row, .v (.int .i64 step)] ∧ p.fit ∧ planOkB p = true ∧ 0 ≤ step ∧ step < p.steps
def rowPost (args : List AV) (m : Mem) (r : AV) (m' : Mem) (F : Objs) : Prop := ∀ (p : Pn) (step : Int), args = [.agg p.row, .v (.int .i64 step)] → m' = m ∧ ∃ a, r = .tup [a, iv 0] ∧ RawI F (rowL p step p.tracks.length) a
def kpRow : Nat → Option (List Nat) := fun
 | 0 => some [1, 2]
 | 1 => some [1, 2, 6]
 | 2 => some [1, 2, 6, 15]
 | 3 => some [4, 5]
 | 4 => some [1, 2, 7]
 | 5 => some [1, 7, 18, 19, 20]
 | 6 => some [1, 7, 18, 19, 20, 21]
 | 7 => some [1, 7, 9, 18, 19, 20]
 | 8 => some [1, 7, 10, 11, 18, 19, 20]
 | 9 => some [1, 7, 10, 11, 18, 19, 20, 32]
 | 10 => some [4, 5]
 | 11 => some [1, 7, 18, 19, 20]
 | 12 => some [1, 7, 18, 19, 20]
 | 13 => some [4, 5]
 | _ => none
attribute [go_sem] kpRow
theorem row_ok : FunOkF Tryz.prog 96 rowPre rowPost := by
 have hC := table_ok (P := Tryz.prog) (l := [(59, planCheckG), (113, segsAtG)]) (table_more planCheck_ok (table_more segsAt_ok table_nil))
 have t1 := fun args mm => table_at (l := [(59, planCheckG), (113, segsAtG)]) (f := 59) (args := args) (m := mm) rfl
 have t2 := fun args mm => table_at (l := [(59, planCheckG), (113, segsAtG)]) (f := 113) (args := args) (m := mm) rfl
 refine fun_okF Tryz.func96 rfl rfl fun args m h => ?_
 obtain ⟨p, step, rfl, hfit, hok, s0, s1⟩ := h
 refine ⟨Nat.le_of_ble_eq_true rfl, fun φ wd => ?_⟩
 refine en ?_
 have hfit2 := hfit
 obtain ⟨_, _, hlen, hsl⟩ := hfit2
 have hpos : 0 < p.tracks.length := by
  have := tracks_len hok
  obtain ⟨_, _, _, h4, _⟩ := planOk_parts hok
  omega
 have v1 : (m.push p.row).var m.vars.length = some p.row := push_var
 have nr := newPn (m := m) (x := p)
 have hA := above_push (cs := p.row) (above_self m)
 have c1 : ∀ mm, planCheckG [.agg p.row] mm = some (.v (.int .i64 0), mm) := fun mm => by
  simp only [planCheckG, unPn_row]
  rw [if_pos hfit, hok]
  rfl
 refine xq ?_
 refine x_region (kp := kpRow) mixed hC ?_
 refine go1 @nr ?_
 refine xq ?_
 generalize m.push p.row = m2 at v1 hA
 generalize m.vars.length = r1 at v1
 have l1 := lpPnTracks v1
 have l2 := vrPn v1
 have z0 : ((0 : Int) != 0) = false := rfl
 refine x_region (kp := kpRow) mixed hC ?_
 refine go1 (jn @l2 (jn @t1 @c1)) ?_
 refine xq ?_
 refine x_region (kp := kpRow) mixed hC ?_
 refine go1 @z0 ?_
 refine xq ?_
 refine x_cond rfl (fun hc => by cases hc) (fun hc => ?_)
 refine xq ?_
 refine x_region (kp := kpRow) mixed hC ?_
 refine go0 ?_
 refine xq ?_
 refine x_region (kp := kpRow) mixed hC ?_
 refine go1 @l1 ?_
 refine xq ?_
 refine x_loop (fun k e m' F => ∃ (i : Nat) (a : AV), i ≤ p.tracks.length ∧ Above m m' ∧ (if i = 0 then a = .lst .full 1 [] else RawI F (rowL p step i) a) ∧ k = p.tracks.length - i ∧ e = [(1, AV.v (.int .i64 step)), (7, a), (18, .lst .no 3 (rowsTk p.tracks)), (19, .v (.int .i64 (p.tracks.length : Int))), (20, .v (.int .i64 (i : Int)))]) (k := p.tracks.length) ⟨0, _, Nat.zero_le _, hA, rfl, rfl, rfl⟩ ?_
 rintro k e m' F ⟨i, a, hi0, hA2, ha, rfl, rfl⟩
 refine xq ?_
 refine x_region (kp := kpRow) mixed hC ?_
 refine go0 ?_
 refine xq ?_
 refine x_cond rfl (fun hc => ?_) (fun hc => ?_)
 ·have hi1 : i < p.tracks.length := by have := of_decide_eq_true hc; omega
  have f1 := atTk (g := .no) (kk := .i64) hi1
  have r6 := next_i64 (i := i) (by omega)
  have hV : rowV p step i = (segsAtV (p.tracks.getD i tk0).segs step).1 := rfl
  have hsucc := rowL_succ p step i
  have hll := rowL_len p step i
  have hE := track_val hok s0 s1 hi1
  have hsl2 := hsl (p.tracks.getD i tk0) (getD_in hi1)
  generalize rowL p step i = L at hsucc hll ha
  generalize rowV p step i = v at hV hsucc
  generalize p.tracks.getD i tk0 = t at f1 hV hE hsl2
  have st := stTk (m := m') (x := t)
  have v4 : (m'.push t.row).var m'.vars.length = some t.row := push_var
  have hA3 := above_push (cs := t.row) hA2
  refine xq ?_
  refine x_region (kp := kpRow) mixed hC ?_
  refine go1 (jn @f1 @st) ?_
  refine xq ?_
  generalize m'.push t.row = m3 at v4 hA3
  generalize m'.vars.length = r4 at v4
  have a3 := lpTkSegs v4
  have c2 := segsAt_eq (g := .no) hsl2 step
  rw [hE, ← hV] at c2
  refine x_region (kp := kpRow) mixed hC ?_
  refine go1 (jn @a3 (jn @t2 @c2)) ?_
  refine xq ?_
  refine x_region (kp := kpRow) mixed hC ?_
  refine go1 @z0 ?_
  refine xq ?_
  refine x_cond rfl (fun hc => by cases hc) (fun hc => ?_)
  refine xq ?_
  refine x_ops (l2 := kpRow 11) ?_
  refine gox0 hC ?_
  by_cases hz : i = 0
  ·rw [if_pos hz] at ha
   subst ha
   subst hz
   refine xops_step (xs_appendNew rfl rfl (by decide) rfl rfl rfl rfl appInts rfl rfl (Nat.lt_succ_self 0) (by unfold lim; show 1 ≤ _; omega) fun b c vs h1 h2 h3 => ?_)
   refine gox0 hC ?_
   refine xq ?_
   refine x_region (kp := kpRow) mixed hC ?_
   refine go1 @r6 ?_
   refine xq ?_
   refine ⟨p.tracks.length - (0 + 1), by omega, 0 + 1, _, hi1, hA3, ?_, rfl, rfl⟩
   rw [if_neg (by omega), hsucc, List.eq_nil_of_length_eq_zero hll]
   exact raw_new h1 h3
  ·rw [if_neg hz] at ha
   obtain ⟨b, c, cs, rfl, hm, g1, g2, g3⟩ := ha
   refine xops_step (xs_appendRaw rfl rfl (by decide) rfl rfl rfl rfl appInts hm rfl (by omega) g1 rfl (by rw [hll]; unfold lim; show i + 1 ≤ _; omega) (fun h1 => ?_) fun h1 b' c' vs h2 h3 h4 => ?_)
   ·refine gox0 hC ?_
    refine xq ?_
    refine x_region (kp := kpRow) mixed hC ?_
    refine go1 @r6 ?_
    refine xq ?_
    refine ⟨p.tracks.length - (i + 1), by omega, i + 1, _, hi1, hA3, ?_, rfl, rfl⟩
    rw [if_neg (by omega), hsucc]
    exact raw_put hm h1 g2 g3
   ·refine gox0 hC ?_
    refine xq ?_
    refine x_region (kp := kpRow) mixed hC ?_
    refine go1 @r6 ?_
    refine xq ?_
    refine ⟨p.tracks.length - (i + 1), by omega, i + 1, _, hi1, hA3, ?_, rfl, rfl⟩
    rw [if_neg (by omega), hsucc]
    exact raw_grow (by omega) h2 h4 g3
 ·have hi1 : i = p.tracks.length := by have := of_decide_eq_false hc; omega
  subst hi1
  rw [if_neg (by omega)] at ha
  refine xq ?_
  refine x_region (kp := kpRow) mixed hC ?_
  refine go0 ?_
  refine xq ?_
  have ha2 := ha
  obtain ⟨b, c, cs, rfl, _⟩ := ha2
  refine ⟨_, _, leaves_all rfl (by decide) (.cons rfl rfl (.cons rfl rfl .nil)) (above_fin hA2), fun p2 step2 he => ?_⟩
  obtain ⟨h1, h2⟩ : p2.row = p.row ∧ step2 = step := by
   simp only [List.cons.injEq, AV.agg.injEq, AV.v.injEq, Value.int.injEq] at he
   exact ⟨he.1.symm, he.2.1.2.symm⟩
  have h3 : p2 = p := by
   have := unPn_row p2
   rw [h1, unPn_row] at this
   cases this
   rfl
  subst h3
  subst h2
  exact ⟨rfl, _, rfl, ha⟩
end
noncomputable section
attribute [local irreducible] Next Inside Runs Ops table
attribute [local go_sem] szStr szInt Option.getD_some isNil evMinMax evFoldI iv fpTnP fpTnS fpTnX fpTnStep fpTnPhase fpTnEvents fpTnPFrozen fpTnPSpans List.cons_append rowsBs_len rowsBo_len ldBs ldBool rowsSp_len feSpFrom_ leSpFrom_
def Tn.addE (T : Tn) (l : List Evt) : Tn := { T with events := T.events ++ l }
theorem addE_nil (T : Tn) : T.addE [] = T := by unfold Tn.addE; simp
theorem addE_tell (T : Tn) (l : List Evt) (k i : Int) : (T.addE l).tell k i = T.addE (l ++ [⟨T.step, k, i⟩]) := by unfold Tn.addE Tn.tell; simp
def evFr (T : Tn) (fz : Bool) : Nat → List Evt
 | 0 => []
 | j + 1 => evFr T fz j ++ if ((frz T.p T.phase.toNat j == wasV T j) || (frz T.p T.phase.toNat j != fz)) = true then [] else [⟨T.step, if frz T.p T.phase.toNat j = true then 3 else 2, j⟩]
theorem evFr_len (T : Tn) (fz : Bool) : ∀ n, (evFr T fz n).length ≤ n
 | 0 => Nat.le_refl _
 | n + 1 => by
  have := evFr_len T fz n
  rw [evFr, List.length_append]
  split
  ·simp; omega
  ·simp; omega
def frN (T : Tn) : Nat := (T.p.frozen.getD T.phase.toNat []).length
def begE (T : Tn) : Nat → List Evt
 | 0 => [⟨T.step, 1, T.phase⟩]
 | 1 => [⟨T.step, 1, T.phase⟩] ++ evFr T false (frN T)
 | _ => ([⟨T.step, 1, T.phase⟩] ++ evFr T false (frN T)) ++ evFr T true (frN T)
def begL (T : Tn) : List Evt := if (T.p.spans.getD T.phase.toNat sp0).from_ = T.step then begE T 2 else []
def Tn.begins (T : Tn) : Tn := T.addE (begL T)
def begDom (T : Tn) : Prop := (0 ≤ T.phase ∧ T.phase < (T.p.spans.length : Int) ∧ T.p.frozen.length = T.p.spans.length ∧ T.p.spans.length ≤ 16) ∧ (∀ i, i < T.p.frozen.length → ((T.p.frozen.getD i []).length : Int) = T.p.groups) ∧ T.p.groups ≤ 8 ∧ T.events.length ≤ 1000
def beginsG : List AV → Mem → Option (AV × Mem)
 | [.ptr r 0], m => turnM r m begDom Tn.begins fun _ => .tup []
 | _, _ => none
theorem addE_len (T : Tn) (l : List Evt) : (T.addE l).events.length - T.events.length = l.length := by unfold Tn.addE; simp
theorem begins_eq {m0 m : Mem} {r : Nat} {T0 T : Tn} {g0 g : Grow} (h : TAt m0 r T0 g0 T g m) (hd : begDom T) : beginsG [.ptr r 0] m = some (.tup [], putT m r T.begins (begL T).length g) := by
 have := turnM_eq (dom := begDom) (f := Tn.begins) (res := fun _ => .tup []) h hd
 rw [show T.begins = T.addE (begL T) from rfl, addE_len] at this
 exact this
theorem TAt.addE {m0 m : Mem} {r : Nat} {T0 T : Tn} {g0 g : Grow} (h : TAt m0 r T0 g0 T g m) (l : List Evt) : TAt m0 r T0 g0 (T.addE l) (growN l.length g m.toks).1 (putT m r (T.addE l) l.length g) := h.put (l := l) rfl rfl
theorem mkFz : evBuildSlice Tryz.prog 62 2 [(0, .v (.bool false)), (1, .v (.bool true))] = some (.lst .full 1 (rowsBo [false, true])) := by kernel_rfl
attribute [local go_sem] mkFz
def kpBegins : Nat → Option (List Nat) := fun
 | 0 => some [0, 22]
 | 1 => some [0]
 | 2 => some [0, 29, 30, 31]
 | 3 => some [0, 29, 30, 31, 32]
 | 4 => some [0, 3, 29, 30, 31]
 | 5 => some [0, 3, 29, 30, 31, 45, 46, 47]
 | 6 => some [0, 3, 29, 30, 31, 45, 46, 47, 48]
 | 7 => some [0, 3, 4, 5, 29, 30, 31, 45, 46, 47]
 | 8 => some [0, 3, 29, 30, 31, 45, 46, 47]
 | 9 => some [0, 3, 4, 5, 29, 30, 31, 45, 46, 47, 55]
 | 10 => some [0, 3, 4, 29, 30, 31, 45, 46, 47, 66]
 | 11 => some [0, 3, 29, 30, 31, 45, 46, 47]
 | 12 => some [0, 3, 29, 30, 31, 45, 46, 47]
 | 13 => some [0, 29, 30, 31]
 | _ => none
attribute [go_sem] kpBegins
def tab_begins_ok : List (FuncId × (List AV → Mem → Option (AV × Mem))) := [(102, tellG), (115, wasG)]
theorem begins_ok : FunOk Tryz.prog 98 beginsG := by
 have hC := table_ok (P := Tryz.prog) (l := tab_begins_ok) (table_more tell_ok (table_more was_ok table_nil))
 have t1 := fun args mm => table_at (l := tab_begins_ok) (f := 102) (args := args) (m := mm) rfl
 have t2 := fun args mm => table_at (l := tab_begins_ok) (f := 115) (args := args) (m := mm) rfl
 refine fun_ok mixed hC Tryz.func98 rfl kpBegins false rfl fun args m r h => ?_
 unfold beginsG at h
 split at h
 ·rename_i r0
  obtain ⟨T, g, hT, hd, rfl⟩ := turnM_some h
  obtain ⟨⟨hp0, hp1, hfl, hs16⟩, hrow, hgr, hev⟩ := hd
  obtain ⟨ph, hph⟩ := Int.eq_ofNat_of_zero_le hp0
  refine ⟨Nat.le_of_ble_eq_true rfl, ?_⟩
  refine en ?_
  have l1 := lpTnPSpans hT.hv
  have l2 := lpTnStep hT.hv
  have l3 := lpTnPhase hT.hv
  have hb : begL T = if (T.p.spans.getD ph sp0).from_ = T.step then begE T 2 else [] := by unfold begL; rw [hph]; rfl
  have f1 := atSp (g := .no) (kk := .i64) (l := T.p.spans) (i := ph) (by omega)
  generalize T.p.spans.getD ph sp0 = sp at f1 hb
  repeat refine runs_seq ?_
  refine runs_ops_drawn_tight (kp := kpBegins) (by kernel_rfl) (by kernel_rfl) ?_
  rw [hph] at l3
  refine go1 (jn @l1 (jn @l2 (jn @l3 @f1))) ?_
  refine runs_cond rfl (fun hc => ?_) (fun hc => ?_)
  ·have hne : ¬ sp.from_ = T.step := by simpa using hc
   rw [if_neg hne] at hb
   have ht : T.begins = T := by rw [show T.begins = T.addE (begL T) from rfl, hb, addE_nil]
   refine go0 ?_
   exact leaves_turn (f := Tn.begins) rfl (by rw [ht]; exact hT)
  ·have he : sp.from_ = T.step := by simpa using hc
   rw [if_pos he] at hb
   have ht : T.begins = T.addE (begE T 2) := by rw [show T.begins = T.addE (begL T) from rfl, hb]
   have c1 := tell_eq hT (show T.events.length < evLim by unfold evLim; omega) 1 T.phase
   have hT1 := hT.tell 1 T.phase
   rw [← addE_nil T, addE_tell, addE_nil] at hT1
   rw [← addE_nil T, addE_tell, addE_nil] at c1
   simp only [List.nil_append] at hT1 c1
   rw [hph] at c1
   rw [show T.addE [⟨T.step, 1, ((ph : Nat) : Int)⟩] = T.addE (begE T 0) by rw [← hph]; rfl] at c1
   rw [show T.addE [⟨T.step, 1, T.phase⟩] = T.addE (begE T 0) from rfl] at hT1
   refine go1 (jn @l3 (jn @t1 @c1)) ?_
   generalize putT m r0 (T.addE (begE T 0)) 1 g = m1 at hT1
   generalize (growN 1 g m.toks).1 = g1 at hT1
   have hnl : frN T ≤ 8 := by
    have := hrow ph (by omega)
    unfold frN
    rw [hph, Int.toNat_natCast]
    omega
   have w0 : ∀ q, (begE T q).length ≤ 17 := fun q => by
    have h1 := evFr_len T false (frN T)
    have h2 := evFr_len T true (frN T)
    unfold begE
    split <;> simp <;> omega
   refine runs_loop (fun k e m' => ∃ (q : Nat) (gq : Grow), q ≤ 2 ∧ TAt m r0 T g (T.addE (begE T q)) gq m' ∧ k = 2 - q ∧
    e = [(0, AV.ptr r0 0), (29, .lst .full 1 (rowsBo [false, true])), (30, .v (.int .i64 2)), (31, .v (.int .i64 (q : Int)))]) (k := 2) ⟨0, g1, Nat.zero_le _, hT1, rfl, rfl⟩ ?_
   rintro k e m' ⟨q, gq, hq, hTq, rfl, rfl⟩
   refine go0 ?_
   refine runs_cond rfl (fun hc => ?_) (fun hc => ?_)
   ·have hq1 : q < 2 := by have := of_decide_eq_true hc; omega
    have f2 := atBools (g := .full) (kk := .i64) (l := [false, true]) (i := q) hq1
    have rq := next_i64 (i := q) (by omega)
    have hE : ∀ n, begE T q ++ evFr T ([false, true].getD q false) n = begE T q ++ evFr T ([false, true].getD q false) n := fun n => rfl
    have hN : begE T (q + 1) = begE T q ++ evFr T ([false, true].getD q false) (frN T) := by
     match q, hq1 with
     | 0, _ => rfl
     | 1, _ => rfl
    generalize [false, true].getD q false = fz at f2 hN hE
    have l4 := lpTnPFrozen hTq.hv
    have l5 := lpTnPhase hTq.hv
    have l5' : evLoad Tryz.prog m' 3 (.ptr r0 51) = some (.v (.int .i64 ((ph : Nat) : Int))) := by rw [← hph]; exact l5
    have l4' : evLoad Tryz.prog m' 23 (.ptr r0 6) = some (.lst .no 1 (rowsBs T.p.frozen)) := l4
    have f3 := atBs (g := .no) (kk := .i64) (l := T.p.frozen) (i := ph) (by omega)
    have hrl := hrow ph (by omega)
    have hfN : frN T = (T.p.frozen.getD ph []).length := by unfold frN; rw [hph]; rfl
    have hfz : ∀ j, frz T.p T.phase.toNat j = (T.p.frozen.getD ph []).getD j false := fun j => by unfold frz; rw [hph]; rfl
    have hRl : (T.p.frozen.getD ph []).length ≤ 8 := by rw [← hfN]; exact hnl
    refine go1 @f2 ?_
    repeat refine runs_seq ?_
    refine runs_ops_drawn_tight (kp := kpBegins) (by kernel_rfl) (by kernel_rfl) ?_
    generalize hR : T.p.frozen.getD ph [] = R at f3 hfN hfz hRl hrl
    refine go1 (jn @l4' (jn @l5' @f3)) ?_
    clear l4 l5 l4' l5'
    refine runs_loop (fun k e m' => ∃ (j : Nat) (gj : Grow), j ≤ R.length ∧ TAt m r0 T g (T.addE (begE T q ++ evFr T fz j)) gj m' ∧ k = R.length - j ∧
     e = [(0, AV.ptr r0 0), (3, .v (.bool fz)), (29, .lst .full 1 (rowsBo [false, true])), (30, .v (.int .i64 2)), (31, .v (.int .i64 (q : Int))), (45, .lst .no 1 (rowsBo R)), (46, .v (.int .i64 R.length)), (47, .v (.int .i64 (j : Int)))]) (k := R.length)
     ⟨0, gq, Nat.zero_le _, by rw [show evFr T fz 0 = [] from rfl, List.append_nil]; exact hTq, rfl, rfl⟩ ?_
    rintro k e m' ⟨j, gj, hj, hTj, rfl, rfl⟩
    refine go0 ?_
    refine runs_cond rfl (fun hc => ?_) (fun hc => ?_)
    ·have hj1 : j < R.length := by have := of_decide_eq_true hc; omega
     have f4 := atBools (g := .no) (kk := .i64) hj1
     have rj := next_i64 (i := j) (by omega)
     have hlj := evFr_len T fz j
     have hw0 := w0 q
     have cw := was_eq (j := (j : Int)) hTj.hv (by
      refine ⟨by show T.phase ≤ 1000000; omega, fun h0 => ?_⟩
      have h0' : T.phase > 0 := h0
      refine ⟨by show T.phase - 1 < (T.p.frozen.length : Int); omega, by omega, ?_⟩
      show (j : Int) < ((T.p.frozen.getD (T.phase - 1).toNat []).length : Int)
      have := hrow (T.phase - 1).toNat (by omega)
      have e2 := hrow ph (by omega)
      rw [hR] at e2
      omega)
     have hwv : wasV (T.addE (begE T q ++ evFr T fz j)) (j : Int) = wasV T j := rfl
     rw [hwv] at cw
     have hS : evFr T fz (j + 1) = evFr T fz j ++ if ((R.getD j false == wasV T j) || (R.getD j false != fz)) = true then [] else [⟨T.step, if R.getD j false = true then 3 else 2, j⟩] := by rw [evFr, hfz]
     generalize R.getD j false = bb at f4 hS
     generalize wasV T (j : Int) = ww at cw hS
     have hev2 : (T.addE (begE T q ++ evFr T fz j)).events.length < evLim := by
      unfold Tn.addE evLim
      simp only [List.length_append]
      omega
     have same : ((bb == ww) || (bb != fz)) = true → TAt m r0 T g (T.addE (begE T q ++ evFr T fz (j + 1))) gj m' := fun hh => by
      rw [hS, if_pos hh, List.append_nil]
      exact hTj
     have more : ((bb == ww) || (bb != fz)) = false → TAt m r0 T g (T.addE (begE T q ++ evFr T fz (j + 1))) (growN 1 gj m'.toks).1 (putT m' r0 (T.addE (begE T q ++ evFr T fz (j + 1))) 1 gj) := fun hh => by
      have := hTj.tell (if bb = true then 3 else 2) (j : Int)
      rw [addE_tell, List.append_assoc] at this
      rw [hS, if_neg (by rw [hh]; decide)]
      exact this
     have told : ((bb == ww) || (bb != fz)) = false → ∀ kd : Int, kd = (if bb = true then 3 else 2) → tellG [.ptr r0 0, .v (.int .i64 kd), .v (.int .i64 ((j : Nat) : Int))] m' = some (.tup [], putT m' r0 (T.addE (begE T q ++ evFr T fz (j + 1))) 1 gj) := fun hh kd hk => by
      have := tell_eq hTj hev2 kd (j : Int)
      rw [addE_tell, List.append_assoc] at this
      rw [hS, if_neg (by rw [hh]; decide), ← hk]
      exact this
     cases h1 : (bb == ww) with
     | true =>
      refine go1 (jn @f4 (jn @t2 (jn @cw @h1))) ?_
      refine runs_cond rfl (fun hc => ?_) (fun hc => by cases hc)
      refine go1 @rj ?_
      exact ⟨R.length - (j + 1), by omega, j + 1, gj, hj1, same (by rw [h1]; rfl), rfl, rfl⟩
     | false =>
      cases h2 : (bb != fz) with
      | true =>
       refine go1 (jn @f4 (jn @t2 (jn @cw (jn @h1 @h2)))) ?_
       refine runs_cond rfl (fun hc => ?_) (fun hc => by cases hc)
       refine go1 @rj ?_
       exact ⟨R.length - (j + 1), by omega, j + 1, gj, hj1, same (by rw [h1, h2]; rfl), rfl, rfl⟩
      | false =>
       have hf : ((bb == ww) || (bb != fz)) = false := by rw [h1, h2]; rfl
       have hm := more hf
       refine go1 (jn @f4 (jn @t2 (jn @cw (jn @h1 @h2)))) ?_
       refine runs_cond rfl (fun hc => by cases hc) (fun hc => ?_)
       cases bb with
       | true =>
        have c3 := told hf 3 rfl
        refine go0 ?_
        refine runs_cond rfl (fun hc => ?_) (fun hc => by cases hc)
        refine go1 (jn @t1 (jn @c3 @rj)) ?_
        exact ⟨R.length - (j + 1), by omega, j + 1, _, hj1, hm, rfl, rfl⟩
       | false =>
        have c3 := told hf 2 rfl
        refine go0 ?_
        refine runs_cond rfl (fun hc => by cases hc) (fun hc => ?_)
        refine go1 (jn @t1 (jn @c3 @rj)) ?_
        exact ⟨R.length - (j + 1), by omega, j + 1, _, hj1, hm, rfl, rfl⟩
    ·have hj1 : j = R.length := by have := of_decide_eq_false hc; omega
     subst hj1
     rw [← hfN, ← hN] at hTj
     refine go1 @rq ?_
     exact ⟨2 - (q + 1), by omega, q + 1, gj, hq1, hTj, rfl, rfl⟩
   ·have hq1 : q = 2 := by have := of_decide_eq_false hc; omega
    subst hq1
    refine go0 ?_
    exact leaves_turnN (f := Tn.begins) rfl (by rw [ht]; exact hTq)
 ·cases h
end
section
attribute [local irreducible] Next Inside Runs Ops table
attribute [local go_sem] szStr szInt Option.getD_some isNil evMinMax evFoldI iv mapSm cellsSm newSm zrSm zoSm znSm mk0Sm fpSmCount fpSmSums rowsI_len List.cons_append
theorem leaves_ct {P : Program} {fn : Func} {m m' m2 : Mem} {e : Env} {a u : Tmp} {t : TypeId} {x0 x y : AV} (h : fn.results = #[.cell a t, .tmp u]) (hl : evLoad P m' t (Ev.get e a) = some x0) (hx : resAV m.vars.length m' x0 = some x) (hy : resAV m.vars.length m' (Ev.get e u) = some y) (hm : finMem m m' = m2) :
  Leaves P false fn m (.tup [x, y], m2) .ret e m' := by
 show evRet P false fn m e m' = _
 unfold evRet
 rw [h]
 simp [evResult, hl, hx, hy, hm]
theorem leaves_tct {P : Program} {fn : Func} {m m' m2 : Mem} {e : Env} {s a u : Tmp} {t : TypeId} {x0 x y z : AV} (h : fn.results = #[.tmp s, .cell a t, .tmp u]) (hz : resAV m.vars.length m' (Ev.get e s) = some z) (hl : evLoad P m' t (Ev.get e a) = some x0) (hx : resAV m.vars.length m' x0 = some x) (hy : resAV m.vars.length m' (Ev.get e u) = some y) (hm : finMem m m' = m2) :
  Leaves P false fn m (.tup [z, x, y], m2) .ret e m' := by
 show evRet P false fn m e m' = _
 unfold evRet
 rw [h]
 simp [evResult, hl, hx, hy, hz, hm]
theorem leaves_cct {P : Program} {fn : Func} {m m' m2 : Mem} {e : Env} {s a u : Tmp} {t t2 : TypeId} {x0 x y z0 z : AV} (h : fn.results = #[.cell s t2, .cell a t, .tmp u]) (hk : evLoad P m' t2 (Ev.get e s) = some z0) (hz : resAV m.vars.length m' z0 = some z) (hl : evLoad P m' t (Ev.get e a) = some x0) (hx : resAV m.vars.length m' x0 = some x) (hy : resAV m.vars.length m' (Ev.get e u) = some y) (hm : finMem m m' = m2) :
  Leaves P false fn m (.tup [z, x, y], m2) .ret e m' := by
 show evRet P false fn m e m' = _
 unfold evRet
 rw [h]
 simp [evResult, hl, hx, hy, hz, hk, hm]
/-! ### copies -/
def clone0Nil (k : Nat) : List AV → Mem → Option (AV × Mem)
 | [.v (.slice none 0 0)], m => some (.lst .no k [], m)
 | _, _ => none
def clone0Here (k : Nat) : List AV → Mem → Option (AV × Mem)
 | [.lst .here sz rows], m => if sz = k ∧ rows.length ≤ lim then some (.lst .no k rows, m) else none
 | _, _ => none
def clone0G (k : Nat) : List AV → Mem → Option (AV × Mem)
 | [.lst _ sz rows], m => if sz = k ∧ rows.length ≤ lim then some (.lst .no k rows, m) else none
 | _, _ => none
theorem clone0_ok {P : Program} {f : FuncId} {k : Nat} (hn : FunOk P f (clone0Nil k)) (hh : FunOk P f (clone0Here k)) : FunOk P f (clone0G k) := by
 intro args m r m' h
 unfold clone0G at h
 split at h
 ·rename_i g sz rows
  split at h
  ·rename_i hc
   obtain ⟨rfl, hl⟩ := hc
   simp only [Option.some.injEq, Prod.mk.injEq] at h
   obtain ⟨rfl, rfl⟩ := h
   have h1 := hh [.lst .here sz rows] m _ _ (if_pos ⟨rfl, hl⟩)
   have h2 := hn [.v (.slice none 0 0)] m _ _ rfl
   refine ⟨h1.1, fun φ w vals hR hA => ?_⟩
   have hs : vals.size = 1 := hA.1
   obtain ⟨v, rfl⟩ : ∃ v, vals = #[v] := ⟨vals[0], by apply Array.ext <;> simp_all⟩
   have hv := hA.2 0 _ v rfl rfl
   cases hv with
   | lst _ _ _ a c val hcc hr ha hsp hcell hrep hg =>
    cases a with
    | none =>
     have hc0 := ha rfl
     have hr0 : rows = [] := List.eq_nil_of_length_eq_zero (by omega)
     subst hr0
     subst hc0
     refine h2.2 φ w _ hR ⟨rfl, fun i a u e1 e2 => ?_⟩
     cases i with
     | zero => simp at e1 e2; subst e1; subst e2; exact .v _
     | succ i => simp at e1
    | some ad =>
     refine h1.2 φ w _ hR ⟨rfl, fun i a u e1 e2 => ?_⟩
     cases i with
     | zero =>
      simp at e1 e2; subst e1; subst e2
      exact .lst .here sz rows (some ad) c val hcc hr ha hsp hcell hrep (by intro e; cases e)
     | succ i => simp at e1
  ·cases h
 ·cases h
theorem clone0_eq {k : Nat} {g : Grow} {rows : List (List AV)} (h : rows.length ≤ lim) (m : Mem) : clone0G k [.lst g k rows] m = some (.lst .no k rows, m) := if_pos ⟨rfl, h⟩
theorem appBools : appB Tryz.prog 62 62 1 = true := by kernel_rfl
theorem mk0Ints : evBuildSlice Tryz.prog 42 0 [] = some (.lst .full 1 []) := by kernel_rfl
attribute [local go_sem] mk0Ints
theorem mk0Bools : evBuildSlice Tryz.prog 62 0 [] = some (.lst .full 1 []) := by kernel_rfl
attribute [local go_sem] mk0Bools
def kpCloneI : Nat → Option (List Nat) := fun _ => some [0, 2, 4]
attribute [go_sem] kpCloneI
theorem cloneI_nil : FunOk Tryz.prog 134 (clone0Nil 1) := by
 have hC := table_ok (P := Tryz.prog) (l := []) table_nil
 refine fun_ok mixed hC Tryz.func134 rfl kpCloneI false rfl fun args m r h => ?_
 unfold clone0Nil at h
 split at h
 ·simp only [Option.some.injEq] at h
  subst h
  refine ⟨Nat.le_of_ble_eq_true rfl, ?_⟩
  refine en ?_
  refine go0 ?_
  refine runs_cond rfl (fun hc => ?_) (fun hc => by cases hc)
  refine go0 ?_
  exact leaves_lst rfl rfl (finMem_self _)
 ·cases h
theorem cloneI_here : FunOk Tryz.prog 134 (clone0Here 1) := by
 have hC := table_ok (P := Tryz.prog) (l := []) table_nil
 refine fun_ok mixed hC Tryz.func134 rfl kpCloneI false rfl fun args m r h => ?_
 unfold clone0Here at h
 split at h
 ·rename_i sz rows
  split at h
  ·rename_i hl
   obtain ⟨rfl, hl⟩ := hl
   simp only [Option.some.injEq] at h
   subst h
   refine ⟨Nat.le_of_ble_eq_true rfl, ?_⟩
   refine en ?_
   have a1 := app_full (m := m) (xs := []) appInts (asList_lst (g := .here) (k := 1) (rows := rows)) (by simpa using hl)
   rw [List.nil_append] at a1
   refine go0 ?_
   refine runs_cond rfl (fun hc => by cases hc) (fun hc => ?_)
   refine go1 @a1 ?_
   exact leaves_lst rfl rfl fin_tk
  ·cases h
 ·cases h
theorem cloneI_ok : FunOk Tryz.prog 134 (clone0G 1) := clone0_ok cloneI_nil cloneI_here
theorem cloneB_nil : FunOk Tryz.prog 69 (clone0Nil 1) := by
 have hC := table_ok (P := Tryz.prog) (l := []) table_nil
 refine fun_ok mixed hC Tryz.func69 rfl kpCloneI false rfl fun args m r h => ?_
 unfold clone0Nil at h
 split at h
 ·simp only [Option.some.injEq] at h
  subst h
  refine ⟨Nat.le_of_ble_eq_true rfl, ?_⟩
  refine en ?_
  refine go0 ?_
  refine runs_cond rfl (fun hc => ?_) (fun hc => by cases hc)
  refine go0 ?_
  exact leaves_lst rfl rfl (finMem_self _)
 ·cases h
theorem cloneB_here : FunOk Tryz.prog 69 (clone0Here 1) := by
 have hC := table_ok (P := Tryz.prog) (l := []) table_nil
 refine fun_ok mixed hC Tryz.func69 rfl kpCloneI false rfl fun args m r h => ?_
 unfold clone0Here at h
 split at h
 ·rename_i sz rows
  split at h
  ·rename_i hl
   obtain ⟨rfl, hl⟩ := hl
   simp only [Option.some.injEq] at h
   subst h
   refine ⟨Nat.le_of_ble_eq_true rfl, ?_⟩
   refine en ?_
   have a1 := app_full (m := m) (xs := []) appBools (asList_lst (g := .here) (k := 1) (rows := rows)) (by simpa using hl)
   rw [List.nil_append] at a1
   refine go0 ?_
   refine runs_cond rfl (fun hc => by cases hc) (fun hc => ?_)
   refine go1 @a1 ?_
   exact leaves_lst rfl rfl fin_tk
  ·cases h
 ·cases h
theorem cloneB_ok : FunOk Tryz.prog 69 (clone0G 1) := clone0_ok cloneB_nil cloneB_here
/-! ### fix.Add -/
def addV (a b : Int) : Int × Int := if ((decide (a < 0) == decide (b < 0)) && (decide (IntKind.i64.wrap (a + b) < 0) != decide (a < 0))) = true then (0, 4) else (IntKind.i64.wrap (a + b), 0)
def addG : List AV → Mem → Option (AV × Mem)
 | [.v (.int .i64 a), .v (.int .i64 b)], m => some (.tup [.v (.int .i64 (addV a b).1), .v (.int .i64 (addV a b).2)], m)
 | _, _ => none
theorem add_eq (a b : Int) (m : Mem) : addG [.v (.int .i64 a), .v (.int .i64 b)] m = some (.tup [.v (.int .i64 (addV a b).1), .v (.int .i64 (addV a b).2)], m) := rfl
def kpAdd : Nat → Option (List Nat) := fun
 | 0 => some [0, 1]
 | 1 => some [0, 1, 6]
 | 2 => some [6, 21]
 | 3 => some [4, 5]
 | 4 => some [4, 5]
 | _ => none
attribute [go_sem] kpAdd
theorem add_ok : FunOk Tryz.prog 135 addG := by
 have hC := table_ok (P := Tryz.prog) (l := []) table_nil
 refine fun_ok mixed hC Tryz.func135 rfl kpAdd false rfl fun args m r h => ?_
 unfold addG at h
 split at h
 ·rename_i x y
  simp only [Option.some.injEq] at h
  subst h
  refine ⟨Nat.le_of_ble_eq_true rfl, ?_⟩
  refine en ?_
  unfold addV
  cases h1 : (decide (x < 0) == decide (y < 0)) with
  | false =>
   rw [if_neg (by simp)]
   refine go1 @h1 ?_
   refine runs_cond rfl (fun hc => by cases hc) (fun hc => ?_)
   refine go0 ?_
   exact leaves_vv rfl rfl rfl
  | true =>
   cases h2 : (decide (IntKind.i64.wrap (x + y) < 0) != decide (x < 0)) with
   | false =>
    rw [if_neg (by simp)]
    refine go1 (jn @h1 @h2) ?_
    refine runs_cond rfl (fun hc => by cases hc) (fun hc => ?_)
    refine go0 ?_
    exact leaves_vv rfl rfl rfl
   | true =>
    rw [if_pos (by rfl)]
    refine go1 (jn @h1 @h2) ?_
    refine runs_cond rfl (fun hc => ?_) (fun hc => by cases hc)
    refine go0 ?_
    exact leaves_vv rfl rfl rfl
 ·cases h
/-! ### swa.Check -/
def swaChk (s : Sm) : Int := if s.count < 0 ∨ s.count > 1048576 ∨ s.count = 0 ∧ (s.sums.length : Int) > 0 then 1 else 0
def swaChkG : List AV → Mem → Option (AV × Mem)
 | [.agg cs], m =>
  match unSm cs with
  | some s => some (.v (.int .i64 (swaChk s)), m)
  | none => none
 | _, _ => none
theorem swaChk_eq (s : Sm) (m : Mem) : swaChkG [.agg s.row] m = some (.v (.int .i64 (swaChk s)), m) := by
 simp only [swaChkG, unSm_row]
def kpSwaChk : Nat → Option (List Nat) := fun
 | 0 => some [1]
 | 1 => some [21]
 | 2 => some [2]
 | 3 => some [2]
 | _ => none
attribute [go_sem] kpSwaChk
theorem swaChk_ok : FunOk Tryz.prog 133 swaChkG := by
 have hC := table_ok (P := Tryz.prog) (l := []) table_nil
 refine fun_ok mixed hC Tryz.func133 rfl kpSwaChk false rfl fun args m r h => ?_
 unfold swaChkG at h
 split at h
 ·rename_i cs
  split at h
  ·rename_i s hs0
   obtain rfl := unSm_some hs0
   simp only [Option.some.injEq] at h
   subst h
   refine ⟨Nat.le_of_ble_eq_true rfl, ?_⟩
   refine en ?_
   have v1 : (m.push s.row).var m.vars.length = some s.row := push_var
   have n1 := newSm (m := m) (x := s)
   have l1 := lpSmCount v1
   have l2 := lpSmSums v1
   have fin : ∀ (e : Env) (b : Int), Ev.get e 2 = .v (.int .i64 b) → b = swaChk s → Leaves Tryz.prog false Tryz.f133 m (.v (.int .i64 (swaChk s)), m) .ret e (m.push s.row) := fun e b h1 h2 => by rw [← h2]; exact leaves_fin rfl h1 fin_push
   repeat' (first | refine gos1 (jn @n1 (jn @l1 @l2)) ?_ | (refine ops_here ?_; (fail_if_success (refine ops_case (B := true) rfl rfl rfl ?_ ?_)); (fail_if_success (refine ops_case (B := false) rfl rfl rfl ?_ ?_)); refine ops_case rfl rfl rfl (fun hB => ?_) (fun hB => ?_) <;> rw [hB]) | (refine runs_here ?_; refine runs_cond rfl (fun hc => ?_) (fun hc => ?_) <;> first | (cases hc; done) | skip))
   all_goals exact fin _ _ rfl (by unfold swaChk; simp only [beq_iff_eq, beq_eq_false_iff_ne, decide_eq_true_eq, decide_eq_false_iff_not] at *; split <;> omega)
  ·cases h
 ·cases h
end
end Go.Proofs.YtmockbddhhmmeaaGreat.Ev
