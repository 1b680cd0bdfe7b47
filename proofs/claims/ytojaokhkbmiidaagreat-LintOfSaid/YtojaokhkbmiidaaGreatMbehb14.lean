/- lint.Of. -/
import Derived.Test.YtojaokhkbmiidaaGreatMbehb13
import Derived.Test.YtojaokhkbmiidaaGreatMbehb1
import Derived.Test.YtojaokhkbmiidaaGreatMbehb9
namespace Go.Proofs.YtojaokhkbmiidaaGreat.Ev
open Go Go.Proofs
set_option maxRecDepth 10000
set_option maxHeartbeats 8000000
set_option linter.unusedVariables false
set_option linter.unusedSimpArgs false
noncomputable section
attribute [local irreducible] Next Inside Runs Ops table
attribute [local go_sem] szStr szInt Option.getD_some isNil evStr iv loadStr loadInt mapRc cellsRc newRc fpRcSwa fpRcSwaOn fpRcSwaFrom fpRcSteps fpRcEpoch fpRcEval fpRcStop fpRcStopOn fpRcStopPatience rowsFl_len evMinMax evFoldI
def zeroNo : List AV := [.lst .full 3 []]
theorem zrNo : zeroCells Tryz.prog 104 = some zeroNo := by kernel_rfl
attribute [local go_sem] zrNo
theorem zoNo : zeroNo.all okCell = true := rfl
attribute [local go_sem] zoNo
theorem znNo {m : Mem} : newVar m m.vars.length zeroNo = some (m.push zeroNo) := newVar_push rfl
attribute [local go_sem] znNo
theorem addL_var {m : Mem} {r : Nat} {l : List Fl} (hv : m.var r = some [.lst .full 3 []]) : ∃ g, (addL m r l).var r = some [.lst g 3 (rowsFl l)] := by
 by_cases h : l = []
 ·subst h
  rw [addL_nil]
  exact ⟨_, hv⟩
 ·rw [addL_full hv h]
  exact ⟨_, var_of (by show (m.vars.set r _)[r]? = _; rw [List.getElem?_set_self (var_lt hv).1]; rfl)⟩
theorem fin_addL_new {m m' : Mem} {r : Nat} {l : List Fl} (hA : Above m m') (hr : m.vars.length ≤ r) (hv : m'.var r = some [.lst .full 3 []]) : finMem m (addL m' r l) = m := by
 by_cases h : l = []
 ·subst h
  rw [addL_nil]
  exact above_fin hA
 ·rw [addL_full hv h]
  obtain ⟨L, rfl⟩ := hA
  unfold finMem
  have e : ((m.vars ++ L).set r (some [AV.lst (.tok m.toks.length (l.length - 1)) 3 ([] ++ rowsFl l)])).take m.vars.length = m.vars := by
   rw [List.set_append_right _ _ hr]
   simp
  rw [if_pos (by simp only [e])]
  simp only [e]
  simp
def lateB (R : Rc) : Bool := R.swaOn && decide (R.swaSteps.1 ≥ R.steps)
def slowB (R : Rc) : Bool := R.stopOn && decide (R.stopPatience ≥ R.steps.tdiv (mx R.eval 1))
def lint5 (R : Rc) : List Fl := ((((lidleTo R R.groups.length) ++ lstillTo R R.phases.length) ++ lblindTo R R.metrics.length) ++ outerTo R 63 4 R.phases.length) ++ outerTo R 65 5 R.phases.length
def lintL (R : Rc) : List Fl := if R.sound = true then (lint5 R ++ (if lateB R = true then [⟨6, 0, 0⟩] else [])) ++ (if slowB R = true then [⟨7, 0, 0⟩] else []) else []
def lintOfG : List AV → Mem → Option (AV × Mem)
 | [.agg cs], m =>
  match unRc cs with
  | some R => if R.fit then some (.lst .no 3 (rowsFl (lintL R)), m) else none
  | none => none
 | _, _ => none
theorem lintOfG_at {m : Mem} {R : Rc} (h : R.fit) : lintOfG [.agg R.row] m = some (.lst .no 3 (rowsFl (lintL R)), m) := by
 simp only [lintOfG, unRc_row]
 rw [if_pos h]
def kpLintOf : Nat → Option (List Nat) := fun
 | 0 => some [1]
 | 1 => some [1, 8]
 | 2 => some [2]
 | 3 => some [1, 3]
 | 4 => some [1, 3]
 | 5 => some [1, 3]
 | 6 => some [1, 3]
 | 7 => some [1, 3]
 | 8 => some [1, 3]
 | 9 => some [1, 3, 4]
 | 10 => some [1, 3]
 | 11 => some [3]
 | 12 => some [2]
 | _ => none
attribute [go_sem] kpLintOf
def tab_lintOf_ok : List (FuncId × (List AV → Mem → Option (AV × Mem))) := [(12, soundG), (59, lidleG), (60, lstillG), (61, lblindG), (62, lsetsG), (48, stepsLG), (67, lnoteG)]
theorem lintOf_ok : FunOk Tryz.prog 34 lintOfG := by
 have hC := table_ok (P := Tryz.prog) (l := tab_lintOf_ok) (table_more sound_ok (table_more lidle_ok (table_more lstill_ok (table_more lblind_ok (table_more lsets_ok (table_more stepsL_ok (table_more lnote_ok table_nil)))))))
 have t1 := fun args mm => table_at (l := tab_lintOf_ok) (f := 12) (args := args) (m := mm) rfl
 have t2 := fun args mm => table_at (l := tab_lintOf_ok) (f := 59) (args := args) (m := mm) rfl
 have t3 := fun args mm => table_at (l := tab_lintOf_ok) (f := 60) (args := args) (m := mm) rfl
 have t4 := fun args mm => table_at (l := tab_lintOf_ok) (f := 61) (args := args) (m := mm) rfl
 have t5 := fun args mm => table_at (l := tab_lintOf_ok) (f := 62) (args := args) (m := mm) rfl
 have t6 := fun args mm => table_at (l := tab_lintOf_ok) (f := 48) (args := args) (m := mm) rfl
 have t7 := fun args mm => table_at (l := tab_lintOf_ok) (f := 67) (args := args) (m := mm) rfl
 refine fun_ok mixed hC Tryz.func34 rfl kpLintOf false rfl fun args m r h => ?_
 unfold lintOfG at h
 split at h
 ·rename_i cs
  split at h
  ·rename_i R hR
   obtain rfl := unRc_some hR
   split at h
   ·rename_i hfit
    simp only [Option.some.injEq] at h
    subst h
    refine ⟨Nat.le_of_ble_eq_true rfl, ?_⟩
    refine en ?_
    have hA := above_push (cs := R.row) (above_self m)
    have hv : (m.push R.row).var m.vars.length = some R.row := push_var
    have nr := newRc (m := m) (x := R)
    have hlen1 : (m.push R.row).vars.length = m.vars.length + 1 := push_len
    generalize m.push R.row = m1 at hA hv nr hlen1
    have l0 := vrRc hv
    have c1 := soundG_at R m1 hfit
    have w1 : (!true) = false := rfl
    have w2 : (!false) = true := rfl
    unfold lintL
    cases hs : R.sound with
    | false =>
     rw [hs] at c1
     refine go1 (jn @nr (jn @l0 (jn @t1 (jn @c1 @w2)))) ?_
     refine runs_cond rfl (fun hc => ?_) (fun hc => by cases hc)
     refine go0 ?_
     exact leaves_lst rfl rfl (above_fin hA)
    | true =>
     rw [hs] at c1
     rw [if_pos rfl]
     have hsm := Rc.may_small (sound_may hs)
     have ok := sound_ok' hs
     have hnum := Rc.may_num ok.may
     have hst := ok.steps
     have hA2 := above_push (cs := zeroNo) hA
     have hv2 := push_old (cs' := zeroNo) hv
     have hr2 : (m1.push zeroNo).var m1.vars.length = some [.lst .full 3 []] := push_var
     have zn := znNo (m := m1)
     refine go1 (jn @nr (jn @l0 (jn @t1 (jn @c1 @w1)))) ?_
     refine runs_cond rfl (fun hc => by cases hc) (fun hc => ?_)
     generalize m1.push zeroNo = m2 at hA2 hv2 hr2 zn
     refine go1 (jn @zrNo (jn @zoNo @zn)) ?_
     have hne : m.vars.length ≠ m1.vars.length := by omega
     have hle : m.vars.length ≤ m1.vars.length := by omega
     generalize m1.vars.length = r at hr2 hne hle ⊢
     generalize m.vars.length = n1 at hv2 hne ⊢
     have hok : lstOk m2 r 100000 := by unfold lstOk; rw [hr2]; show 0 + 100000 ≤ 1000000; omega
     have lv : ∀ X, (addL m2 r X).var n1 = some R.row := fun X => addL_ne hne hv2
     have okX : ∀ (X : List Fl) (n : Nat), X.length + n ≤ 100000 → lstOk (addL m2 r X) r n := fun X n h => lstOk_le (addL_ok hok (by omega)) (by omega)
     have b1 := lidleTo_len R R.groups.length
     have b2 := lstillTo_len R R.phases.length
     have b3 := lblindTo_len R R.metrics.length
     have b4 := outerTo_len hsm 63 4 R.phases.length
     have b5 := outerTo_len hsm 65 5 R.phases.length
     have hG64 := hsm.2.1
     have hP64 := hsm.2.2.1
     have hM64 := hsm.1
     have d1 : lidleG [.ptr r 0, .agg R.row] m2 = some (.tup [], addL m2 r (lidleTo R R.groups.length)) := lidleG_at hsm (lstOk_le hok (by omega))
     have d2 : lstillG [.ptr r 0, .agg R.row] (addL m2 r (lidleTo R R.groups.length)) = some (.tup [], addL m2 r (lidleTo R R.groups.length ++ lstillTo R R.phases.length)) := by
      rw [lstillG_at hsm (okX _ _ (by omega)), addL_app hok]
     have d3 : lblindG [.ptr r 0, .agg R.row] (addL m2 r (lidleTo R R.groups.length ++ lstillTo R R.phases.length)) = some (.tup [], addL m2 r ((lidleTo R R.groups.length ++ lstillTo R R.phases.length) ++ lblindTo R R.metrics.length)) := by
      rw [lblindG_at hsm (okX _ _ (by rw [List.length_append]; omega)), addL_app hok]
     generalize hX3 : (lidleTo R R.groups.length ++ lstillTo R R.phases.length) ++ lblindTo R R.metrics.length = X3 at d3
     have hl3 : X3.length ≤ 300 := by rw [← hX3, List.length_append, List.length_append]; omega
     have d4 : lsetsG [.ptr r 0, .agg R.row, .v (.int .i64 4), .fn (.func 63) [] []] (addL m2 r X3) = some (.tup [], addL m2 r (X3 ++ outerTo R 63 4 R.phases.length)) := by
      rw [lsetsG_at hs hfit (okX X3 10000 (by omega)) (.inl ⟨rfl, rfl⟩), addL_app hok]
     have d5 : lsetsG [.ptr r 0, .agg R.row, .v (.int .i64 5), .fn (.func 65) [] [.ptr n1 0]] (addL m2 r (X3 ++ outerTo R 63 4 R.phases.length)) = some (.tup [], addL m2 r (lint5 R)) := by
      rw [lsetsG_at hs hfit (okX _ 10000 (by rw [List.length_append]; omega)) (.inr ⟨rfl, n1, rfl, lv _⟩), addL_app hok, ← hX3]
      rfl
     have hl5 : (lint5 R).length ≤ 10000 := by
      show (((((lidleTo R R.groups.length) ++ lstillTo R R.phases.length) ++ lblindTo R R.metrics.length) ++ outerTo R 63 4 R.phases.length) ++ outerTo R 65 5 R.phases.length).length ≤ 10000
      rw [hX3, List.length_append, List.length_append]
      omega
     have a0 := vrRc (lv [])
     rw [addL_nil] at a0
     have a1 := vrRc (lv (lidleTo R R.groups.length))
     have a2 := vrRc (lv (lidleTo R R.groups.length ++ lstillTo R R.phases.length))
     have a3 := vrRc (lv X3)
     have a4 := vrRc (lv (X3 ++ outerTo R 63 4 R.phases.length))
     refine go1 (jn @a0 (jn @t2 @d1)) ?_
     refine go1 (jn @a1 (jn @t3 @d2)) ?_
     refine go1 (jn @a2 (jn @t4 @d3)) ?_
     refine go1 (jn @a3 (jn @t5 @d4)) ?_
     refine go1 (jn @a4 (jn @t5 @d5)) ?_
     have hmx : 1 ≤ mx R.eval 1 := by unfold mx; split <;> omega
     have hmx0 : mx R.eval 1 ≠ 0 := by omega
     have hq0 : 0 ≤ R.steps.tdiv (mx R.eval 1) := Int.tdiv_nonneg (by omega) (by omega)
     have hq1 : R.steps.tdiv (mx R.eval 1) ≤ R.steps := by
      rw [Int.tdiv_eq_ediv_of_nonneg (by omega)]
      exact Int.ediv_le_self _ (by omega)
     have wq : IntKind.i64.wrap (R.steps.tdiv (mx R.eval 1)) = R.steps.tdiv (mx R.eval 1) := i64_wrap (by omega) (by omega)
     generalize lint5 R = X5 at hl5 ⊢
     have e1 := lpRcSwaFrom (lv X5)
     have e2 := lpRcSteps (lv X5)
     have e3 := lpRcEpoch (lv X5)
     have f2 := fun mm => stepsLG_eq (u := R.swaFromU) (n := R.swaFromN) (of := R.steps) (ep := R.epoch) (m := mm)
     have e1' : evLoad Tryz.prog (addL m2 r X5) 33 (.ptr n1 29) = some (.agg [iv R.swaFromU, iv R.swaFromN]) := e1
     refine go1 (jn @e1 (jn @e2 (jn @e3 (jn @t6 @f2)))) ?_
     have hsw : (stepsP R.swaFromU R.swaFromN R.steps R.epoch).1 = R.swaSteps.1 := rfl
     rw [hsw]
     generalize (stepsP R.swaFromU R.swaFromN R.steps R.epoch).2 = er
     have e4 := lpRcSwaOn (lv X5)
     have d6f : ∀ b : Bool, lnoteG [.ptr r 0, .v (.bool b), .v (.int .i64 6), .v (.int .i64 0), .v (.int .i64 0)] (addL m2 r X5) = some (.tup [], addL m2 r (X5 ++ if b = true then [⟨6, 0, 0⟩] else [])) := fun b => by
      rw [lnoteG_at (okX _ 1 (by omega)), addL_app hok]
     have e6 := lpRcSteps (lv X5)
     have h1l : ∀ b : Bool, (X5 ++ if b = true then [(⟨6, 0, 0⟩ : Fl)] else []).length ≤ 20000 := fun b => by
      rw [List.length_append]
      split
      ·simp only [List.length_cons, List.length_nil]; omega
      ·simp only [List.length_nil]; omega
     cases p1 : R.swaOn with
     | false =>
      have hL : lateB R = false := by unfold lateB; rw [p1]; rfl
      have d6 := d6f false
      have hl6 := h1l false
      rw [hL]
      generalize (X5 ++ if false = true then [(⟨6, 0, 0⟩ : Fl)] else []) = X6 at d6 hl6 ⊢
      refine go1 (jn @e4 (jn @p1 (jn @t7 @d6))) ?_
      have d7f : ∀ b : Bool, lnoteG [.ptr r 0, .v (.bool b), .v (.int .i64 7), .v (.int .i64 0), .v (.int .i64 0)] (addL m2 r X6) = some (.tup [], addL m2 r (X6 ++ if b = true then [⟨7, 0, 0⟩] else [])) := fun b => by
       rw [lnoteG_at (okX _ 1 (by omega)), addL_app hok]
      have g1 := lpRcStopOn (lv X6)
      have g2 := lpRcStopPatience (lv X6)
      have g3 := lpRcSteps (lv X6)
      have g4 := lpRcEval (lv X6)
      have hlr := addL_var (l := X6) hr2
      refine go0 ?_
      cases p2 : R.stopOn with
      | false =>
       have hS : slowB R = false := by unfold slowB; rw [p2]; rfl
       have d7 := d7f false
       rw [hS]
       obtain ⟨g, hg⟩ := addL_var (l := X6 ++ (if false = true then [(⟨7, 0, 0⟩ : Fl)] else [])) hr2
       have l9 := lpNotes hg
       generalize (X6 ++ if false = true then [(⟨7, 0, 0⟩ : Fl)] else []) = X7 at d7 l9 ⊢
       refine runs_ops_drawn_tight (by kernel_rfl) (by kernel_rfl) ?_
       refine go1 (jn @g1 (jn @p2 (jn @t7 @d7))) ?_
       refine go1 @l9 ?_
       exact leaves_lst rfl rfl (fin_addL_new hA2 (by omega) hr2)
      | true =>
       have hS : slowB R = decide (R.stopPatience ≥ R.steps.tdiv (mx R.eval 1)) := by unfold slowB; rw [p2]; rfl
       have d7 := d7f (slowB R)
       obtain ⟨g, hg⟩ := addL_var (l := X6 ++ (if slowB R = true then [(⟨7, 0, 0⟩ : Fl)] else [])) hr2
       have l9 := lpNotes hg
       rw [hS] at d7 hg l9 ⊢
       generalize (X6 ++ if decide (R.stopPatience ≥ R.steps.tdiv (mx R.eval 1)) = true then [(⟨7, 0, 0⟩ : Fl)] else []) = X7 at d7 l9 ⊢
       refine runs_ops_drawn_tight (by kernel_rfl) (by kernel_rfl) ?_
       refine go1 (jn @g1 (jn @p2 (jn @g2 (jn @g3 (jn @g4 (jn @hmx0 (jn @wq (jn @t7 @d7)))))))) ?_
       refine go1 @l9 ?_
       exact leaves_lst rfl rfl (fin_addL_new hA2 (by omega) hr2)
     | true =>
      have hL : lateB R = decide (R.swaSteps.1 ≥ R.steps) := by unfold lateB; rw [p1]; rfl
      have d6 := d6f (decide (R.swaSteps.1 ≥ R.steps))
      have hl6 := h1l (decide (R.swaSteps.1 ≥ R.steps))
      rw [hL]
      generalize (X5 ++ if decide (R.swaSteps.1 ≥ R.steps) = true then [(⟨6, 0, 0⟩ : Fl)] else []) = X6 at d6 hl6 ⊢
      refine go1 (jn @e4 (jn @p1 (jn @e6 (jn @t7 @d6)))) ?_
      have d7f : ∀ b : Bool, lnoteG [.ptr r 0, .v (.bool b), .v (.int .i64 7), .v (.int .i64 0), .v (.int .i64 0)] (addL m2 r X6) = some (.tup [], addL m2 r (X6 ++ if b = true then [⟨7, 0, 0⟩] else [])) := fun b => by
       rw [lnoteG_at (okX _ 1 (by omega)), addL_app hok]
      have g1 := lpRcStopOn (lv X6)
      have g2 := lpRcStopPatience (lv X6)
      have g3 := lpRcSteps (lv X6)
      have g4 := lpRcEval (lv X6)
      have hlr := addL_var (l := X6) hr2
      refine go0 ?_
      cases p2 : R.stopOn with
      | false =>
       have hS : slowB R = false := by unfold slowB; rw [p2]; rfl
       have d7 := d7f false
       rw [hS]
       obtain ⟨g, hg⟩ := addL_var (l := X6 ++ (if false = true then [(⟨7, 0, 0⟩ : Fl)] else [])) hr2
       have l9 := lpNotes hg
       generalize (X6 ++ if false = true then [(⟨7, 0, 0⟩ : Fl)] else []) = X7 at d7 l9 ⊢
       refine runs_ops_drawn_tight (by kernel_rfl) (by kernel_rfl) ?_
       refine go1 (jn @g1 (jn @p2 (jn @t7 @d7))) ?_
       refine go1 @l9 ?_
       exact leaves_lst rfl rfl (fin_addL_new hA2 (by omega) hr2)
      | true =>
       have hS : slowB R = decide (R.stopPatience ≥ R.steps.tdiv (mx R.eval 1)) := by unfold slowB; rw [p2]; rfl
       have d7 := d7f (slowB R)
       obtain ⟨g, hg⟩ := addL_var (l := X6 ++ (if slowB R = true then [(⟨7, 0, 0⟩ : Fl)] else [])) hr2
       have l9 := lpNotes hg
       rw [hS] at d7 hg l9 ⊢
       generalize (X6 ++ if decide (R.stopPatience ≥ R.steps.tdiv (mx R.eval 1)) = true then [(⟨7, 0, 0⟩ : Fl)] else []) = X7 at d7 l9 ⊢
       refine runs_ops_drawn_tight (by kernel_rfl) (by kernel_rfl) ?_
       refine go1 (jn @g1 (jn @p2 (jn @g2 (jn @g3 (jn @g4 (jn @hmx0 (jn @wq (jn @t7 @d7)))))))) ?_
       refine go1 @l9 ?_
       exact leaves_lst rfl rfl (fin_addL_new hA2 (by omega) hr2)
   ·cases h
  ·cases h
 ·cases h
end
noncomputable section
attribute [local irreducible] Next Inside Runs Ops table
attribute [local go_sem] szStr szInt Option.getD_some isNil evStr iv loadStr loadInt fldOp ldOp rowsN_len rowsI_len
def rlostAt (l : List Nd) (k ep : Int) (i : Nat) : Bool := decide ((l.getD i nd0).op ≤ 7) && ((stepsF l ep l.length 0 k).getD i 0 == 0)
def rlostB (l : List Nd) (k ep : Int) : Bool := (List.range l.length).any (rlostAt l k ep)
def rlostG : List AV → Mem → Option (AV × Mem)
 | [.lst _ 7 rows, .v (.int .i64 k), .v (.int .i64 ep)], m =>
  match unN rows with
  | some l => open Classical in if checkT l = 0 ∧ inW k ∧ inW ep then some (.v (.bool (rlostB l k ep)), m) else none
  | _ => none
 | _, _ => none
theorem rlostG_at {m : Mem} {g : Grow} {l : List Nd} {k ep : Int} (h1 : checkT l = 0) (h2 : inW k) (h3 : inW ep) : rlostG [.lst g 7 (rowsN l), .v (.int .i64 k), .v (.int .i64 ep)] m = some (.v (.bool (rlostB l k ep)), m) := by
 simp only [rlostG, unN_rowsN]
 rw [if_pos ⟨h1, h2, h3⟩]
def kpRLost : Nat → Option (List Nat) := fun
 | 0 => some [0, 1, 2]
 | 1 => some [0, 7]
 | 2 => some [0, 7, 8]
 | 3 => some [0, 7, 8, 16]
 | 4 => some [0, 7, 8]
 | 5 => some [0, 7, 8, 31]
 | 6 => some [6]
 | 7 => some [6]
 | _ => none
attribute [go_sem] kpRLost
def tab_rlost_ok : List (FuncId × (List AV → Mem → Option (AV × Mem))) := [(117, stepsTG)]
theorem rlost_ok : FunOk Tryz.prog 70 rlostG := by
 have hC := table_ok (P := Tryz.prog) (l := tab_rlost_ok) (table_more stepsT_ok table_nil)
 have t1 := fun args mm => table_at (l := tab_rlost_ok) (f := 117) (args := args) (m := mm) rfl
 refine fun_ok mixed hC Tryz.func70 rfl kpRLost false rfl fun args m r h => ?_
 unfold rlostG at h
 split at h
 ·rename_i g rows n ep
  split at h
  ·rename_i l hl0
   obtain rfl := unN_some hl0
   split at h
   ·rename_i hyp
    obtain ⟨hc0, hn, hep⟩ := hyp
    simp only [Option.some.injEq] at h
    subst h
    refine ⟨Nat.le_of_ble_eq_true rfl, ?_⟩
    refine en ?_
    obtain ⟨s1, s2, s3, s4⟩ := checkT_sound hc0
    have hz := endW_zeroI hc0
    have f4 : ∀ g mm, stepsTG [.lst g 7 (rowsN l), .v (.int .i64 0), .v (.int .i64 n), .v (.int .i64 ep)] mm = _ := fun g mm => stepsTG_eq (g := g) (m := mm) (p := 0) s2 hz s4 hn hep
    have r3 := stepsF_len (ep := ep) s4 l.length 0 n hz (by have := endOf_in l ((0 : Nat) : Int); omega)
    rw [show endOf l ((0 : Nat) : Int) = (l.length : Int) from s3] at r3
    have hP : ∀ i, rlostAt l n ep i = (decide ((l.getD i nd0).op ≤ 7) && ((stepsF l ep l.length 0 n).getD i 0 == 0)) := fun i => rfl
    have hB : rlostB l n ep = (List.range l.length).any (rlostAt l n ep) := rfl
    generalize rlostAt l n ep = P at hP hB
    generalize stepsF l ep l.length 0 n = w at f4 r3 hP
    have r4 : w.length = l.length := by omega
    refine go1 (jn @t1 @f4) ?_
    refine runs_loop (fun k e m' => ∃ (i : Nat), i ≤ l.length ∧ (∀ j, j < i → P j = false) ∧ m = m' ∧ k = l.length - i ∧
     e = [(0, AV.lst g 7 (rowsN l)), (7, .lst .no 1 (rowsI w)), (8, .v (.int .i64 (i : Int)))]) (k := l.length) ⟨0, Nat.zero_le _, fun j hj => absurd hj (Nat.not_lt_zero _), rfl, rfl, rfl⟩ ?_
    rintro k e m' ⟨i, hi0, hno, rfl, rfl, rfl⟩
    refine go0 ?_
    refine runs_cond rfl (fun hc => ?_) (fun hc => ?_)
    ·have hi1 : i < l.length := by have := of_decide_eq_true hc; omega
     have f2 := atNodes (g := g) (kk := .i64) hi1
     have f3 := atInts (g := .no) (kk := .i64) (l := w) (i := i) (by omega)
     have hPi := hP i
     have r6 := next_i64 (i := i) (by omega)
     generalize l.getD i nd0 = x at f2 hPi
     have next : P i = false → ∀ j, j < i + 1 → P j = false := fun h j hj => by
      by_cases hji : j = i
      ·rw [hji]; exact h
      ·exact hno j (by omega)
     cases h1 : decide (x.op ≤ 7) with
     | false =>
      rw [h1, Bool.false_and] at hPi
      refine go1 (jn @f2 @h1) ?_
      refine runs_cond rfl (fun hc => by cases hc) (fun hc => ?_)
      refine go1 @r6 ?_
      exact ⟨l.length - (i + 1), by omega, i + 1, hi1, next hPi, rfl, rfl, rfl⟩
     | true =>
      rw [h1, Bool.true_and] at hPi
      cases h2 : (w.getD i 0 == 0) with
      | false =>
       rw [h2] at hPi
       refine go1 (jn @f2 (jn @h1 (jn @f3 @h2))) ?_
       refine runs_cond rfl (fun hc => by cases hc) (fun hc => ?_)
       refine go1 @r6 ?_
       exact ⟨l.length - (i + 1), by omega, i + 1, hi1, next hPi, rfl, rfl, rfl⟩
      | true =>
       rw [h2] at hPi
       rw [hB, range_any hi1 hPi]
       refine go1 (jn @f2 (jn @h1 (jn @f3 @h2))) ?_
       refine runs_cond rfl (fun hc => ?_) (fun hc => by cases hc)
       refine go0 ?_
       exact leaves_v rfl rfl
    ·have hi1 : i = l.length := by have := of_decide_eq_false hc; omega
     subst hi1
     rw [hB, range_all hno]
     refine go0 ?_
     exact leaves_v rfl rfl
   ·cases h
  ·cases h
 ·cases h
end
noncomputable section
attribute [local irreducible] Next Inside Runs Ops table
attribute [local go_sem] szStr szInt Option.getD_some isNil evStr iv loadStr loadInt mapRc cellsRc newRc ldGs cellsGs zrGs zoGs znGs zsGs fpRcPhases fpGsGroup fpGsParam fePhSets lePhSets rowsI_len rowsPh_len rowsGs_len
def rzeroB (l : List Nd) : Bool := !(List.range (l.flatMap numsN).length).any fun i => decide ((l.flatMap numsN).getD i 0 > 0)
def rzeroG : List AV → Mem → Option (AV × Mem)
 | [.lst _ 7 rows], m =>
  match unN rows with
  | some l => if l.length ≤ 1000 then some (.v (.bool (rzeroB l)), m) else none
  | _ => none
 | _, _ => none
theorem rzeroG_at {m : Mem} {g : Grow} {l : List Nd} (h1 : l.length ≤ 1000) : rzeroG [.lst g 7 (rowsN l)] m = some (.v (.bool (rzeroB l)), m) := by
 simp only [rzeroG, unN_rowsN]
 rw [if_pos h1]
def kpRZero : Nat → Option (List Nat) := fun
 | 0 => some [0]
 | 1 => some [3]
 | 2 => some [3, 4]
 | 3 => some [3, 4, 10]
 | 4 => some [3, 4]
 | 5 => some [3, 4, 17]
 | 6 => some [2]
 | 7 => some [2]
 | _ => none
attribute [go_sem] kpRZero
def tab_rzero_ok : List (FuncId × (List AV → Mem → Option (AV × Mem))) := [(116, numsG)]
theorem rzero_ok : FunOk Tryz.prog 69 rzeroG := by
 have hC := table_ok (P := Tryz.prog) (l := tab_rzero_ok) (table_more nums_ok table_nil)
 have t1 := fun args mm => table_at (l := tab_rzero_ok) (f := 116) (args := args) (m := mm) rfl
 refine fun_ok mixed hC Tryz.func69 rfl kpRZero false rfl fun args m r h => ?_
 unfold rzeroG at h
 split at h
 ·rename_i g rows
  split at h
  ·rename_i l hl0
   obtain rfl := unN_some hl0
   split at h
   ·rename_i hlen
    simp only [Option.some.injEq] at h
    subst h
    refine ⟨Nat.le_of_ble_eq_true rfl, ?_⟩
    refine en ?_
    have f4 := fun mm => numsG_eq (m := mm) (g := .no) hlen
    have hwl := numsL_len l
    unfold rzeroB
    generalize l.flatMap numsN = w at f4 hwl
    refine go1 (jn @t1 @f4) ?_
    refine runs_loop (fun k e m' => ∃ (i : Nat), i ≤ w.length ∧ (∀ j, j < i → decide (w.getD j 0 > 0) = false) ∧ m = m' ∧ k = w.length - i ∧
     e = [(3, AV.lst .no 1 (rowsI w)), (4, .v (.int .i64 (i : Int)))]) (k := w.length) ⟨0, Nat.zero_le _, fun j hj => absurd hj (Nat.not_lt_zero _), rfl, rfl, rfl⟩ ?_
    rintro k e m' ⟨i, hi0, hno, rfl, rfl, rfl⟩
    refine go0 ?_
    refine runs_cond rfl (fun hc => ?_) (fun hc => ?_)
    ·have hi1 : i < w.length := by have := of_decide_eq_true hc; omega
     have f3 := atInts (g := .no) (kk := .i64) (l := w) (i := i) hi1
     have r6 := next_i64 (i := i) (by omega)
     cases h1 : decide (w.getD i 0 > 0) with
     | false =>
      refine go1 (jn @f3 @h1) ?_
      refine runs_cond rfl (fun hc => by cases hc) (fun hc => ?_)
      refine go1 @r6 ?_
      exact ⟨w.length - (i + 1), by omega, i + 1, hi1, (fun j hj => by
       by_cases hji : j = i
       ·rw [hji]; exact h1
       ·exact hno j (by omega)), rfl, rfl, rfl⟩
     | true =>
      rw [range_any (p := fun i => decide (w.getD i 0 > 0)) hi1 h1]
      refine go1 (jn @f3 @h1) ?_
      refine runs_cond rfl (fun hc => ?_) (fun hc => by cases hc)
      refine go0 ?_
      exact leaves_v rfl rfl
    ·have hi1 : i = w.length := by have := of_decide_eq_false hc; omega
     subst hi1
     rw [range_all (p := fun i => decide (w.getD i 0 > 0)) hno]
     refine go0 ?_
     exact leaves_v rfl rfl
   ·cases h
  ·cases h
 ·cases h
/-! ### idle -/
def ridleP (s : ByteArray) (p : Ph) : Bool := p.sets.any (idleS s)
theorem any_take_next {α : Type} {d : α} {f : α → Bool} {l : List α} {i : Nat} (hi : i < l.length) : (l.take (i + 1)).any f = ((l.take i).any f || f (l.getD i d)) := by
 rw [take_next (d := d) hi, List.any_append]
 simp
def ridleG : List AV → Mem → Option (AV × Mem)
 | [.agg cs, .v (.string s)], m =>
  match unRc cs with
  | some R => if R.small then some (.v (.bool (!idleB R s)), m) else none
  | none => none
 | _, _ => none
theorem ridleG_at {m : Mem} {R : Rc} {s : ByteArray} (h : R.small) : ridleG [.agg R.row, .v (.string s)] m = some (.v (.bool (!idleB R s)), m) := by
 simp only [ridleG, unRc_row]
 rw [if_pos h]
def kpRIdle : Nat → Option (List Nat) := fun
 | 0 => some [1, 2]
 | 1 => some [1, 2, 5]
 | 2 => some [1, 2, 5, 12]
 | 3 => some [1, 2, 5]
 | 4 => some [1, 2, 5, 6]
 | 5 => some [1, 2, 5, 6, 23]
 | 6 => some [1, 2, 5, 6]
 | 7 => some [1, 2, 5, 6, 7]
 | 8 => some [1, 2, 5, 6, 43]
 | 9 => some [4]
 | 10 => some [4]
 | _ => none
attribute [go_sem] kpRIdle
theorem ridle_ok : FunOk Tryz.prog 68 ridleG := by
 have hC := table_ok (P := Tryz.prog) (l := []) table_nil
 refine fun_ok mixed hC Tryz.func68 rfl kpRIdle false rfl fun args m r h => ?_
 unfold ridleG at h
 split at h
 ·rename_i cs s
  split at h
  ·rename_i R hR
   obtain rfl := unRc_some hR
   split at h
   ·rename_i hsm
    simp only [Option.some.injEq] at h
    subst h
    refine ⟨Nat.le_of_ble_eq_true rfl, ?_⟩
    refine en ?_
    have hP64 := hsm.2.2.1
    have hA := above_push (cs := R.row) (above_self m)
    have hv : (m.push R.row).var m.vars.length = some R.row := push_var
    have nr := newRc (m := m) (x := R)
    generalize m.push R.row = m1 at hA hv nr
    have hB : idleB R s = R.phases.any (ridleP s) := rfl
    have yes : ∀ i j, i < R.phases.length → j < (R.phases.getD i ph0).sets.length → idleS s ((R.phases.getD i ph0).sets.getD j gs0) = true → idleB R s = true := fun i j hi hj h => by
     rw [hB]
     exact List.any_eq_true.2 ⟨_, getD_in hi, List.any_eq_true.2 ⟨_, getD_in hj, h⟩⟩
    refine go1 @nr ?_
    generalize m.vars.length = n1 at hv ⊢
    refine runs_loop (fun k e m' => ∃ (i : Nat), i ≤ R.phases.length ∧ (R.phases.take i).any (ridleP s) = false ∧ Above m m' ∧ m'.var n1 = some R.row ∧ k = R.phases.length - i ∧
     e = [(1, AV.v (.string s)), (2, .ptr n1 0), (5, .v (.int .i64 (i : Int)))]) (k := R.phases.length) ⟨0, Nat.zero_le _, rfl, hA, hv, rfl, rfl⟩ ?_
    rintro k e m' ⟨i, hi0, hno, hA1, hv1, rfl, rfl⟩
    have l1 := lpRcPhases hv1
    refine go1 @l1 ?_
    refine runs_cond rfl (fun hc => ?_) (fun hc => ?_)
    ·have hi1 : i < R.phases.length := by have := of_decide_eq_true hc; omega
     have f1 := atPh (g := .no) (kk := .i64) hi1
     have yes1 := fun j => yes i j hi1
     have hN := any_take_next (f := ridleP s) (d := ph0) hi1
     have hsl := (hsm.phase i).2.1
     have r6 := next_i64 (i := i) (by omega)
     generalize R.phases.getD i ph0 = P at f1 yes1 hN hsl
     refine go0 ?_
     refine runs_loop (fun k e m'' => ∃ (j : Nat), j ≤ P.sets.length ∧ (P.sets.take j).any (idleS s) = false ∧ Above m m'' ∧ m''.var n1 = some R.row ∧ k = P.sets.length - j ∧
      e = [(1, AV.v (.string s)), (2, .ptr n1 0), (5, .v (.int .i64 (i : Int))), (6, .v (.int .i64 (j : Int)))]) (k := P.sets.length) ⟨0, Nat.zero_le _, rfl, hA1, hv1, rfl, rfl⟩ ?_
     rintro k e m'' ⟨j, hj0, hno2, hA2, hv2, rfl, rfl⟩
     have l2 := lpRcPhases hv2
     refine go1 (jn @l2 @f1) ?_
     refine runs_cond rfl (fun hc => ?_) (fun hc => ?_)
     ·have hj1 : j < P.sets.length := by have := of_decide_eq_true hc; omega
      have f2 := atGs (g := .no) (kk := .i64) hj1
      have yes2 := yes1 j hj1
      have hN2 := any_take_next (f := idleS s) (d := gs0) hj1
      have r7 := next_i64 (i := j) (by omega)
      generalize P.sets.getD j gs0 = x at f2 yes2 hN2
      have zs := zsGs (m := m'') (x := x)
      have hA4 := above_push (cs := x.row) hA2
      have hv4 := push_old (cs' := x.row) hv2
      have hx4 : (m''.push x.row).var m''.vars.length = some x.row := push_var
      generalize m''.push x.row = m4 at zs hA4 hv4 hx4
      have l3 := lpGsGroup hx4
      have l4 := lpGsParam hx4
      have hS : idleS s x = ((x.group == s) && (x.param == 0)) := rfl
      cases h1 : (x.group == s) with
      | false =>
       rw [hS, h1, Bool.false_and, Bool.or_false, hno2] at hN2
       refine go1 (jn @l2 (jn @f1 (jn @f2 (jn @zs (jn @l3 @h1))))) ?_
       refine runs_cond rfl (fun hc => by cases hc) (fun hc => ?_)
       refine go1 @r7 ?_
       exact ⟨P.sets.length - (j + 1), by omega, j + 1, hj1, hN2, hA4, hv4, rfl, rfl⟩
      | true =>
       cases h2 : (x.param == 0) with
       | false =>
        rw [hS, h1, h2, Bool.and_false, Bool.or_false, hno2] at hN2
        refine go1 (jn @l2 (jn @f1 (jn @f2 (jn @zs (jn @l3 (jn @h1 (jn @l4 @h2))))))) ?_
        refine runs_cond rfl (fun hc => by cases hc) (fun hc => ?_)
        refine go1 @r7 ?_
        exact ⟨P.sets.length - (j + 1), by omega, j + 1, hj1, hN2, hA4, hv4, rfl, rfl⟩
       | true =>
        rw [yes2 (by rw [hS, h1, h2]; rfl)]
        refine go1 (jn @l2 (jn @f1 (jn @f2 (jn @zs (jn @l3 (jn @h1 (jn @l4 @h2))))))) ?_
        refine runs_cond rfl (fun hc => ?_) (fun hc => by cases hc)
        refine go0 ?_
        exact leaves_fin rfl rfl (above_fin hA4)
     ·have hj1 : j = P.sets.length := by have := of_decide_eq_false hc; omega
      subst hj1
      rw [List.take_length] at hno2
      have e1 : ridleP s P = false := hno2
      rw [e1, hno, Bool.or_false] at hN
      refine go1 @r6 ?_
      exact ⟨R.phases.length - (i + 1), by omega, i + 1, hi1, hN, hA2, hv2, rfl, rfl⟩
    ·have hi1 : i = R.phases.length := by have := of_decide_eq_false hc; omega
     subst hi1
     rw [List.take_length] at hno
     rw [hB, hno]
     refine go0 ?_
     exact leaves_fin rfl rfl (above_fin hA1)
   ·cases h
  ·cases h
 ·cases h
end
section
attribute [local irreducible] Next Inside Runs Ops table
theorem zero_same {l : List Nd} (h : checkT l = 0) : rzeroB l = zeroB l := by
 obtain ⟨h1, _, h2⟩ := lohi_best h
 have h4 := (checkT_parts h).2.2.2
 have h3 : ∀ y ∈ l.flatMap numsN, 0 ≤ y := fun y hy => by
  rw [nums_ends h4] at hy
  obtain ⟨x, hx, hy⟩ := List.mem_flatMap.1 hy
  exact (endsN_in (h4 x hx) y hy).1
 unfold rzeroB zeroB
 by_cases h0 : (endsL l).2 = 0
 ·rw [range_all fun i hi => decide_eq_false (by have := (h1 _ (getD_in (d := 0) hi)).2; omega), h0]
  rfl
 ·have hp := h3 _ h2
  obtain ⟨i, hi, he⟩ := List.getElem_of_mem h2
  have e : (l.flatMap numsN).getD i 0 = (endsL l).2 := by rw [List.getD, List.getElem?_eq_getElem hi, ← he]; rfl
  rw [range_any hi (decide_eq_true (by rw [e]; omega))]
  have : ((endsL l).2 == 0) = false := by simpa using h0
  rw [this]
  rfl
theorem stepsF_nn {l : List Nd} {ep : Int} (hm : ∀ x ∈ l, mayN x) (he : inW ep) : ∀ (f p : Nat) (n : Int), inW n → ∀ y ∈ stepsF l ep f p n, 0 ≤ y
 | 0, p, n, hn, y, hy => by simp [stepsF] at hy
 | f + 1, p, n, hn, y, hy => by
  have inn : (l.getD p nd0).op = 8 ∨ (l.getD p nd0).op = 9 → lenMay (l.getD p nd0).u (l.getD p nd0).n := fun h => by
   have hp : p < l.length := by
    by_cases hp : p < l.length
    ·exact hp
    ·have : l.getD p nd0 = nd0 := by rw [List.getD, List.getElem?_eq_none (by omega)]; rfl
     rw [this] at h
     rcases h with h | h <;> cases h
   have hx : mayN (l.getD p nd0) := hm _ (getD_in hp)
   unfold mayN at hx
   exact hx.2.2.2.2.2.2.2.2.2.2.2.2.2.2.1
  have h0 : 0 ≤ n := hn.1
  simp only [stepsF] at hy
  split at hy
  ·rename_i h8
   have hw := withinV_in (inn (.inl h8)) hn he
   rcases List.mem_cons.1 hy with rfl | hy
   ·exact h0
   ·exact stepsF_nn hm he f _ _ (by unfold inW at hn ⊢; omega) y hy
  ·split at hy
   ·rename_i h9
    have hw := withinV_in (inn (.inr h9)) hn he
    rcases List.mem_cons.1 hy with rfl | hy
    ·exact h0
    ·rcases List.mem_append.1 hy with hy | hy
     ·exact stepsF_nn hm he f _ _ (by unfold inW at hn ⊢; omega) y hy
     ·exact stepsF_nn hm he f _ _ (by unfold inW at hn ⊢; omega) y hy
   ·rcases List.mem_cons.1 hy with rfl | hy
    ·exact h0
    ·cases hy
theorem any_same {p q : Nat → Bool} {n : Nat} (h : ∀ i, i < n → p i = q i) : (List.range n).any p = (List.range n).any q := by
 cases hq : (List.range n).any q with
 | true =>
  obtain ⟨i, hi, he⟩ := List.any_eq_true.1 hq
  have hi := List.mem_range.1 hi
  exact range_any hi (by rw [h i hi]; exact he)
 | false =>
  refine range_all fun i hi => ?_
  have := List.any_eq_false.1 hq i (List.mem_range.2 hi)
  rw [h i hi]
  simpa using this
theorem lost_same {l : List Nd} {n ep : Int} (h : checkT l = 0) (hn : inW n) (he : inW ep) : rlostB l n ep = lostB l n ep := by
 obtain ⟨s1, s2, s3, s4⟩ := checkT_sound h
 have hz := endW_zeroI h
 have hin := endOf_in l ((0 : Nat) : Int)
 have em : marks l ep n = reachF l ep l.length 0 n (List.replicate l.length false) := if_pos ⟨h, hn, he⟩
 obtain ⟨r1, r2⟩ := reach_marks s4 he l.length 0 n (List.replicate l.length false) hz (by omega) hn (by simp)
 have r3 := stepsF_len (ep := ep) s4 l.length 0 n hz (by omega)
 rw [show endOf l ((0 : Nat) : Int) = (l.length : Int) from s3] at r3
 have nn := stepsF_nn s4 he l.length 0 n hn
 refine any_same fun i hi => ?_
 have hx : mayN (l.getD i nd0) := s4 _ (getD_in hi)
 have e : (List.replicate l.length false).getD i false = false := by
  simp only [List.getD, List.getElem?_replicate]
  split <;> rfl
 have hw := nn _ (getD_in (d := 0) (show i < (stepsF l ep l.length 0 n).length by omega))
 have e2 : (marks l ep n).getD i false = decide (0 < (stepsF l ep l.length 0 n).getD i 0) := by
  rw [em, r2 i, e, Nat.sub_zero]
  simp
 unfold rlostAt lostAt
 rw [e2]
 generalize (stepsF l ep l.length 0 n).getD i 0 = w at hw
 have e3 : (w == 0) = !decide (0 < w) := by
  rw [Bool.eq_iff_iff]
  simp only [beq_iff_eq, Bool.not_eq_true', decide_eq_false_iff_not]
  omega
 rw [e3]
 congr 1
 unfold mayN at hx
 unfold arityOf
 rw [Bool.eq_iff_iff]
 simp only [decide_eq_true_eq, beq_iff_eq]
 split
 ·omega
 ·split <;> omega
end
section
attribute [local irreducible] Next Inside Runs Ops table
def tabRow (R : Rc) (l : List Sp) (f : Int) : List AV := R.row ++ [.lst .no 2 (rowsSp l), .v (.int .i64 f)]
def zeroTab : List AV := zeroRc ++ [.lst .full 2 [], .v (.int .i64 0)]
theorem szTab : tSize Tryz.prog 90 = some 34 := by kernel_rfl
theorem mapTab {R : Rc} {l : List Sp} {f : Int} : List.map argCell (tabRow R l f) = tabRow R l f := rfl
theorem cellsTab {R : Rc} {l : List Sp} {f : Int} : cellsOf (.agg (tabRow R l f)) = some (tabRow R l f) := rfl
theorem newTb {m : Mem} {R : Rc} {l : List Sp} {f : Int} : newVar m m.vars.length (tabRow R l f) = some (m.push (tabRow R l f)) := newVar_push rfl
theorem zrTab : zeroCells Tryz.prog 90 = some zeroTab := by kernel_rfl
theorem zoTab : zeroTab.all okCell = true := rfl
theorem znTab {m : Mem} : newVar m m.vars.length zeroTab = some (m.push zeroTab) := newVar_push rfl
theorem zsTab {m : Mem} {R : Rc} {l : List Sp} {f : Int} : evStore Tryz.prog (m.push zeroTab) 90 (.ptr m.vars.length 0) (.agg (tabRow R l f)) = some (m.push (tabRow R l f)) := by
 rw [store_push (cs := tabRow R l f) rfl szTab (Nat.le_refl _) rfl]
 rfl
theorem fpTabR {r : Nat} : evFieldAddr Tryz.prog 90 (.ptr r 0) 0 = some (.ptr r 0) := by kernel_rfl
theorem fpTabS {r : Nat} : evFieldAddr Tryz.prog 90 (.ptr r 0) 1 = some (.ptr r 32) := by kernel_rfl
theorem fpTabF {r : Nat} : evFieldAddr Tryz.prog 90 (.ptr r 0) 2 = some (.ptr r 33) := by kernel_rfl
section
variable {m : Mem} {r : Nat} {R : Rc} {l : List Sp} {f : Int}
end
def kpOf : Nat → Option (List Nat) := fun
 | 0 => some [1, 2]
 | 1 => some [1, 2, 4, 5]
 | 2 => some [1, 2, 4, 5, 14]
 | 3 => some [2, 3]
 | 4 => some [1, 2, 4, 6]
 | 5 => some [2, 3]
 | _ => none
attribute [go_sem] kpOf
end
section
attribute [local irreducible] Next Inside Runs Ops table
/-! ### api.Event -/
structure Evt where
 step : Int
 kind : Int
 item : Int
def Evt.row (x : Evt) : List AV := [iv x.step, iv x.kind, iv x.item]
def rowsEvt (l : List Evt) : List (List AV) := l.map Evt.row
theorem rowsEvt_len (l : List Evt) : (rowsEvt l).length = l.length := List.length_map ..
theorem appEvt : appB Tryz.prog 55 55 3 = true := by kernel_rfl
theorem ldEvt {m : Mem} {x : Evt} : evLoad Tryz.prog m 65 (.eptr x.row) = some (.agg x.row) := by kernel_rfl
theorem niEvt : noIface Tryz.prog 8 65 = true := by kernel_rfl
end
section
attribute [local irreducible] Next Inside Runs Ops table
attribute [local go_sem] szStr szInt Option.getD_some isNil evStr iv loadInt mapRc mapTab cellsTab newTb fpTabR fpTabS fpTabF fpRcSteps fpRcSwa fpRcSwaOn fpRcSwaEvery rowsEvt_len rowsBo_len rowsI_len rowsSp_len ldBool feSpFrom_ leSpFrom_ mkInts2
theorem mkEvt3 {a b c : Int} : evBuild Tryz.prog 65 [(0, .v (.int .i64 a)), (1, .v (.int .i64 b)), (2, .v (.int .i64 c))] = some (.agg [.v (.int .i64 a), .v (.int .i64 b), .v (.int .i64 c)]) := by kernel_rfl
attribute [local go_sem] mkEvt3
theorem mkEvt2 {a b : Int} : evBuild Tryz.prog 65 [(0, .v (.int .i64 a)), (1, .v (.int .i64 b))] = some (.agg [.v (.int .i64 a), .v (.int .i64 b), .v (.int .i64 0)]) := by kernel_rfl
attribute [local go_sem] mkEvt2
theorem mkEvts1 {a b c : Int} : evBuildSlice Tryz.prog 55 1 [(0, .agg [.v (.int .i64 a), .v (.int .i64 b), .v (.int .i64 c)])] = some (.lst .full 3 [[.v (.int .i64 a), .v (.int .i64 b), .v (.int .i64 c)]]) := build_rows appEvt rfl rfl (by decide)
attribute [local go_sem] mkEvts1
/-! ### swa -/
def swaIs (R : Rc) (f step : Int) : Bool := R.swaOn && (decide (step ≥ f) && ((step - f).tmod R.swaEvery == 0))
def stepIn (x : Int) : Prop := 0 ≤ x ∧ x ≤ 1099511627776
instance (x : Int) : Decidable (stepIn x) := by unfold stepIn; exact inferInstance
def kpSwaT : Nat → Option (List Nat) := fun
 | 0 => some [1, 2]
 | 1 => some [1, 2, 28]
 | 2 => some [4, 5]
 | 3 => some [4, 5]
 | _ => none
attribute [go_sem] kpSwaT
end
section
attribute [local irreducible] Next Inside Runs Ops table
attribute [local go_sem] szStr szInt Option.getD_some isNil evStr iv loadInt mapRc mapTab cellsTab newTb fpTabR rowsEvt_len rowsBo_len rowsI_len mkEvt3 mkEvts1 ldBool
theorem mkTwo : evBuildSlice Tryz.prog 77 2 [(0, .v (.int .i64 2)), (1, .v (.int .i64 3))] = some (.lst .full 1 (rowsI [2, 3])) := build_rows appInts rfl rfl (by decide)
attribute [local go_sem] mkTwo
theorem two_len : ((([2, 3] : List Int).length : Nat) : Int) = 2 := rfl
attribute [local go_sem] two_len
def kpBegins : Nat → Option (List Nat) := fun
 | 0 => some [1, 2, 3]
 | 1 => some [1, 2, 3, 7]
 | 2 => some [1, 2, 3, 7, 8]
 | 3 => some [1, 2, 3, 7, 8, 21, 22, 23]
 | 4 => some [1, 2, 3, 7, 8, 21, 22, 23, 24]
 | 5 => some [1, 2, 3, 7, 8, 10, 21, 22, 23]
 | 6 => some [1, 2, 3, 7, 8, 10, 21, 22, 23, 30, 31, 32]
 | 7 => some [1, 2, 3, 7, 8, 10, 21, 22, 23, 30, 31, 32, 33]
 | 8 => some [1, 2, 3, 7, 8, 10, 12, 21, 22, 23, 30, 31, 32]
 | 9 => some [1, 2, 3, 7, 8, 10, 12, 21, 22, 23, 30, 31, 32, 42]
 | 10 => some [1, 2, 3, 7, 8, 10, 21, 22, 23, 30, 31, 32]
 | 11 => some [1, 2, 3, 7, 8, 10, 21, 22, 23, 30, 31, 32]
 | 12 => some [1, 2, 3, 7, 8, 21, 22, 23]
 | 13 => some [6]
 | _ => none
attribute [go_sem] kpBegins
end
noncomputable section
attribute [local irreducible] Next Inside Runs Ops table
attribute [local go_sem] szStr szInt Option.getD_some isNil evStr iv loadInt mapRc mapTab cellsTab newTb fpTabR fpTabS fpRcSteps rowsEvt_len rowsSp_len mkEvt3 mkEvt2 mkEvts1 feSpFrom_ leSpFrom_
theorem sound_every {R : Rc} (h : R.sound = true) : R.swaOn = true → 0 < R.swaEvery := fun ho => by
 have b := flawIf_nil (show flawIf (R.endBad 18) 18 0 0 = [] from sound_brk h 18 (by decide) (by decide))
 have e : R.endBad 18 = (R.swaOn && ((R.swaEvery == 0) || ((R.swaSteps.2 != 0) || decide (R.swaSteps.1 > R.steps)))) := rfl
 rw [e, ho, Bool.true_and, Bool.or_eq_false_iff] at b
 have := (Rc.may_num (sound_may h)).every ho
 have h0 := b.1
 simp only [beq_eq_false_iff_ne, ne_eq] at h0
 omega
theorem sound_from {R : Rc} : 0 ≤ R.swaSteps.1 ∧ R.swaSteps.1 ≤ 1099511627776 := stepsP_in
def kpAtT : Nat → Option (List Nat) := fun
 | 0 => some [1, 2]
 | 1 => some [1, 2, 5]
 | 2 => some [1, 2, 5, 6]
 | 3 => some [1, 2, 5, 6, 20]
 | 4 => some [1, 2, 5]
 | 5 => some [1, 2, 5, 7, 8]
 | 6 => some [1, 2, 5, 7, 31]
 | 7 => some [1, 2, 5]
 | 8 => some [1, 5, 43]
 | 9 => some [5]
 | 10 => some [4]
 | _ => none
attribute [go_sem] kpAtT
end
end Go.Proofs.YtojaokhkbmiidaaGreat.Ev
