/- times.there: is there a step? (Written out by wip/tools/gen_there.py.) -/
import Derived.Test.YtojaokhkbmiidaaGreatMbehb14
import Derived.Test.YtojaokhkbmiidaaGreatMa6
namespace Go.Proofs.YtojaokhkbmiidaaGreat.Ev
open Go Go.Proofs
set_option maxRecDepth 10000
set_option maxHeartbeats 8000000
set_option linter.unusedVariables false
set_option linter.unusedSimpArgs false
noncomputable section
attribute [local irreducible] Next Inside Runs Ops table
attribute [local irreducible] XRuns XOps XNext XInside XAny XStep
attribute [local go_sem] szStr szInt Option.getD_some isNil evStr iv mapRc cellsRc newRc fpRcSteps zrTab zoTab znTab
def kpThere : Nat → Option (List Nat) := fun
 | 0 => some [1, 2, 4]
 | 1 => some [1, 2, 4, 6, 7]
 | 2 => some [4, 5]
 | _ => none
attribute [go_sem] kpThere
end
noncomputable section
attribute [local irreducible] Next Inside Runs Ops table
attribute [local go_sem] szStr szInt Option.getD_some isNil evStr iv mapRc mapTab cellsTab cellsRc newRc zrTab zoTab znTab zsTab fpRcEval
def kpTimesAt : Nat → Option (List Nat) := fun
 | 0 => some [1, 2]
 | 1 => some [1, 5, 6]
 | 2 => some [1, 5, 14]
 | 3 => some [4]
 | 4 => some [4]
 | _ => none
attribute [go_sem] kpTimesAt
def lookB (R : Rc) (step : Int) : Bool := decide (R.eval > 0) && ((step + 1).tmod R.eval == 0)
def kpTimesLook : Nat → Option (List Nat) := fun
 | 0 => some [1, 2]
 | 1 => some [1, 2, 6]
 | 2 => some [4]
 | _ => none
attribute [go_sem] kpTimesLook
def kpTimesSwa : Nat → Option (List Nat) := fun
 | 0 => some [1, 2]
 | 1 => some [1, 5, 6]
 | 2 => some [1, 5, 16]
 | 3 => some [4]
 | 4 => some [8]
 | 5 => some [4]
 | _ => none
attribute [go_sem] kpTimesSwa
end
noncomputable section
attribute [local irreducible] Next Inside Runs Ops table
attribute [local go_sem] szStr szInt Option.getD_some isNil evStr iv loadInt loadStr mapRc cellsRc newRc rowsS_len rowsPh_len rowsEvt_len rowsSp_len fpRcPhases fpRcGroups fpRcEval fpRcSwa fpRcSwaFrom fpRcSwaOn fpRcSwaEvery fpRcSteps fePhFrozen lePhFrozen mkEvt3 mkEvt2 mkEvts1 feSpFrom_ leSpFrom_ niEvt ldEvt
theorem mkEvt0 : evBuildSlice Tryz.prog 55 0 [] = some (.lst .full 3 []) := build_nil appEvt
attribute [local go_sem] mkEvt0
def frozenRG : List AV → Mem → Option (AV × Mem)
 | [.agg cs, .v (.int .i64 p), .v (.int .i64 g)], m =>
  match unRc cs with
  | some R => if R.small ∧ 0 ≤ g ∧ g < (R.groups.length : Int) then some (.v (.bool ((frozenAt R p).getD g.toNat false)), m) else none
  | none => none
 | _, _ => none
theorem frozenRG_at {R : Rc} {p : Int} {g : Nat} {m : Mem} (h : R.small) (h1 : g < R.groups.length) : frozenRG [.agg R.row, .v (.int .i64 p), .v (.int .i64 (g : Int))] m = some (.v (.bool ((frozenAt R p).getD g false)), m) := by
 simp only [frozenRG, unRc_row]
 rw [if_pos ⟨h, by omega, by omega⟩, Int.toNat_natCast]
def kpFrozenR : Nat → Option (List Nat) := fun
 | 0 => some [1, 2, 3]
 | 1 => some [6]
 | _ => none
attribute [go_sem] kpFrozenR
def tab_frozenR_ok : List (FuncId × (List AV → Mem → Option (AV × Mem))) := [(93, placeG)]
theorem frozenR_ok : FunOk Tryz.prog 55 frozenRG := by
 have hC := table_ok (P := Tryz.prog) (l := tab_frozenR_ok) (table_more refPlace_ok table_nil)
 have t1 := fun args mm => table_at (l := tab_frozenR_ok) (f := 93) (args := args) (m := mm) rfl
 refine fun_ok mixed hC Tryz.func55 rfl kpFrozenR false rfl fun args m r h => ?_
 unfold frozenRG at h
 split at h
 ·rename_i cs p g
  split at h
  ·rename_i R hR
   obtain rfl := unRc_some hR
   split at h
   ·rename_i hyp
    obtain ⟨hsm, hg0, hg1⟩ := hyp
    obtain ⟨j, rfl⟩ := Int.eq_ofNat_of_zero_le hg0
    rw [Int.toNat_natCast] at h
    simp only [Option.some.injEq] at h
    subst h
    refine ⟨Nat.le_of_ble_eq_true rfl, ?_⟩
    refine en ?_
    have hj : j < R.groups.length := by omega
    have hA := above_push (cs := R.row) (above_self m)
    have hv : (m.push R.row).var m.vars.length = some R.row := push_var
    have nr := newRc (m := m) (x := R)
    generalize m.push R.row = m1 at hA hv nr
    have l1 := lpRcPhases hv
    have l2 := lpRcGroups hv
    unfold frozenAt
    refine go1 @nr ?_
    refine runs_ops_drawn_kept (by kernel_rfl) ?_
    by_cases h0 : 0 ≤ p
    ·have b0 : decide (p ≥ 0) = true := decide_eq_true h0
     by_cases h1 : p < (R.phases.length : Int)
     ·have b1 : decide (p < (R.phases.length : Int)) = true := decide_eq_true h1
      rw [if_pos ⟨h0, h1⟩]
      obtain ⟨q, rfl⟩ := Int.eq_ofNat_of_zero_le h0
      rw [Int.toNat_natCast]
      have hq : q < R.phases.length := by omega
      have f1 := atPh (g := .no) (kk := .i64) hq
      have f2 := atStrs (g := .no) (kk := .i64) hj
      have hfl := (hsm.phase q).1
      have c1 := fun mm => placeG_eq (m := mm) (g := .no) (s := R.groups.getD j ⟨#[]⟩) (show (R.phases.getD q ph0).frozen.length ≤ 9223372036854775807 by omega)
      have d1 := among_place (R.phases.getD q ph0).frozen (R.groups.getD j ⟨#[]⟩)
      have hget : (R.groups.map fun g => among (R.phases.getD q ph0).frozen g).getD j false = among (R.phases.getD q ph0).frozen (R.groups.getD j ⟨#[]⟩) := by simp [List.getD, List.getElem?_eq_getElem hj]
      rw [hget]
      generalize R.phases.getD q ph0 = P at f1 c1 d1
      generalize R.groups.getD j ⟨#[]⟩ = s at f2 c1 d1
      refine go1 (jn @b0 (jn @l1 (jn @b1 (jn @f1 (jn @l2 (jn @f2 (jn @t1 (jn @c1 @d1)))))))) ?_
      exact leaves_fin rfl rfl (above_fin hA)
     ·have b1 : decide (p < (R.phases.length : Int)) = false := decide_eq_false h1
      rw [if_neg (fun h => h1 h.2)]
      refine go1 (jn @b0 (jn @l1 @b1)) ?_
      exact leaves_fin rfl rfl (above_fin hA)
    ·have b0 : decide (p ≥ 0) = false := decide_eq_false h0
     rw [if_neg (fun h => h0 h.1)]
     refine go1 @b0 ?_
     exact leaves_fin rfl rfl (above_fin hA)
   ·cases h
  ·cases h
 ·cases h
/-! ### Swa, Looked -/
def rswaG : List AV → Mem → Option (AV × Mem)
 | [.agg cs, .v (.int .i64 step)], m =>
  match unRc cs with
  | some R => if R.may = true ∧ (R.swaOn = true → 0 < R.swaEvery) ∧ stepIn step then some (.v (.bool (swaIs R R.swaSteps.1 step)), m) else none
  | none => none
 | _, _ => none
theorem rswaG_at {R : Rc} {step : Int} {m : Mem} (h : R.sound = true) (h1 : stepIn step) : rswaG [.agg R.row, .v (.int .i64 step)] m = some (.v (.bool (swaIs R R.swaSteps.1 step)), m) := by
 simp only [rswaG, unRc_row]
 rw [if_pos ⟨sound_may h, sound_every h, h1⟩]
def kpRSwa : Nat → Option (List Nat) := fun
 | 0 => some [1, 2]
 | 1 => some [1, 2, 5]
 | 2 => some [4]
 | _ => none
attribute [go_sem] kpRSwa
def tab_rswa_ok : List (FuncId × (List AV → Mem → Option (AV × Mem))) := [(49, rstepsG)]
theorem rswa_ok : FunOk Tryz.prog 29 rswaG := by
 have hC := table_ok (P := Tryz.prog) (l := tab_rswa_ok) (table_more rsteps_ok table_nil)
 have t1 := fun args mm => table_at (l := tab_rswa_ok) (f := 49) (args := args) (m := mm) rfl
 refine fun_ok mixed hC Tryz.func29 rfl kpRSwa false rfl fun args m r h => ?_
 unfold rswaG at h
 split at h
 ·rename_i cs step
  split at h
  ·rename_i R hR
   obtain rfl := unRc_some hR
   split at h
   ·rename_i hyp
    obtain ⟨hmay, hev, hst⟩ := hyp
    simp only [Option.some.injEq] at h
    subst h
    refine ⟨Nat.le_of_ble_eq_true rfl, ?_⟩
    refine en ?_
    have hn := Rc.may_num hmay
    have hA := above_push (cs := R.row) (above_self m)
    have hv : (m.push R.row).var m.vars.length = some R.row := push_var
    have nr := newRc (m := m) (x := R)
    generalize m.push R.row = m1 at hA hv nr
    have l0 := vrRc hv
    have l1 := lpRcSwaFrom hv
    have l2 := lpRcSwaOn hv
    have l3 := lpRcSwaEvery hv
    have c1 := fun mm => rstepsG_at (R := R) (m := mm) hn.from_ hn.steps.1 hn.epoch.1
    rw [show stepsP R.swaFromU R.swaFromN R.steps R.epoch = R.swaSteps from rfl] at c1
    have hf := @sound_from R
    unfold stepIn at hst
    unfold swaIs
    generalize R.swaSteps.1 = f at c1 hf
    generalize R.swaSteps.2 = e2 at c1
    have w1 : IntKind.i64.wrap (step - f) = step - f := i64_wrap (by omega) (by omega)
    refine go1 (jn @nr (jn @l0 (jn @l1 (jn @t1 @c1)))) ?_
    cases q0 : R.swaOn with
    | false =>
     refine go1 (jn @l2 @q0) ?_
     exact leaves_fin rfl rfl (above_fin hA)
    | true =>
     have hne : R.swaEvery ≠ 0 := by have := hev q0; omega
     cases q1 : decide (step ≥ f) with
     | false =>
      refine go1 (jn @l2 (jn @q0 @q1)) ?_
      exact leaves_fin rfl rfl (above_fin hA)
     | true =>
      rw [Bool.true_and, Bool.true_and]
      refine go1 (jn @l2 (jn @q0 (jn @q1 (jn @w1 (jn @l3 @hne))))) ?_
      exact leaves_fin rfl rfl (above_fin hA)
   ·cases h
  ·cases h
 ·cases h
def rlookB (R : Rc) (step : Int) : Bool := decide (R.eval > 0) && (step.tmod R.eval == R.eval - 1)
def rlookG : List AV → Mem → Option (AV × Mem)
 | [.agg cs, .v (.int .i64 step)], m =>
  match unRc cs with
  | some R => if 0 ≤ R.eval ∧ R.eval ≤ 1099511627776 then some (.v (.bool (rlookB R step)), m) else none
  | none => none
 | _, _ => none
theorem rlookG_at {R : Rc} {step : Int} {m : Mem} (h : 0 ≤ R.eval ∧ R.eval ≤ 1099511627776) : rlookG [.agg R.row, .v (.int .i64 step)] m = some (.v (.bool (rlookB R step)), m) := by
 simp only [rlookG, unRc_row]
 rw [if_pos h]
def kpRLook : Nat → Option (List Nat) := fun
 | 0 => some [1, 2]
 | 1 => some [4]
 | _ => none
attribute [go_sem] kpRLook
theorem rlook_ok : FunOk Tryz.prog 28 rlookG := by
 have hC := table_ok (P := Tryz.prog) (l := []) table_nil
 refine fun_ok mixed hC Tryz.func28 rfl kpRLook false rfl fun args m r h => ?_
 unfold rlookG at h
 split at h
 ·rename_i cs step
  split at h
  ·rename_i R hR
   obtain rfl := unRc_some hR
   split at h
   ·rename_i he
    simp only [Option.some.injEq] at h
    subst h
    refine ⟨Nat.le_of_ble_eq_true rfl, ?_⟩
    refine en ?_
    have hA := above_push (cs := R.row) (above_self m)
    have hv : (m.push R.row).var m.vars.length = some R.row := push_var
    have nr := newRc (m := m) (x := R)
    generalize m.push R.row = m1 at hA hv nr
    have l1 := lpRcEval hv
    have w1 : IntKind.i64.wrap (R.eval - 1) = R.eval - 1 := i64_wrap (by omega) (by omega)
    unfold rlookB
    refine go1 @nr ?_
    refine runs_ops_drawn_kept (by kernel_rfl) ?_
    cases q0 : decide (R.eval > 0) with
    | false =>
     refine go1 (jn @l1 @q0) ?_
     exact leaves_fin rfl rfl (above_fin hA)
    | true =>
     have hne : R.eval ≠ 0 := by have := of_decide_eq_true q0; omega
     rw [Bool.true_and]
     refine go1 (jn @l1 (jn @q0 (jn @hne @w1))) ?_
     exact leaves_fin rfl rfl (above_fin hA)
   ·cases h
  ·cases h
 ·cases h
theorem look_same {R : Rc} {step : Int} (h0 : 0 ≤ step) : lookB R step = rlookB R step := by
 unfold lookB rlookB
 cases q0 : decide (R.eval > 0) with
 | false => rfl
 | true =>
  have he := of_decide_eq_true q0
  rw [Bool.true_and, Bool.true_and, Int.tmod_eq_emod_of_nonneg (by omega), Int.tmod_eq_emod_of_nonneg h0, Bool.eq_iff_iff]
  simp only [beq_iff_eq]
  generalize R.eval = e at he
  have h1 := Int.emod_nonneg step (show e ≠ 0 by omega)
  have h2 := Int.emod_lt_of_pos step he
  have h3 := Int.emod_add_mul_ediv step e
  have h4 := Int.emod_nonneg (step + 1) (show e ≠ 0 by omega)
  have h5 := Int.emod_lt_of_pos (step + 1) he
  have key : (step + 1) % e = (step % e + 1) % e := by rw [Int.emod_add_emod]
  rw [key]
  constructor
  ·intro h
   by_cases h6 : step % e + 1 < e
   ·rw [Int.emod_eq_of_lt (by omega) h6] at h
    omega
   ·omega
  ·intro h
   rw [h, show e - 1 + 1 = e by omega, Int.emod_self]
def kpSameE : Nat → Option (List Nat) := fun
 | 0 => some [0, 1]
 | 1 => some [0, 1, 10]
 | 2 => some [4]
 | 3 => some [0, 1, 5]
 | 4 => some [0, 1, 5, 14]
 | 5 => some [0, 1, 5]
 | 6 => some [0, 1, 5, 25]
 | 7 => some [4]
 | 8 => some [4]
 | _ => none
attribute [go_sem] kpSameE
end
noncomputable section
attribute [local irreducible] Next Inside Runs Ops table
attribute [local go_sem] szStr szInt Option.getD_some isNil evStr iv loadInt mapRc cellsRc newRc rowsS_len rowsEvt_len rowsSp_len fpRcGroups fpRcSteps mkEvt3 mkEvt2 mkEvts1 mkEvt0 feSpFrom_ leSpFrom_
def kpREvAt : Nat → Option (List Nat) := fun
 | 0 => some [1, 2]
 | 1 => some [1, 2, 5]
 | 2 => some [1, 2, 5, 6]
 | 3 => some [1, 2, 5, 6, 7]
 | 4 => some [1, 2, 5, 6, 7, 26]
 | 5 => some [1, 2, 5, 6, 7]
 | 6 => some [1, 2, 5, 6, 7, 8]
 | 7 => some [1, 2, 5, 6, 7, 8, 34]
 | 8 => some [1, 2, 5, 6, 7, 8]
 | 9 => some [1, 2, 5, 6, 7, 8, 9]
 | 10 => some [1, 2, 5, 6, 7, 8, 9, 44]
 | 11 => some [1, 2, 5, 6, 7, 8, 9]
 | 12 => some [1, 2, 5, 6, 7, 8, 9, 10, 11]
 | 13 => some [1, 2, 5, 6, 7, 8, 9, 64]
 | 14 => some [1, 2, 5, 6, 7, 8, 9]
 | 15 => some [1, 2, 5, 74]
 | 16 => some [1, 2, 5, 12]
 | 17 => some [1, 2, 5, 12, 13]
 | 18 => some [1, 2, 5, 12, 13, 77]
 | 19 => some [1, 2, 5, 12, 13]
 | 20 => some [1, 2, 5, 12, 13, 82]
 | 21 => some [1, 2, 5, 12, 13]
 | 22 => some [1, 2, 5]
 | 23 => some [1, 5, 95]
 | 24 => some [5]
 | 25 => some [4]
 | _ => none
attribute [go_sem] kpREvAt
end
end Go.Proofs.YtojaokhkbmiidaaGreat.Ev
