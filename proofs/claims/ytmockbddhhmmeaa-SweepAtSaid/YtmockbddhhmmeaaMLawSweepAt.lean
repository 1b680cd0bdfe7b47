/- The law SweepAt. -/
import Derived.Test.YtmockbddhhmmeaaMbkei5
import Derived.Test.YtmockbddhhmmeaaMbkei7
import Derived.Test.YtmockbddhhmmeaaRows
import Derived.KernelRfl
namespace Go.Proofs.Ytmockbddhhmmeaa.Ev
open Go Go.Proofs
set_option maxRecDepth 10000
set_option maxHeartbeats 8000000
set_option linter.unusedVariables false
set_option linter.unusedSimpArgs false
noncomputable section
attribute [local irreducible] Next Inside Runs Ops table
attribute [local irreducible] XRuns XOps
attribute [local go_sem] szStr szInt Option.getD_some isNil evStr iv loadInt rowsI_len rowsAx_len mapAx mapRc cellsRc newRc zrRc zoRc znRc mk0Rc mapPl feAxAt feAxVals leAxVals
theorem mapZ : List.map argCell zeroRc = rc0.row := rfl
attribute [local go_sem] mapZ
theorem eqPl9 {x y : Pl} : eqTy Try.prog 8 50 (.agg x.row) (.agg y.row) = some (decide (x = y)) := by
 rw [eqPl]
 congr 1
 obtain ⟨a, b, c, d⟩ := x
 obtain ⟨a2, b2, c2, d2⟩ := y
 rw [Bool.eq_iff_iff]
 simp
theorem rc0_comp : rc0.comp := ⟨Nat.zero_le _, Nat.zero_le _, Nat.zero_le _, fun p hp => by cases hp⟩
def sweepAtLawG (w : Bool) : List AV → Mem → Option (AV × Mem)
 | [.agg cs, .lst _ 5 rows, .v (.int .i64 n)], m =>
  match unRc cs, unsAx rows with
  | some R, some l => if w = true ∧ inI n then some (.v (.bool true), m) else none
  | _, _ => none
 | _, _ => none
def kpSweepAtLaw : Nat → Option (List Nat) := fun
 | 0 => some [1, 2, 3]
 | 1 => some [1, 2, 3, 28]
 | 2 => some [6]
 | 3 => some [1, 2, 3, 7, 8]
 | 4 => some [1, 2, 3, 7, 8, 9, 10]
 | 5 => some [1, 2, 3, 7, 8, 9, 10, 43]
 | 6 => some [6]
 | 7 => some [1, 2, 3, 7, 8, 61]
 | 8 => some [6]
 | 9 => some [1, 2, 3, 7, 8, 11]
 | 10 => some [1, 2, 3, 7, 8, 11, 12]
 | 11 => some [1, 2, 3, 7, 8, 11, 12, 75]
 | 12 => some [1, 2, 3, 7, 8, 11, 12]
 | 13 => some [1, 2, 3, 7, 8, 11, 12, 13, 14]
 | 14 => some [1, 2, 3, 7, 8, 11, 12, 13, 14, 15]
 | 15 => some [1, 2, 3, 7, 8, 11, 12, 15, 124]
 | 16 => some [6]
 | 17 => some [1, 2, 3, 7, 8, 11, 12, 126]
 | 18 => some [6]
 | 19 => some [1, 2, 3, 7, 8, 11, 12, 16]
 | 20 => some [1, 2, 3, 7, 8, 11, 12, 16, 139]
 | 21 => some [1, 2, 3, 7, 8, 11, 12, 16]
 | 22 => some [1, 2, 3, 7, 8, 11, 12, 16]
 | 23 => some [1, 3, 7, 8, 11, 17]
 | 24 => some [1, 7, 11, 17, 169]
 | 25 => some [6]
 | 26 => some [1, 7, 11, 17, 18]
 | 27 => some [1, 7, 11, 17, 18, 176]
 | 28 => some [1, 7, 11, 17, 18]
 | 29 => some [1, 7, 11, 17, 18, 19, 20]
 | 30 => some [1, 7, 11, 17, 18, 205]
 | 31 => some [6]
 | 32 => some [6]
 | _ => none
attribute [go_sem] kpSweepAtLaw
def tabSwL : List (FuncId × (List AV → Mem → Option (AV × Mem))) := [(5, lightG), (6, liteG), (7, yesG), (8, atG), (9, countG), (10, same2G), (11, valueG), (12, thereG), (13, rvalueG), (14, rchoiceG), (15, rdocG)]
theorem tabSwL_ok : ∀ p, p ∈ tabSwL → FunOk Try.prog p.1 p.2 := table_more light_ok (table_more lite_ok (table_more awake56_ok (table_more at_ok (table_more rcount_ok (table_more same2_ok (table_more value_ok (table_more there_ok (table_more rvalue_ok (table_more rchoice_ok (table_more rdoc_ok table_nil))))))))))
theorem sweepAtLaw_ok : FunOk Try.prog 3 (sweepAtLawG true) := by
 have hC := table_ok (P := Try.prog) (l := tabSwL) tabSwL_ok
 have t1 := fun args mm => table_at (l := tabSwL) (f := 5) (args := args) (m := mm) rfl
 have t2 := fun args mm => table_at (l := tabSwL) (f := 6) (args := args) (m := mm) rfl
 have t3 := fun args mm => table_at (l := tabSwL) (f := 7) (args := args) (m := mm) rfl
 have t4 := fun args mm => table_at (l := tabSwL) (f := 8) (args := args) (m := mm) rfl
 have t5 := fun args mm => table_at (l := tabSwL) (f := 9) (args := args) (m := mm) rfl
 have t6 := fun args mm => table_at (l := tabSwL) (f := 10) (args := args) (m := mm) rfl
 have t7 := fun args mm => table_at (l := tabSwL) (f := 11) (args := args) (m := mm) rfl
 have t8 := fun args mm => table_at (l := tabSwL) (f := 12) (args := args) (m := mm) rfl
 have t9 := fun args mm => table_at (l := tabSwL) (f := 13) (args := args) (m := mm) rfl
 have ta := fun args mm => table_at (l := tabSwL) (f := 14) (args := args) (m := mm) rfl
 have tb := fun args mm => table_at (l := tabSwL) (f := 15) (args := args) (m := mm) rfl
 refine fun_okX Try.func3 rfl false rfl fun args m r h => ?_
 unfold sweepAtLawG at h
 split at h
 ·rename_i cs g rows n
  split at h
  ·rename_i R l hR hl
   obtain rfl := unRc_some hR
   obtain rfl := unsAx_some hl
   split at h
   ·rename_i hyp
    obtain ⟨_, hn⟩ := hyp
    simp only [Option.some.injEq] at h
    subst h
    refine ⟨Nat.le_of_ble_eq_true rfl, fun φ w => ?_⟩
    refine en ?_
    have hA := above_push (cs := R.row) (above_self m)
    have v3 : (m.push R.row).var m.vars.length = some R.row := push_var
    have nr := newRc (m := m) (x := R)
    have fin : ∀ (e : Env) (m' : Mem) (F : Objs), Above m m' → Ev.get e 6 = .v (.bool true) → XLeaves Try.prog false Try.f3 m (.v (.bool true), m) .ret e m' F := fun e m' F h1 h2 => x_leaves (leaves_fin rfl h2 (above_fin h1))
    generalize m.push R.row = m1 at hA v3 nr
    repeat (first | refine x_seq ?_ | refine x_block ?_ | refine xn_normal ?_ | refine xi_normal ?_ | refine xn_exit ?_ | refine xi_exit ?_ | refine xi_other (by decide) ?_ | refine xn_ret ?_ | refine xi_ret ?_ | refine x_skip ?_ | refine x_exit ?_ | refine x_ret ?_)
    refine x_region (kp := kpSweepAtLaw) mixed hC ?_
    refine go1 @nr ?_
    generalize m.vars.length = r3 at v3 ⊢
    have lR := vrRc v3
    have w1 := fun mm => lightG_at (R := R) (m := mm)
    have w2 := fun mm => liteG_eq (m := mm) (g := .no) (l := l)
    repeat (first | refine x_seq ?_ | refine x_block ?_ | refine xn_normal ?_ | refine xi_normal ?_ | refine xn_exit ?_ | refine xi_exit ?_ | refine xi_other (by decide) ?_ | refine xn_ret ?_ | refine xi_ret ?_ | refine x_skip ?_ | refine x_exit ?_ | refine x_ret ?_)
    by_cases hgo : R.light = true ∧ axOk l
    ·obtain ⟨hL, hok⟩ := hgo
     have n1 : (!true) = false := rfl
     rw [decide_eq_true hok] at w2
     refine x_region (kp := kpSweepAtLaw) mixed hC ?_
     refine go1 (jn @lR (jn @t1 (jn @w1 (jn @hL (jn @n1 (jn @t2 @w2)))))) ?_
     repeat (first | refine x_seq ?_ | refine x_block ?_ | refine xn_normal ?_ | refine xi_normal ?_ | refine xn_exit ?_ | refine xi_exit ?_ | refine xi_other (by decide) ?_ | refine xn_ret ?_ | refine xi_ret ?_ | refine x_skip ?_ | refine x_exit ?_ | refine x_ret ?_)
     refine x_cond rfl (fun hc => by cases hc) (fun hc => ?_)
     repeat (first | refine x_seq ?_ | refine x_block ?_ | refine xn_normal ?_ | refine xi_normal ?_ | refine xn_exit ?_ | refine xi_exit ?_ | refine xi_other (by decide) ?_ | refine xn_ret ?_ | refine xi_ret ?_ | refine x_skip ?_ | refine x_exit ?_ | refine x_ret ?_)
     have hlit := light_lit hL
     have hsm := lit_small hlit
     have hcomp := lit_comp hlit
     have hlens := lit_lens hlit
     have hlens0 : R.lens := by have := hlens (fun _ => none); rw [withS_none] at this; exact this
     have w4 : ∀ mm, atG [.agg R.row, .lst .no 5 (rowsAx l), .v (.int .i64 n)] mm = some (.tup [.agg (atV R l n).1.row, .v (.int .i64 (atV R l n).2)], mm) := fun mm => by
      simp only [atG, unRc_row, unsAx_rowsAx]
      exact if_pos ⟨hsm, hok⟩
     have w5 := fun mm => countG_eq (m := mm) (g := .no) hok
     have w6 : ∀ mm, same2G [.agg rc0.row, .agg rc0.row] mm = some (.v (.bool true), mm) := fun mm => same2G_eq rc0_comp
     have z7 := fun (x : Rc) => zsRc (m := m1) (x := x)
     refine x_region (kp := kpSweepAtLaw) mixed hC ?_
     refine go1 (jn @lR (jn @t4 (jn @w4 @z7))) ?_
     have hA7 := above_push (cs := (atV R l n).1.row) hA
     have v7 : (m1.push (atV R l n).1.row).var m1.vars.length = some (atV R l n).1.row := push_var
     have v37 := push_old (cs' := (atV R l n).1.row) v3
     generalize m1.push (atV R l n).1.row = m2 at hA7 v7 v37
     generalize m1.vars.length = r7 at v7
     have l7 := vrRc v7
     have l3 := vrRc v37
     repeat (first | refine x_seq ?_ | refine x_block ?_ | refine xn_normal ?_ | refine xi_normal ?_ | refine xn_exit ?_ | refine xi_exit ?_ | refine xi_other (by decide) ?_ | refine xn_ret ?_ | refine xi_ret ?_ | refine x_skip ?_ | refine x_exit ?_ | refine x_ret ?_)
     refine x_region (kp := kpSweepAtLaw) mixed hC ?_
     refine go1 (jn @t5 @w5) ?_
     repeat (first | refine x_seq ?_ | refine x_block ?_ | refine xn_normal ?_ | refine xi_normal ?_ | refine xn_exit ?_ | refine xi_exit ?_ | refine xi_other (by decide) ?_ | refine xn_ret ?_ | refine xi_ret ?_ | refine x_skip ?_ | refine x_exit ?_ | refine x_ret ?_)
     refine x_region (kp := kpSweepAtLaw) mixed hC ?_
     refine go0 ?_
     repeat (first | refine x_seq ?_ | refine x_block ?_ | refine xn_normal ?_ | refine xi_normal ?_ | refine xn_exit ?_ | refine xi_exit ?_ | refine xi_other (by decide) ?_ | refine xn_ret ?_ | refine xi_ret ?_ | refine x_skip ?_ | refine x_exit ?_ | refine x_ret ?_)
     by_cases h0 : (countV l).2 = 0
     ·obtain ⟨hb, hc1, hp⟩ := count_ok0 h0
      have b0 : ((countV l).2 != 0) = false := by rw [h0]; rfl
      refine x_cond rfl (fun hc => ?_) (fun hc => ?_)
      ·rw [b0] at hc; cases hc
      repeat (first | refine x_seq ?_ | refine x_block ?_ | refine xn_normal ?_ | refine xi_normal ?_ | refine xn_exit ?_ | refine xi_exit ?_ | refine xi_other (by decide) ?_ | refine xn_ret ?_ | refine xi_ret ?_ | refine x_skip ?_ | refine x_exit ?_ | refine x_ret ?_)
      have hch := choosy_of hb
      cases q1 : decide (n < 0) with
      | true =>
       have q0 := of_decide_eq_true q1
       have hcv : choiceV l n = ([], 3) := by
        unfold choiceV
        rw [if_neg (by simpa using h0), if_neg (by unfold inB; rw [decide_eq_true_eq]; omega)]
       have hV : atV R l n = (rc0, 3) := by unfold atV; rw [hcv]; rfl
       have e8 : (atV R l n).2 = 3 := by rw [hV]
       have e9 : ((3 : Int) == 3) = true := rfl
       rw [hV] at l7
       refine x_region (kp := kpSweepAtLaw) mixed hC ?_
       refine go1 @q1 ?_
       repeat (first | refine x_seq ?_ | refine x_block ?_ | refine xn_normal ?_ | refine xi_normal ?_ | refine xn_exit ?_ | refine xi_exit ?_ | refine xi_other (by decide) ?_ | refine xn_ret ?_ | refine xi_ret ?_ | refine x_skip ?_ | refine x_exit ?_ | refine x_ret ?_)
       refine x_cond rfl (fun hc => ?_) (fun hc => by cases hc)
       repeat (first | refine x_seq ?_ | refine x_block ?_ | refine xn_normal ?_ | refine xi_normal ?_ | refine xn_exit ?_ | refine xi_exit ?_ | refine xi_other (by decide) ?_ | refine xn_ret ?_ | refine xi_ret ?_ | refine x_skip ?_ | refine x_exit ?_ | refine x_ret ?_)
       refine x_region (kp := kpSweepAtLaw) mixed hC ?_
       refine go1 (jn @l7 (jn @t6 (jn @w6 (jn @e8 (jn @e9 (jn @t3 @yes_eq)))))) ?_
       repeat (first | refine x_seq ?_ | refine x_block ?_ | refine xn_normal ?_ | refine xi_normal ?_ | refine xn_exit ?_ | refine xi_exit ?_ | refine xi_other (by decide) ?_ | refine xn_ret ?_ | refine xi_ret ?_ | refine x_skip ?_ | refine x_exit ?_ | refine x_ret ?_)
       exact fin _ _ _ hA7 rfl
      | false =>
       have q0 := of_decide_eq_false q1
       cases q2 : decide (n ≥ (countV l).1) with
       | true =>
        have q3 := of_decide_eq_true q2
        have hcv : choiceV l n = ([], 3) := by
         unfold choiceV
         rw [if_neg (by simpa using h0), if_neg (by unfold inB; rw [decide_eq_true_eq]; omega)]
        have hV : atV R l n = (rc0, 3) := by unfold atV; rw [hcv]; rfl
        have e8 : (atV R l n).2 = 3 := by rw [hV]
        have e9 : ((3 : Int) == 3) = true := rfl
        rw [hV] at l7
        refine x_region (kp := kpSweepAtLaw) mixed hC ?_
        refine go1 (jn @q1 @q2) ?_
        repeat (first | refine x_seq ?_ | refine x_block ?_ | refine xn_normal ?_ | refine xi_normal ?_ | refine xn_exit ?_ | refine xi_exit ?_ | refine xi_other (by decide) ?_ | refine xn_ret ?_ | refine xi_ret ?_ | refine x_skip ?_ | refine x_exit ?_ | refine x_ret ?_)
        refine x_cond rfl (fun hc => ?_) (fun hc => by cases hc)
        repeat (first | refine x_seq ?_ | refine x_block ?_ | refine xn_normal ?_ | refine xi_normal ?_ | refine xn_exit ?_ | refine xi_exit ?_ | refine xi_other (by decide) ?_ | refine xn_ret ?_ | refine xi_ret ?_ | refine x_skip ?_ | refine x_exit ?_ | refine x_ret ?_)
        refine x_region (kp := kpSweepAtLaw) mixed hC ?_
        refine go1 (jn @l7 (jn @t6 (jn @w6 (jn @e8 (jn @e9 (jn @t3 @yes_eq)))))) ?_
        repeat (first | refine x_seq ?_ | refine x_block ?_ | refine xn_normal ?_ | refine xi_normal ?_ | refine xn_exit ?_ | refine xi_exit ?_ | refine xi_other (by decide) ?_ | refine xn_ret ?_ | refine xi_ret ?_ | refine x_skip ?_ | refine x_exit ?_ | refine x_ret ?_)
        exact fin _ _ _ hA7 rfl
       | false =>
        have q3 := of_decide_eq_false q2
        refine x_region (kp := kpSweepAtLaw) mixed hC ?_
        refine go1 (jn @q1 @q2) ?_
        repeat (first | refine x_seq ?_ | refine x_block ?_ | refine xn_normal ?_ | refine xi_normal ?_ | refine xn_exit ?_ | refine xi_exit ?_ | refine xi_other (by decide) ?_ | refine xn_ret ?_ | refine xi_ret ?_ | refine x_skip ?_ | refine x_exit ?_ | refine x_ret ?_)
        refine x_cond rfl (fun hc => by cases hc) (fun hc => ?_)
        repeat (first | refine x_seq ?_ | refine x_block ?_ | refine xn_normal ?_ | refine xi_normal ?_ | refine xn_exit ?_ | refine xi_exit ?_ | refine xi_other (by decide) ?_ | refine xn_ret ?_ | refine xi_ret ?_ | refine x_skip ?_ | refine x_exit ?_ | refine x_ret ?_)
        refine x_region (kp := kpSweepAtLaw) mixed hC ?_
        refine go0 ?_
        repeat (first | refine x_seq ?_ | refine x_block ?_ | refine xn_normal ?_ | refine xi_normal ?_ | refine xn_exit ?_ | refine xi_exit ?_ | refine xi_other (by decide) ?_ | refine xn_ret ?_ | refine xi_ret ?_ | refine x_skip ?_ | refine x_exit ?_ | refine x_ret ?_)
        refine x_region (kp := kpSweepAtLaw) mixed hC ?_
        refine go0 ?_
        repeat (first | refine x_seq ?_ | refine x_block ?_ | refine xn_normal ?_ | refine xi_normal ?_ | refine xn_exit ?_ | refine xi_exit ?_ | refine xi_other (by decide) ?_ | refine xn_ret ?_ | refine xi_ret ?_ | refine x_skip ?_ | refine x_exit ?_ | refine x_ret ?_)
        obtain ⟨nn, rfl⟩ := Int.eq_ofNat_of_zero_le (show 0 ≤ n by omega)
        have hnn : nn < prodL (lensA l) := by omega
        have hcv : choiceV l (nn : Int) = (choiceL l nn, 0) := by
         unfold choiceV
         rw [if_neg (by simpa using h0), if_pos (by unfold inB; rw [decide_eq_true_eq]; omega)]
         rfl
        have hcho := choice_chosen (n := nn) hb (by have := hok.1; omega)
        have k0 : ((0 : Int) == 0) = true := rfl
        have k1 : ((8 : Int) == 0) = false := rfl
        have k2 : (true != true) = false := rfl
        have k3 : (false != false) = false := rfl
        have k4 : ((0 : Int) != 0) = false := rfl
        have k5 : ((8 : Int) != 8) = false := rfl
        have k6 : ((8 : Int) == 8) = true := rfl
        have n2 : (!false) = true := rfl
        refine x_loop (fun k e m' F => ∃ (i : Nat) (u : Bool), i ≤ l.length ∧ m2 = m' ∧ (∀ k, k < i → thereB R (l.getD k ax0).pl = true) ∧ (u = true → ∀ a b, b < a → a < i → (l.getD b ax0).pl ≠ (l.getD a ax0).pl) ∧ k = l.length - i ∧
         e = [(1, AV.lst g 5 (rowsAx l)), (2, AV.v (.int .i64 (nn : Int))), (3, AV.ptr r3 0), (7, AV.ptr r7 0), (8, AV.v (.int .i64 (atV R l nn).2)), (11, AV.v (.bool u)), (12, AV.v (.int .i64 (i : Int)))]) (k := l.length) ⟨0, true, Nat.zero_le _, rfl, fun k hk => by omega, fun _ a b _ ha => by omega, rfl, rfl⟩ ?_
        rintro k e m' F ⟨i, u, hi0, rfl, hthere, hun, rfl, rfl⟩
        repeat (first | refine x_seq ?_ | refine x_block ?_ | refine xn_normal ?_ | refine xi_normal ?_ | refine xn_exit ?_ | refine xi_exit ?_ | refine xi_other (by decide) ?_ | refine xn_ret ?_ | refine xi_ret ?_ | refine x_skip ?_ | refine x_exit ?_ | refine x_ret ?_)
        refine x_region (kp := kpSweepAtLaw) mixed hC ?_
        refine go0 ?_
        repeat (first | refine x_seq ?_ | refine x_block ?_ | refine xn_normal ?_ | refine xi_normal ?_ | refine xn_exit ?_ | refine xi_exit ?_ | refine xi_other (by decide) ?_ | refine xn_ret ?_ | refine xi_ret ?_ | refine x_skip ?_ | refine x_exit ?_ | refine x_ret ?_)
        refine x_cond rfl (fun hc => ?_) (fun hc => ?_)
        ·have hi1 : i < l.length := by have := of_decide_eq_true hc; omega
         repeat (first | refine x_seq ?_ | refine x_block ?_ | refine xn_normal ?_ | refine xi_normal ?_ | refine xn_exit ?_ | refine xi_exit ?_ | refine xi_other (by decide) ?_ | refine xn_ret ?_ | refine xi_ret ?_ | refine x_skip ?_ | refine x_exit ?_ | refine x_ret ?_)
         have f1 := atAx (g := g) (kk := .i64) hi1
         have r12 := next_i64 (i := i) (by have := hok.1; omega)
         generalize hx : l.getD i ax0 = x at f1
         have pa : ∀ mm, evLoad Try.prog mm 50 (.eptr x.row) = some (.agg x.pl.row) := fun mm => leAxAt
         cases hT : thereB R x.pl with
         | false =>
          have w7 : ∀ mm, valueG [.agg R.row, .agg x.pl.row] mm = some (.tup [.v (.int .i64 0), .v (.int .i64 8)], mm) := fun mm => by rw [valueG_eq hlens0, hT]; rfl
          have w8 : ∀ mm, thereG [.agg R.row, .agg x.pl.row] mm = some (.v (.bool false), mm) := fun mm => by rw [thereG_eq hlens0, hT]
          have hV : atV R l nn = (rc0, 8) := by
           unfold atV
           rw [hcv, if_neg (by simp), if_pos]
           rw [List.all_eq_false]
           exact ⟨x, by rw [← hx, List.getD_eq_getElem?_getD, List.getElem?_eq_getElem hi1]; exact List.getElem_mem .., by rw [hT]; simp⟩
          have e8 : (atV R l nn).2 = 8 := by rw [hV]
          rw [hV] at l7
          refine x_walk0 (l2 := kpSweepAtLaw 13) mixed hC (by kernel_rfl) ?_
          refine gof1 (jn @l3 (jn @f1 (jn @pa (jn @t7 @w7)))) ?_
          repeat (first | refine x_seq ?_ | refine x_block ?_ | refine xn_normal ?_ | refine xi_normal ?_ | refine xn_exit ?_ | refine xi_exit ?_ | refine xi_other (by decide) ?_ | refine xn_ret ?_ | refine xi_ret ?_ | refine x_skip ?_ | refine x_exit ?_ | refine x_ret ?_)
          refine x_walk0 (l2 := kpSweepAtLaw 14) mixed hC (by kernel_rfl) ?_
          refine gof1 (jn @l3 (jn @f1 (jn @pa (jn @t8 @w8)))) ?_
          repeat (first | refine x_seq ?_ | refine x_block ?_ | refine xn_normal ?_ | refine xi_normal ?_ | refine xn_exit ?_ | refine xi_exit ?_ | refine xi_other (by decide) ?_ | refine xn_ret ?_ | refine xi_ret ?_ | refine x_skip ?_ | refine x_exit ?_ | refine x_ret ?_)
          refine x_walk0 (l2 := kpSweepAtLaw 15) mixed hC (by kernel_rfl) ?_
          refine gof1 (jn @k0 (jn @k1 (jn @k2 (jn @k3 (jn @k4 (jn @k5 @n2)))))) ?_
          repeat (first | refine x_seq ?_ | refine x_block ?_ | refine xn_normal ?_ | refine xi_normal ?_ | refine xn_exit ?_ | refine xi_exit ?_ | refine xi_other (by decide) ?_ | refine xn_ret ?_ | refine xi_ret ?_ | refine x_skip ?_ | refine x_exit ?_ | refine x_ret ?_)
          refine x_cond rfl (fun hc => by cases hc) (fun hc => ?_)
          repeat (first | refine x_seq ?_ | refine x_block ?_ | refine xn_normal ?_ | refine xi_normal ?_ | refine xn_exit ?_ | refine xi_exit ?_ | refine xi_other (by decide) ?_ | refine xn_ret ?_ | refine xi_ret ?_ | refine x_skip ?_ | refine x_exit ?_ | refine x_ret ?_)
          refine x_region (kp := kpSweepAtLaw) mixed hC ?_
          refine go1 @n2 ?_
          repeat (first | refine x_seq ?_ | refine x_block ?_ | refine xn_normal ?_ | refine xi_normal ?_ | refine xn_exit ?_ | refine xi_exit ?_ | refine xi_other (by decide) ?_ | refine xn_ret ?_ | refine xi_ret ?_ | refine x_skip ?_ | refine x_exit ?_ | refine x_ret ?_)
          refine x_cond rfl (fun hc => ?_) (fun hc => by cases hc)
          repeat (first | refine x_seq ?_ | refine x_block ?_ | refine xn_normal ?_ | refine xi_normal ?_ | refine xn_exit ?_ | refine xi_exit ?_ | refine xi_other (by decide) ?_ | refine xn_ret ?_ | refine xi_ret ?_ | refine x_skip ?_ | refine x_exit ?_ | refine x_ret ?_)
          refine x_region (kp := kpSweepAtLaw) mixed hC ?_
          refine go1 (jn @l7 (jn @t6 (jn @w6 (jn @e8 (jn @k6 (jn @t3 @yes_eq)))))) ?_
          repeat (first | refine x_seq ?_ | refine x_block ?_ | refine xn_normal ?_ | refine xi_normal ?_ | refine xn_exit ?_ | refine xi_exit ?_ | refine xi_other (by decide) ?_ | refine xn_ret ?_ | refine xi_ret ?_ | refine x_skip ?_ | refine x_exit ?_ | refine x_ret ?_)
          exact fin _ _ _ hA7 rfl
         | true =>
          have w7 : ∀ mm, valueG [.agg R.row, .agg x.pl.row] mm = some (.tup [.v (.int .i64 (fldN (nodeV R x.pl) x.pl.field)), .v (.int .i64 0)], mm) := fun mm => by rw [valueG_eq hlens0, hT]; rfl
          have w8 : ∀ mm, thereG [.agg R.row, .agg x.pl.row] mm = some (.v (.bool true), mm) := fun mm => by rw [thereG_eq hlens0, hT]
          have w9 := fun mm => rvalueG_eq (m := mm) hT
          generalize fldN (nodeV R x.pl) x.pl.field = v at w7 w9
          have k7 : (v != v) = false := bne_self_eq_false _
          refine x_walk0 (l2 := kpSweepAtLaw 13) mixed hC (by kernel_rfl) ?_
          refine gof1 (jn @l3 (jn @f1 (jn @pa (jn @t7 @w7)))) ?_
          repeat (first | refine x_seq ?_ | refine x_block ?_ | refine xn_normal ?_ | refine xi_normal ?_ | refine xn_exit ?_ | refine xi_exit ?_ | refine xi_other (by decide) ?_ | refine xn_ret ?_ | refine xi_ret ?_ | refine x_skip ?_ | refine x_exit ?_ | refine x_ret ?_)
          refine x_walk0 (l2 := kpSweepAtLaw 14) mixed hC (by kernel_rfl) ?_
          refine gof1 (jn @l3 (jn @f1 (jn @pa (jn @t8 @w8)))) ?_
          repeat (first | refine x_seq ?_ | refine x_block ?_ | refine xn_normal ?_ | refine xi_normal ?_ | refine xn_exit ?_ | refine xi_exit ?_ | refine xi_other (by decide) ?_ | refine xn_ret ?_ | refine xi_ret ?_ | refine x_skip ?_ | refine x_exit ?_ | refine x_ret ?_)
          refine x_walk0 (l2 := kpSweepAtLaw 15) mixed hC (by kernel_rfl) ?_
          refine gof1 (jn @l3 (jn @f1 (jn @pa (jn @t9 (jn @w9 (jn @k0 (jn @k2 (jn @k7 @n1)))))))) ?_
          repeat (first | refine x_seq ?_ | refine x_block ?_ | refine xn_normal ?_ | refine xi_normal ?_ | refine xn_exit ?_ | refine xi_exit ?_ | refine xi_other (by decide) ?_ | refine xn_ret ?_ | refine xi_ret ?_ | refine x_skip ?_ | refine x_exit ?_ | refine x_ret ?_)
          refine x_cond rfl (fun hc => by cases hc) (fun hc => ?_)
          repeat (first | refine x_seq ?_ | refine x_block ?_ | refine xn_normal ?_ | refine xi_normal ?_ | refine xn_exit ?_ | refine xi_exit ?_ | refine xi_other (by decide) ?_ | refine xn_ret ?_ | refine xi_ret ?_ | refine x_skip ?_ | refine x_exit ?_ | refine x_ret ?_)
          refine x_region (kp := kpSweepAtLaw) mixed hC ?_
          refine go1 @n1 ?_
          repeat (first | refine x_seq ?_ | refine x_block ?_ | refine xn_normal ?_ | refine xi_normal ?_ | refine xn_exit ?_ | refine xi_exit ?_ | refine xi_other (by decide) ?_ | refine xn_ret ?_ | refine xi_ret ?_ | refine x_skip ?_ | refine x_exit ?_ | refine x_ret ?_)
          refine x_cond rfl (fun hc => by cases hc) (fun hc => ?_)
          repeat (first | refine x_seq ?_ | refine x_block ?_ | refine xn_normal ?_ | refine xi_normal ?_ | refine xn_exit ?_ | refine xi_exit ?_ | refine xi_other (by decide) ?_ | refine xn_ret ?_ | refine xi_ret ?_ | refine x_skip ?_ | refine x_exit ?_ | refine x_ret ?_)
          refine x_region (kp := kpSweepAtLaw) mixed hC ?_
          refine go0 ?_
          repeat (first | refine x_seq ?_ | refine x_block ?_ | refine xn_normal ?_ | refine xi_normal ?_ | refine xn_exit ?_ | refine xi_exit ?_ | refine xi_other (by decide) ?_ | refine xn_ret ?_ | refine xi_ret ?_ | refine x_skip ?_ | refine x_exit ?_ | refine x_ret ?_)
          refine x_loop (fun k e m' F => ∃ (j : Nat) (u2 : Bool), j ≤ i ∧ m2 = m' ∧ (u2 = true → u = true ∧ ∀ b, b < j → (l.getD b ax0).pl ≠ x.pl) ∧ k = i - j ∧
           e = [(1, AV.lst g 5 (rowsAx l)), (2, AV.v (.int .i64 (nn : Int))), (3, AV.ptr r3 0), (7, AV.ptr r7 0), (8, AV.v (.int .i64 (atV R l nn).2)), (11, AV.v (.bool u2)), (12, AV.v (.int .i64 (i : Int))), (16, AV.v (.int .i64 (j : Int)))]) (k := i) ⟨0, u, Nat.zero_le _, rfl, fun h => ⟨h, fun b hb => by omega⟩, rfl, rfl⟩ ?_
          rintro k e m' F ⟨j, u2, hj0, rfl, hu2, rfl, rfl⟩
          repeat (first | refine x_seq ?_ | refine x_block ?_ | refine xn_normal ?_ | refine xi_normal ?_ | refine xn_exit ?_ | refine xi_exit ?_ | refine xi_other (by decide) ?_ | refine xn_ret ?_ | refine xi_ret ?_ | refine x_skip ?_ | refine x_exit ?_ | refine x_ret ?_)
          refine x_region (kp := kpSweepAtLaw) mixed hC ?_
          refine go0 ?_
          repeat (first | refine x_seq ?_ | refine x_block ?_ | refine xn_normal ?_ | refine xi_normal ?_ | refine xn_exit ?_ | refine xi_exit ?_ | refine xi_other (by decide) ?_ | refine xn_ret ?_ | refine xi_ret ?_ | refine x_skip ?_ | refine x_exit ?_ | refine x_ret ?_)
          refine x_cond rfl (fun hc => ?_) (fun hc => ?_)
          ·have hj1 : j < i := by have := of_decide_eq_true hc; omega
           have f2 := atAx (g := g) (kk := .i64) (l := l) (i := j) (by omega)
           have r16 := next_i64 (i := j) (by have := hok.1; omega)
           generalize hy : l.getD j ax0 = y at f2
           have pb : ∀ mm, evLoad Try.prog mm 50 (.eptr y.row) = some (.agg y.pl.row) := fun mm => leAxAt
           have e4 : eqTy Try.prog 8 50 (.agg y.pl.row) (.agg x.pl.row) = some (decide (y.pl = x.pl)) := eqPl9
           repeat (first | refine x_seq ?_ | refine x_block ?_ | refine xn_normal ?_ | refine xi_normal ?_ | refine xn_exit ?_ | refine xi_exit ?_ | refine xi_other (by decide) ?_ | refine xn_ret ?_ | refine xi_ret ?_ | refine x_skip ?_ | refine x_exit ?_ | refine x_ret ?_)
           refine x_walk0 (l2 := kpSweepAtLaw 22) mixed hC (by kernel_rfl) ?_
           have goal : ∀ u3 : Bool, (u3 = true → u2 = true ∧ y.pl ≠ x.pl) → (u3 = true → u = true ∧ ∀ b, b < j + 1 → (l.getD b ax0).pl ≠ x.pl) := fun u3 h h3 => by
            obtain ⟨h4, h5⟩ := h h3
            obtain ⟨h6, h7⟩ := hu2 h4
            refine ⟨h6, fun b hb => ?_⟩
            by_cases e : b = j
            ·rw [e, hy]; exact h5
            ·exact h7 b (by omega)
           cases u2 with
           | false =>
            refine gof0 ?_
            repeat (first | refine x_seq ?_ | refine x_block ?_ | refine xn_normal ?_ | refine xi_normal ?_ | refine xn_exit ?_ | refine xi_exit ?_ | refine xi_other (by decide) ?_ | refine xn_ret ?_ | refine xi_ret ?_ | refine x_skip ?_ | refine x_exit ?_ | refine x_ret ?_)
            refine x_region (kp := kpSweepAtLaw) mixed hC ?_
            refine go1 @r16 ?_
            repeat (first | refine x_seq ?_ | refine x_block ?_ | refine xn_normal ?_ | refine xi_normal ?_ | refine xn_exit ?_ | refine xi_exit ?_ | refine xi_other (by decide) ?_ | refine xn_ret ?_ | refine xi_ret ?_ | refine x_skip ?_ | refine x_exit ?_ | refine x_ret ?_)
            exact ⟨i - (j + 1), by omega, j + 1, false, hj1, rfl, goal false (fun h => by cases h), rfl, rfl⟩
           | true =>
            refine gof1 (jn @f1 (jn @f2 (jn @pa (jn @pb (jn @niPl @e4))))) ?_
            repeat (first | refine x_seq ?_ | refine x_block ?_ | refine xn_normal ?_ | refine xi_normal ?_ | refine xn_exit ?_ | refine xi_exit ?_ | refine xi_other (by decide) ?_ | refine xn_ret ?_ | refine xi_ret ?_ | refine x_skip ?_ | refine x_exit ?_ | refine x_ret ?_)
            refine x_region (kp := kpSweepAtLaw) mixed hC ?_
            refine go1 @r16 ?_
            repeat (first | refine x_seq ?_ | refine x_block ?_ | refine xn_normal ?_ | refine xi_normal ?_ | refine xn_exit ?_ | refine xi_exit ?_ | refine xi_other (by decide) ?_ | refine xn_ret ?_ | refine xi_ret ?_ | refine x_skip ?_ | refine x_exit ?_ | refine x_ret ?_)
            exact ⟨i - (j + 1), by omega, j + 1, _, hj1, rfl, goal _ (fun h => ⟨rfl, by simpa using h⟩), rfl, rfl⟩
          ·obtain rfl : j = i := by have := of_decide_eq_false hc; omega
           repeat (first | refine x_seq ?_ | refine x_block ?_ | refine xn_normal ?_ | refine xi_normal ?_ | refine xn_exit ?_ | refine xi_exit ?_ | refine xi_other (by decide) ?_ | refine xn_ret ?_ | refine xi_ret ?_ | refine x_skip ?_ | refine x_exit ?_ | refine x_ret ?_)
           refine x_region (kp := kpSweepAtLaw) mixed hC ?_
           refine go1 @r12 ?_
           repeat (first | refine x_seq ?_ | refine x_block ?_ | refine xn_normal ?_ | refine xi_normal ?_ | refine xn_exit ?_ | refine xi_exit ?_ | refine xi_other (by decide) ?_ | refine xn_ret ?_ | refine xi_ret ?_ | refine x_skip ?_ | refine x_exit ?_ | refine x_ret ?_)
           refine ⟨l.length - (j + 1), by omega, j + 1, u2, hi1, rfl, fun k hk => ?_, fun h a b hb ha => ?_, rfl, rfl⟩
           ·by_cases e : k = j
            ·rw [e, hx]; exact hT
            ·exact hthere k (by omega)
           ·obtain ⟨h6, h7⟩ := hu2 h
            by_cases e : a = j
            ·subst e
             rw [hx]
             exact h7 b hb
            ·exact hun h6 a b hb (by omega)
        ·obtain rfl : i = l.length := by have := of_decide_eq_false hc; omega
         repeat (first | refine x_seq ?_ | refine x_block ?_ | refine xn_normal ?_ | refine xi_normal ?_ | refine xn_exit ?_ | refine xi_exit ?_ | refine xi_other (by decide) ?_ | refine xn_ret ?_ | refine xi_ret ?_ | refine x_skip ?_ | refine x_exit ?_ | refine x_ret ?_)
         have hall : ∀ n, n < l.length → thereB R (l.getD n ax0).pl = true := hthere
         have hV : atV R l nn = (withS R (lastV l (choiceL l nn) l.length), 0) := by
          unfold atV
          rw [hcv, if_neg (by simp), if_neg]
          ·rfl
          ·rw [Bool.not_eq_false, List.all_eq_true]
           intro x hx
           obtain ⟨i, hi, rfl⟩ := List.mem_iff_getElem.1 hx
           have := hall i hi
           rw [List.getD_eq_getElem?_getD, List.getElem?_eq_getElem hi] at this
           exact this
         have e8 : (atV R l nn).2 = 0 := by rw [hV]
         rw [hV] at l7
         have wa := fun mm => rchoiceG_eq (m := mm) (g := .no) (n := nn) hch (by omega)
         have wb : ∀ mm, rdocG [.agg R.row, .lst .no 5 (rowsAx l), .lst .no 1 (rowsI (choiceL l nn))] mm = some (.agg (withS R (lastV l (choiceL l nn) l.length)).row, mm) := fun mm => by
          simp only [rdocG, unRc_row, unsAx_rowsAx, unJ_rowsI]
          exact if_pos ⟨hsm, hcho, hall⟩
         have hcS := hcomp (lastV l (choiceL l nn) l.length)
         have hlS := hlens (lastV l (choiceL l nn) l.length)
         have hval : u = true → ∀ i, i < l.length → thereB (withS R (lastV l (choiceL l nn) l.length)) (l.getD i ax0).pl = true ∧ fldN (nodeV (withS R (lastV l (choiceL l nn) l.length)) (l.getD i ax0).pl) (l.getD i ax0).pl.field = valC l (choiceL l nn) i := fun hu i hi =>
          ⟨by rw [withS_there]; exact hall i hi, withS_val (hall i hi) (lastV_at (hun hu) hi l.length hi (Nat.le_refl _))⟩
         generalize withS R (lastV l (choiceL l nn) l.length) = X at l7 wb hcS hlS hval
         have wc := fun mm => same2G_eq (m := mm) hcS
         obtain ⟨_, hcl, hcin⟩ := hcho
         have hvd : ∀ i, valC l (choiceL l nn) i = (l.getD i ax0).vals.getD ((choiceL l nn).getD i 0).toNat 0 := fun i => rfl
         generalize valC l (choiceL l nn) = vc at hval hvd
         generalize choiceL l nn = C at wa wb hcl hcin hvd
         refine x_region (kp := kpSweepAtLaw) mixed hC ?_
         refine go1 (jn @ta @wa) ?_
         repeat (first | refine x_seq ?_ | refine x_block ?_ | refine xn_normal ?_ | refine xi_normal ?_ | refine xn_exit ?_ | refine xi_exit ?_ | refine xi_other (by decide) ?_ | refine xn_ret ?_ | refine xi_ret ?_ | refine x_skip ?_ | refine x_exit ?_ | refine x_ret ?_)
         refine x_walk0 (l2 := kpSweepAtLaw 24) mixed hC (by kernel_rfl) ?_
         refine gof1 (jn @e8 (jn @k4 (jn @l7 (jn @l3 (jn @tb (jn @wb (jn @t6 (jn @wc @n1)))))))) ?_
         repeat (first | refine x_seq ?_ | refine x_block ?_ | refine xn_normal ?_ | refine xi_normal ?_ | refine xn_exit ?_ | refine xi_exit ?_ | refine xi_other (by decide) ?_ | refine xn_ret ?_ | refine xi_ret ?_ | refine x_skip ?_ | refine x_exit ?_ | refine x_ret ?_)
         refine x_cond rfl (fun hc => by cases hc) (fun hc => ?_)
         repeat (first | refine x_seq ?_ | refine x_block ?_ | refine xn_normal ?_ | refine xi_normal ?_ | refine xn_exit ?_ | refine xi_exit ?_ | refine xi_other (by decide) ?_ | refine xn_ret ?_ | refine xi_ret ?_ | refine x_skip ?_ | refine x_exit ?_ | refine x_ret ?_)
         refine x_region (kp := kpSweepAtLaw) mixed hC ?_
         refine go0 ?_
         repeat (first | refine x_seq ?_ | refine x_block ?_ | refine xn_normal ?_ | refine xi_normal ?_ | refine xn_exit ?_ | refine xi_exit ?_ | refine xi_other (by decide) ?_ | refine xn_ret ?_ | refine xi_ret ?_ | refine x_skip ?_ | refine x_exit ?_ | refine x_ret ?_)
         refine x_loop (fun k e m' F => ∃ (i : Nat), i ≤ l.length ∧ m2 = m' ∧ k = l.length - i ∧
          e = [(1, AV.lst g 5 (rowsAx l)), (7, AV.ptr r7 0), (11, AV.v (.bool u)), (17, AV.lst .no 1 (rowsI C)), (18, AV.v (.int .i64 (i : Int)))]) (k := l.length) ⟨0, Nat.zero_le _, rfl, rfl, rfl⟩ ?_
         rintro k e m' F ⟨i, hi0, rfl, rfl, rfl⟩
         repeat (first | refine x_seq ?_ | refine x_block ?_ | refine xn_normal ?_ | refine xi_normal ?_ | refine xn_exit ?_ | refine xi_exit ?_ | refine xi_other (by decide) ?_ | refine xn_ret ?_ | refine xi_ret ?_ | refine x_skip ?_ | refine x_exit ?_ | refine x_ret ?_)
         refine x_region (kp := kpSweepAtLaw) mixed hC ?_
         cases q5 : decide ((i : Int) < (l.length : Int)) with
         | false =>
          refine go1 @q5 ?_
          repeat (first | refine x_seq ?_ | refine x_block ?_ | refine xn_normal ?_ | refine xi_normal ?_ | refine xn_exit ?_ | refine xi_exit ?_ | refine xi_other (by decide) ?_ | refine xn_ret ?_ | refine xi_ret ?_ | refine x_skip ?_ | refine x_exit ?_ | refine x_ret ?_)
          refine x_cond rfl (fun hc => by cases hc) (fun hc => ?_)
          repeat (first | refine x_seq ?_ | refine x_block ?_ | refine xn_normal ?_ | refine xi_normal ?_ | refine xn_exit ?_ | refine xi_exit ?_ | refine xi_other (by decide) ?_ | refine xn_ret ?_ | refine xi_ret ?_ | refine x_skip ?_ | refine x_exit ?_ | refine x_ret ?_)
          refine x_region (kp := kpSweepAtLaw) mixed hC ?_
          refine go1 (jn @t3 @yes_eq) ?_
          repeat (first | refine x_seq ?_ | refine x_block ?_ | refine xn_normal ?_ | refine xi_normal ?_ | refine xn_exit ?_ | refine xi_exit ?_ | refine xi_other (by decide) ?_ | refine xn_ret ?_ | refine xi_ret ?_ | refine x_skip ?_ | refine x_exit ?_ | refine x_ret ?_)
          exact fin _ _ _ hA7 rfl
         | true =>
          have hi1 : i < l.length := by have := of_decide_eq_true q5; omega
          refine go1 @q5 ?_
          repeat (first | refine x_seq ?_ | refine x_block ?_ | refine xn_normal ?_ | refine xi_normal ?_ | refine xn_exit ?_ | refine xi_exit ?_ | refine xi_other (by decide) ?_ | refine xn_ret ?_ | refine xi_ret ?_ | refine x_skip ?_ | refine x_exit ?_ | refine x_ret ?_)
          refine x_cond rfl (fun hc => ?_) (fun hc => ?_)
          ·have hu : u = true := hc
           repeat (first | refine x_seq ?_ | refine x_block ?_ | refine xn_normal ?_ | refine xi_normal ?_ | refine xn_exit ?_ | refine xi_exit ?_ | refine xi_other (by decide) ?_ | refine xn_ret ?_ | refine xi_ret ?_ | refine x_skip ?_ | refine x_exit ?_ | refine x_ret ?_)
           have f1 := atAx (g := g) (kk := .i64) hi1
           have f2 := atInts (g := .no) (kk := .i64) (l := C) (i := i) (by omega)
           have r18 := next_i64 (i := i) (by have := hok.1; omega)
           obtain ⟨hT, hF⟩ := hval hu i hi1
           obtain ⟨hc1, hc2⟩ := hcin i hi1
           have hv := hvd i
           generalize l.getD i ax0 = x at f1 hT hF hc2 hv
           generalize C.getD i 0 = ci at f2 hc1 hc2 hv
           obtain ⟨j, rfl⟩ := Int.eq_ofNat_of_zero_le hc1
           have f3 := atInts (g := .no) (kk := .i64) (l := x.vals) (i := j) (by omega)
           rw [Int.toNat_natCast] at hv
           rw [← hv] at f3
           have pa : ∀ mm, evLoad Try.prog mm 50 (.eptr x.row) = some (.agg x.pl.row) := fun mm => leAxAt
           have w7 : ∀ mm, valueG [.agg X.row, .agg x.pl.row] mm = some (.tup [.v (.int .i64 (vc i)), .v (.int .i64 0)], mm) := fun mm => by rw [valueG_eq hlS, hT, hF]; rfl
           have k7 : (vc i != vc i) = false := bne_self_eq_false _
           refine x_walk0 (l2 := kpSweepAtLaw 29) mixed hC (by kernel_rfl) ?_
           refine gof1 (jn @l7 (jn @f1 (jn @pa (jn @t7 @w7)))) ?_
           repeat (first | refine x_seq ?_ | refine x_block ?_ | refine xn_normal ?_ | refine xi_normal ?_ | refine xn_exit ?_ | refine xi_exit ?_ | refine xi_other (by decide) ?_ | refine xn_ret ?_ | refine xi_ret ?_ | refine x_skip ?_ | refine x_exit ?_ | refine x_ret ?_)
           refine x_walk0 (l2 := kpSweepAtLaw 30) mixed hC (by kernel_rfl) ?_
           refine gof1 (jn @k4 (jn @f1 (jn @f2 (jn @f3 @k7)))) ?_
           repeat (first | refine x_seq ?_ | refine x_block ?_ | refine xn_normal ?_ | refine xi_normal ?_ | refine xn_exit ?_ | refine xi_exit ?_ | refine xi_other (by decide) ?_ | refine xn_ret ?_ | refine xi_ret ?_ | refine x_skip ?_ | refine x_exit ?_ | refine x_ret ?_)
           refine x_cond rfl (fun hc => by cases hc) (fun hc => ?_)
           repeat (first | refine x_seq ?_ | refine x_block ?_ | refine xn_normal ?_ | refine xi_normal ?_ | refine xn_exit ?_ | refine xi_exit ?_ | refine xi_other (by decide) ?_ | refine xn_ret ?_ | refine xi_ret ?_ | refine x_skip ?_ | refine x_exit ?_ | refine x_ret ?_)
           refine x_region (kp := kpSweepAtLaw) mixed hC ?_
           refine go1 @r18 ?_
           repeat (first | refine x_seq ?_ | refine x_block ?_ | refine xn_normal ?_ | refine xi_normal ?_ | refine xn_exit ?_ | refine xi_exit ?_ | refine xi_other (by decide) ?_ | refine xn_ret ?_ | refine xi_ret ?_ | refine x_skip ?_ | refine x_exit ?_ | refine x_ret ?_)
           exact ⟨l.length - (i + 1), by omega, i + 1, hi1, rfl, rfl, rfl⟩
          ·repeat (first | refine x_seq ?_ | refine x_block ?_ | refine xn_normal ?_ | refine xi_normal ?_ | refine xn_exit ?_ | refine xi_exit ?_ | refine xi_other (by decide) ?_ | refine xn_ret ?_ | refine xi_ret ?_ | refine x_skip ?_ | refine x_exit ?_ | refine x_ret ?_)
           refine x_region (kp := kpSweepAtLaw) mixed hC ?_
           refine go1 (jn @t3 @yes_eq) ?_
           repeat (first | refine x_seq ?_ | refine x_block ?_ | refine xn_normal ?_ | refine xi_normal ?_ | refine xn_exit ?_ | refine xi_exit ?_ | refine xi_other (by decide) ?_ | refine xn_ret ?_ | refine xi_ret ?_ | refine x_skip ?_ | refine x_exit ?_ | refine x_ret ?_)
           exact fin _ _ _ hA7 rfl
     ·have b0 : ((countV l).2 != 0) = true := by simpa using h0
      have hc2 : (choiceV l n).2 = (countV l).2 := by unfold choiceV; rw [if_pos h0]
      have hV : atV R l n = (rc0, (countV l).2) := by unfold atV; rw [if_pos (by rw [hc2]; exact h0), hc2]
      have e8 : (atV R l n).2 = (countV l).2 := by rw [hV]
      have e9 : ((countV l).2 == (countV l).2) = true := beq_self_eq_true _
      rw [hV] at l7
      refine x_cond rfl (fun hc => ?_) (fun hc => ?_)
      ·repeat (first | refine x_seq ?_ | refine x_block ?_ | refine xn_normal ?_ | refine xi_normal ?_ | refine xn_exit ?_ | refine xi_exit ?_ | refine xi_other (by decide) ?_ | refine xn_ret ?_ | refine xi_ret ?_ | refine x_skip ?_ | refine x_exit ?_ | refine x_ret ?_)
       refine x_region (kp := kpSweepAtLaw) mixed hC ?_
       refine go1 (jn @l7 (jn @t6 (jn @w6 (jn @e8 (jn @e9 (jn @t3 @yes_eq)))))) ?_
       repeat (first | refine x_seq ?_ | refine x_block ?_ | refine xn_normal ?_ | refine xi_normal ?_ | refine xn_exit ?_ | refine xi_exit ?_ | refine xi_other (by decide) ?_ | refine xn_ret ?_ | refine xi_ret ?_ | refine x_skip ?_ | refine x_exit ?_ | refine x_ret ?_)
       exact fin _ _ _ hA7 rfl
      ·rw [b0] at hc; cases hc
    ·refine x_region (kp := kpSweepAtLaw) mixed hC ?_
     cases hL : R.light with
     | false =>
      have n1 : (!false) = true := rfl
      refine go1 (jn @lR (jn @t1 (jn @w1 (jn @hL @n1)))) ?_
      repeat (first | refine x_seq ?_ | refine x_block ?_ | refine xn_normal ?_ | refine xi_normal ?_ | refine xn_exit ?_ | refine xi_exit ?_ | refine xi_other (by decide) ?_ | refine xn_ret ?_ | refine xi_ret ?_ | refine x_skip ?_ | refine x_exit ?_ | refine x_ret ?_)
      refine x_cond rfl (fun hc => ?_) (fun hc => by cases hc)
      repeat (first | refine x_seq ?_ | refine x_block ?_ | refine xn_normal ?_ | refine xi_normal ?_ | refine xn_exit ?_ | refine xi_exit ?_ | refine xi_other (by decide) ?_ | refine xn_ret ?_ | refine xi_ret ?_ | refine x_skip ?_ | refine x_exit ?_ | refine x_ret ?_)
      refine x_region (kp := kpSweepAtLaw) mixed hC ?_
      refine go1 (jn @t3 @yes_eq) ?_
      repeat (first | refine x_seq ?_ | refine x_block ?_ | refine xn_normal ?_ | refine xi_normal ?_ | refine xn_exit ?_ | refine xi_exit ?_ | refine xi_other (by decide) ?_ | refine xn_ret ?_ | refine xi_ret ?_ | refine x_skip ?_ | refine x_exit ?_ | refine x_ret ?_)
      exact fin _ _ _ hA rfl
     | true =>
      have n1 : (!true) = false := rfl
      have n2 : (!false) = true := rfl
      rw [decide_eq_false (fun h => hgo ⟨hL, h⟩)] at w2
      refine go1 (jn @lR (jn @t1 (jn @w1 (jn @hL (jn @n1 (jn @t2 (jn @w2 @n2))))))) ?_
      repeat (first | refine x_seq ?_ | refine x_block ?_ | refine xn_normal ?_ | refine xi_normal ?_ | refine xn_exit ?_ | refine xi_exit ?_ | refine xi_other (by decide) ?_ | refine xn_ret ?_ | refine xi_ret ?_ | refine x_skip ?_ | refine x_exit ?_ | refine x_ret ?_)
      refine x_cond rfl (fun hc => ?_) (fun hc => by cases hc)
      repeat (first | refine x_seq ?_ | refine x_block ?_ | refine xn_normal ?_ | refine xi_normal ?_ | refine xn_exit ?_ | refine xi_exit ?_ | refine xi_other (by decide) ?_ | refine xn_ret ?_ | refine xi_ret ?_ | refine x_skip ?_ | refine x_exit ?_ | refine x_ret ?_)
      refine x_region (kp := kpSweepAtLaw) mixed hC ?_
      refine go1 (jn @t3 @yes_eq) ?_
      repeat (first | refine x_seq ?_ | refine x_block ?_ | refine xn_normal ?_ | refine xi_normal ?_ | refine xn_exit ?_ | refine xi_exit ?_ | refine xi_other (by decide) ?_ | refine xn_ret ?_ | refine xi_ret ?_ | refine x_skip ?_ | refine x_exit ?_ | refine x_ret ?_)
      exact fin _ _ _ hA rfl
   ·cases h
  ·cases h
 ·cases h
end
end Go.Proofs.Ytmockbddhhmmeaa.Ev
namespace Go.Proofs.Ytmockbddhhmmeaa.sweepAt
open Go Go.Proofs Go.ChangeShapes Go.WideShapes Go.ChangeAt Go.RowKit
set_option linter.unusedVariables false
theorem own : ownKnob Try.prog.godebug = none := by kernel_rfl
theorem laid : laidOutB Try.prog = true := by kernel_rfl
theorem same_left {H : Type} : ∀ ds : List (DataW H), ds.length = 3 → Rows.sweepAtSpec.fn H ds = { results := [.lit (.bool true)], args := ds }
 | [d0, d1, d2], _ => rfl
set_option maxRecDepth 100000 in
theorem holds_at : ∀ vs, Ev.TypedAll Try.prog 12 [37, 38, 3] vs → ∃ m', Ev.sweepAtLawG true vs ⟨[], []⟩ = some (.v (.bool true), m') := by
 rintro (_ | ⟨a, _ | ⟨b, _ | ⟨c, _ | ⟨x, r⟩⟩⟩⟩) h
 ·exact h.elim
 ·exact h.2.elim
 ·exact h.2.2.elim
 ·obtain ⟨h0, h1, h2, _⟩ := h
  obtain ⟨R, hw, _, rfl⟩ := Ev.arg_rc h0
  obtain ⟨l, rfl⟩ := Ev.arg_axs h1
  obtain ⟨n, rfl, n0, n1⟩ := Ev.arg_int Try.underlying3 h2
  refine ⟨⟨[], []⟩, ?_⟩
  simp only [Ev.sweepAtLawG, Ev.unRc_row, Ev.unsAx_rowsAx]
  exact if_pos ⟨trivial, by simpa [Ev.inI, IntKind.min, IntKind.max, IntKind.signed, IntKind.bits] using And.intro n0 n1⟩
 ·exact h.2.2.2.elim
set_option maxRecDepth 100000 in
theorem lifted (os : Os) (started : os.Started) (H : Type) (enc : TypeId × Value → H) :
  ReturnsInHanded {} Try.checked os 3 .any (Rows.sweepAtSpec.pre6 enc Try.prog Try.f3 Rows.sweepAtRow.domain false) (Rows.sweepAtSpec.post enc Try.prog Try.f3 false true false false) :=
 Ev.law_lifted (C := Try.checked) own started (by kernel_rfl) Try.func3
  (ChangeSpec.witness6 (enc := enc) (C := Try.checked) false ⟨#[], #[.agg #[.string ⟨#[]⟩, .int .i64 0, .int .i64 0, .int .i64 0, .slice none 0 0, .slice none 0 0, .int .i64 0, .slice none 0 0, .bool false, .string ⟨#[]⟩, .bool false, .int .i64 0, .int .i64 0, .bool false, .bool false, .string ⟨#[]⟩, .bool false, .int .i64 0, .int .i64 0, .int .i64 0, .int .i64 0, .int .i64 0, .bool false, .string ⟨#[]⟩, .bool false, .int .i64 0, .bool false, .int .i64 0, .bool false, .int .i64 0, .int .i64 0, .int .i64 0], .slice none 0 0, .int .i64 0], []⟩ 8 (by kernel_rfl) (by kernel_rfl) (by kernel_rfl) (by kernel_rfl))
  laid rfl [37, 38, 3] Try.params3 12 (by kernel_rfl) (tb := 4) rfl Try.underlying4 same_left Ev.sweepAtLaw_ok holds_at
theorem over : Rows.sweepAtRow.holds Try.pinned (OpenSpec.ofChange Rows.sweepAtSpec) :=
 OpenClaim.holds_of_wide 3 Try.f3 rfl rfl rfl rfl rfl rfl rfl ⟨rfl, rfl, rfl, rfl, rfl⟩ rfl rfl rfl rfl rfl (by kernel_rfl) Try.func3 (by kernel_rfl)
  (of_decide_eq_true (by kernel_rfl)) (by unfold Func.isWrapper; first | (rw [if_pos (by decide +kernel)]; kernel_rfl) | (rw [if_neg (by decide +kernel)]; exact ⟨rfl, rfl⟩))
  (fun os started H enc _ => lifted os started H enc)
theorem proved : Rows.SweepAtSaid := over
end Go.Proofs.Ytmockbddhhmmeaa.sweepAt
namespace Go.Proofs.Ytmockbddhhmmeaa
/-- The row, under a short name, for the claim. -/
theorem sweepAt_holds : Rows.SweepAtSaid := sweepAt.proved
end Go.Proofs.Ytmockbddhhmmeaa
