/- What a recipe must keep to: the sum; all rules. (Written out by wip/tools/gen_rulesz.py.) -/
import Derived.Test.YtojaokhkbmiidaaGreatMbehb7
namespace Go.Proofs.YtojaokhkbmiidaaGreat.Ev
open Go Go.Proofs
set_option maxRecDepth 10000
set_option maxHeartbeats 8000000
set_option linter.unusedVariables false
set_option linter.unusedSimpArgs false
section
attribute [local irreducible] Next Inside Runs Ops table
attribute [local go_sem] szStr szInt Option.getD_some isNil evStr iv loadStr loadInt rowsS_len rowsN_len rowsGs_len rowsPh_len rowsFl_len mapGs mapPh mapRc ldNode ldGs ldPh cellsGs cellsPh cellsRc cellsRl newGs newPh newRc zrPh zoPh znPh zsPh fpPhLen fpPhLenU fpRcSteps fpRcEpoch fpRcWeights fpRcMetrics fpRcGroups fpRcEval fpRcPhases fpRlList
theorem stepsP_in {u n of ep : Int} : 0 ≤ (stepsP u n of ep).1 ∧ (stepsP u n of ep).1 ≤ 1099511627776 := by
 unfold stepsP
 split
 ·rename_i h
  have := lenV_in h.1 h.2.1 h.2.2
  split
  ·simp
  ·simp only
   omega
 ·simp
theorem accS_in (R : Rc) : ∀ i : Nat, 0 ≤ accS R i ∧ accS R i ≤ (i : Int) * 1099511627776
 | 0 => by simp [accS]
 | i + 1 => by
  have h1 := accS_in R i
  have h2 := stepsP_in (u := (R.phases.getD i ph0).lenU) (n := (R.phases.getD i ph0).lenN) (of := R.steps) (ep := R.epoch)
  have e : accS R (i + 1) = accS R i + (R.stepsOf (R.phases.getD i ph0)).1 := rfl
  rw [show stepsP (R.phases.getD i ph0).lenU (R.phases.getD i ph0).lenN R.steps R.epoch = R.stepsOf (R.phases.getD i ph0) from rfl] at h2
  rw [e]
  omega
theorem leaves_out {P : Program} {fn : Func} {m m' m2 : Mem} {e : Env} (h : fn.results = #[]) (hm : finMem m m' = m2) : Leaves P false fn m (.tup [], m2) .ret e m' := by
 show evRet P false fn m e m' = _
 unfold evRet
 rw [h]
 simp [hm]
def sumG : List AV → Mem → Option (AV × Mem)
 | [.ptr r 0, .agg cs], m =>
  match unRc cs, m.var r with
  | some R, some [.v (.int .i64 rule), .lst .full 3 []] => if R.small ∧ R.fit then some (.tup [], flMem m r rule (sumL rule R)) else none
  | _, _ => none
 | _, _ => none
theorem sumG_at {m : Mem} {r : Nat} {rule : Int} {R : Rc} (hv : m.var r = some [.v (.int .i64 rule), .lst .full 3 []]) (h : R.small) (h1 : R.fit) : sumG [.ptr r 0, .agg R.row] m = some (.tup [], flMem m r rule (sumL rule R)) := by
 simp only [sumG, unRc_row, hv]
 rw [if_pos ⟨h, h1⟩]
def kpRSum : Nat → Option (List Nat) := fun
 | 0 => some [0, 3]
 | 1 => some [0, 3, 22]
 | 2 => some [0, 3, 4, 5]
 | 3 => some [0, 3, 4, 5, 24, 25, 26]
 | 4 => some [0, 3, 4, 5, 24, 25, 26, 27]
 | 5 => some [0, 3, 4, 7, 24, 25, 26]
 | 6 => some [0, 3, 4, 5, 7, 24, 25, 26]
 | 7 => some [0, 3, 4, 5, 7, 24, 25, 26, 34]
 | 8 => some [0, 3, 4, 5, 8, 24, 25, 26]
 | 9 => some [0, 3, 4, 5, 24, 25, 26]
 | 10 => some [0, 3, 4, 5, 24, 25, 26]
 | 11 => some []
 | _ => none
attribute [go_sem] kpRSum
def tab_sum_ok : List (FuncId × (List AV → Mem → Option (AV × Mem))) := [(131, kept0G), (48, stepsLG), (78, noteG)]
theorem sum_ok : FunOk Tryz.prog 84 sumG := by
 have hC := table_ok (P := Tryz.prog) (l := tab_sum_ok) (table_more kept0_ok (table_more stepsL_ok (table_more note_ok table_nil)))
 have t1 := fun args mm => table_at (l := tab_sum_ok) (f := 131) (args := args) (m := mm) rfl
 have t2 := fun args mm => table_at (l := tab_sum_ok) (f := 48) (args := args) (m := mm) rfl
 have t3 := fun args mm => table_at (l := tab_sum_ok) (f := 78) (args := args) (m := mm) rfl
 refine fun_ok mixed hC Tryz.func84 rfl kpRSum false rfl fun args m r h => ?_
 unfold sumG at h
 split at h
 ·rename_i r0 cs
  split at h
  ·rename_i R rule hR hv
   obtain rfl := unRc_some hR
   split at h
   ·rename_i hyp
    obtain ⟨hsm, hfit⟩ := hyp
    simp only [Option.some.injEq] at h
    subst h
    have hr0 := (var_lt hv).1
    have hP64 := hsm.2.2.1
    refine ⟨Nat.le_of_ble_eq_true rfl, ?_⟩
    refine en ?_
    have hA0 : Above (flMem m r0 rule []) (m.push R.row) := by rw [flMem_nil]; exact above_push (above_self m)
    have hv3 : (m.push R.row).var m.vars.length = some R.row := push_var
    have l0 := vrRc hv3
    have l1 := lpRcPhases hv3
    have c1 := fun mm => kept0G_at (m := mm) (rule := 1) hsm hfit (.inl rfl)
    have c2 := fun mm => kept0G_at (m := mm) (rule := 2) hsm hfit (.inr (.inl rfl))
    have c8 := fun mm => kept0G_at (m := mm) (rule := 8) hsm hfit (.inr (.inr rfl))
    have eS : sumL rule R = if R.kept 1 && (R.kept 2 && R.kept 8) then flawIf R.sumBad rule 0 0 else [] := rfl
    have w1 : (!true) = false := rfl
    have w2 : (!false) = true := rfl
    rw [eS]
    have out : ∀ e : Env, Leaves Tryz.prog false Tryz.f84 m (.tup [], flMem m r0 rule []) .ret e (m.push R.row) := fun e => by
     rw [flMem_nil]
     exact leaves_out rfl fin_push
    cases q1 : R.kept 1 with
    | false =>
     rw [q1] at c1
     repeat' (first | refine gos1 (jn @l0 (jn @t1 (jn @c1 @w2))) ?_ | (refine ops_here ?_; (fail_if_success (refine ops_case (B := true) rfl rfl rfl ?_ ?_)); (fail_if_success (refine ops_case (B := false) rfl rfl rfl ?_ ?_)); refine ops_case rfl rfl rfl (fun hB => ?_) (fun hB => ?_) <;> rw [hB]) | (refine runs_here ?_; refine runs_cond rfl (fun hc => ?_) (fun hc => ?_) <;> first | (cases hc; done) | skip))
     exact out _
    | true =>
     rw [q1] at c1
     cases q2 : R.kept 2 with
     | false =>
      rw [q2] at c2
      repeat' (first | refine gos1 (jn @l0 (jn @t1 (jn @c1 (jn @c2 (jn @w1 @w2))))) ?_ | (refine ops_here ?_; (fail_if_success (refine ops_case (B := true) rfl rfl rfl ?_ ?_)); (fail_if_success (refine ops_case (B := false) rfl rfl rfl ?_ ?_)); refine ops_case rfl rfl rfl (fun hB => ?_) (fun hB => ?_) <;> rw [hB]) | (refine runs_here ?_; refine runs_cond rfl (fun hc => ?_) (fun hc => ?_) <;> first | (cases hc; done) | skip))
      exact out _
     | true =>
      rw [q2] at c2
      cases q8 : R.kept 8 with
      | false =>
       rw [q8] at c8
       repeat' (first | refine gos1 (jn @l0 (jn @t1 (jn @c1 (jn @c2 (jn @c8 (jn @w1 @w2)))))) ?_ | (refine ops_here ?_; (fail_if_success (refine ops_case (B := true) rfl rfl rfl ?_ ?_)); (fail_if_success (refine ops_case (B := false) rfl rfl rfl ?_ ?_)); refine ops_case rfl rfl rfl (fun hB => ?_) (fun hB => ?_) <;> rw [hB]) | (refine runs_here ?_; refine runs_cond rfl (fun hc => ?_) (fun hc => ?_) <;> first | (cases hc; done) | skip))
       exact out _
      | true =>
       rw [q8] at c8
       rw [if_pos (show (true && (true && true)) = true from rfl)]
       refine go1 (jn @l0 (jn @t1 (jn @c1 (jn @c2 (jn @c8 (jn @w1 @w2)))))) ?_
       refine runs_cond rfl (fun hc => by cases hc) (fun hc => ?_)
       refine go1 @l1 ?_
       have fin : ∀ (e : Env) (m2 : Mem) (b : Bool), Above (flMem m r0 rule (if b then [] ++ [⟨rule, 0, 0⟩] else [])) m2 → R.sumBad = b → Leaves Tryz.prog false Tryz.f84 m (.tup [], flMem m r0 rule (flawIf R.sumBad rule 0 0)) .normal e m2 := fun e m2 b hA2 hb => by
        rw [flawIf_app, ← hb, List.nil_append] at hA2
        exact leaves_none rfl (fin_flMem hv hA2)
       refine runs_loop (fun k e m' => ∃ (i : Nat), i ≤ R.phases.length ∧ Above (flMem m r0 rule []) m' ∧ m'.var m.vars.length = some R.row ∧ firstBy restP (R.phases.drop i) i = firstBy restP R.phases 0 ∧ k = R.phases.length - i ∧
        e = [(0, AV.ptr r0 0), (3, .ptr m.vars.length 0), (4, .v (.int .i64 (accS R i))), (5, .v (.bool false)), (24, .lst .no 5 (rowsPh R.phases)), (25, .v (.int .i64 (R.phases.length : Int))), (26, .v (.int .i64 (i : Int)))]) (k := R.phases.length)
        ⟨0, Nat.zero_le _, hA0, hv3, rfl, rfl, rfl⟩ ?_
       rintro k e m' ⟨i, hi0, hA, hw3, hf, rfl, rfl⟩
       refine go0 ?_
       refine runs_cond rfl (fun hc => ?_) (fun hc => ?_)
       ·have hi1 : i < R.phases.length := by have := of_decide_eq_true hc; omega
        have f2 := atPh (g := .no) (kk := .i64) hi1
        have eA : accS R (i + 1) = accS R i + (R.stepsOf (R.phases.getD i ph0)).1 := rfl
        have hin := accS_in R (i + 1)
        have hyes := fun hp => by_yes (d := ph0) hi1 hp hf
        have hno := fun hp => by_no (d := ph0) hi1 hp hf
        generalize R.phases.getD i ph0 = p at f2 eA hyes hno
        have hA1 := above_push (cs := p.row) hA
        have hp5 : (m'.push p.row).var m'.vars.length = some p.row := push_var
        have hw5 := push_old (cs' := p.row) hw3
        have y1 := lpPhLenU hp5
        have y2 := lpPhLen hp5
        have y4 := lpRcSteps hw5
        have y5 := lpRcEpoch hw5
        have r6 := next_i64 (i := i) (by omega)
        cases h3 : (p.lenU == 3) with
        | true =>
         have hx := hyes h3
         obtain ⟨m2, n1, n2, n3⟩ := note_step hv hA1 (by decide) (decide (accS R i ≥ R.steps)) 0 0
         have hb : R.sumBad = decide (accS R i ≥ R.steps) := by
          unfold Rc.sumBad
          rw [hx, if_neg (by omega), Int.toNat_natCast]
         refine go1 (jn @f2 (jn @y1 @h3)) ?_
         refine runs_cond rfl (fun hc => ?_) (fun hc => by cases hc)
         cases hd : decide (accS R i ≥ R.steps) with
         | true =>
          rw [hd] at n1 n2 hb
          repeat' (first | refine gos1 (jn @y4 (jn @hd (jn @t3 (jn @n1 (jn @w1 @w2))))) ?_ | (refine ops_here ?_; (fail_if_success (refine ops_case (B := true) rfl rfl rfl ?_ ?_)); (fail_if_success (refine ops_case (B := false) rfl rfl rfl ?_ ?_)); refine ops_case rfl rfl rfl (fun hB => ?_) (fun hB => ?_) <;> rw [hB]) | (refine runs_here ?_; refine runs_cond rfl (fun hc => ?_) (fun hc => ?_) <;> first | (cases hc; done) | skip))
          exact fin _ _ _ n2 hb
         | false =>
          rw [hd] at n1 n2 hb
          repeat' (first | refine gos1 (jn @y4 (jn @hd (jn @t3 (jn @n1 (jn @w1 @w2))))) ?_ | (refine ops_here ?_; (fail_if_success (refine ops_case (B := true) rfl rfl rfl ?_ ?_)); (fail_if_success (refine ops_case (B := false) rfl rfl rfl ?_ ?_)); refine ops_case rfl rfl rfl (fun hB => ?_) (fun hB => ?_) <;> rw [hB]) | (refine runs_here ?_; refine runs_cond rfl (fun hc => ?_) (fun hc => ?_) <;> first | (cases hc; done) | skip))
          exact fin _ _ _ n2 hb
        | false =>
         have hx := hno h3
         have f3 := fun mm => stepsLG_eq (u := p.lenU) (n := p.lenN) (of := R.steps) (ep := R.epoch) (m := mm)
         rw [show stepsP p.lenU p.lenN R.steps R.epoch = R.stepsOf p from rfl] at f3
         rw [eA] at hin
         have r1 : IntKind.i64.wrap (accS R i + (R.stepsOf p).1) = accS R i + (R.stepsOf p).1 := i64_wrap (by omega) (by omega)
         rw [← eA] at r1
         refine go1 (jn @f2 (jn @y1 @h3)) ?_
         refine runs_cond rfl (fun hc => by cases hc) (fun hc => ?_)
         refine go1 (jn @y2 (jn @y4 (jn @y5 (jn @t2 (jn @f3 @r6))))) ?_
         rw [← eA, r1]
         exact ⟨R.phases.length - (i + 1), by omega, i + 1, hi1, hA1, hw5, hx, rfl, rfl⟩
       ·have hi1 : i = R.phases.length := by have := of_decide_eq_false hc; omega
        subst hi1
        have hx := by_end hf
        have y4 := lpRcSteps hw3
        obtain ⟨m2, n1, n2, n3⟩ := note_step hv hA (by decide) (accS R R.phases.length != R.steps) 0 0
        have hb : R.sumBad = (accS R R.phases.length != R.steps) := by
         unfold Rc.sumBad
         rw [hx, if_pos (by decide)]
        repeat' (first | refine gos1 (jn @y4 (jn @t3 (jn @n1 (jn @w1 @w2)))) ?_ | (refine ops_here ?_; (fail_if_success (refine ops_case (B := true) rfl rfl rfl ?_ ?_)); (fail_if_success (refine ops_case (B := false) rfl rfl rfl ?_ ?_)); refine ops_case rfl rfl rfl (fun hB => ?_) (fun hB => ?_) <;> rw [hB]) | (refine runs_here ?_; refine runs_cond rfl (fun hc => ?_) (fun hc => ?_) <;> first | (cases hc; done) | skip))
        exact fin _ _ _ n2 hb
   ·cases h
  ·cases h
 ·cases h
/-! ### all -/
def brokenG : List AV → Mem → Option (AV × Mem)
 | [.agg cs, .v (.int .i64 rule)], m =>
  match unRc cs with
  | some R => if R.small ∧ R.fit ∧ (rule = 1 ∨ rule = 2 ∨ rule = 3 ∨ rule = 4 ∨ rule = 5 ∨ rule = 6 ∨ rule = 7 ∨ rule = 8 ∨ rule = 9 ∨ rule = 10 ∨ rule = 11 ∨ rule = 12 ∨ rule = 13 ∨ rule = 14 ∨ rule = 15 ∨ rule = 16 ∨ rule = 17 ∨ rule = 18 ∨ rule = 19) then some (.lst .no 3 (rowsFl (brkL R rule)), m) else none
  | none => none
 | _, _ => none
theorem brokenG_at {m : Mem} {R : Rc} {rule : Int} (h : R.small) (h1 : R.fit) (h2 : rule = 1 ∨ rule = 2 ∨ rule = 3 ∨ rule = 4 ∨ rule = 5 ∨ rule = 6 ∨ rule = 7 ∨ rule = 8 ∨ rule = 9 ∨ rule = 10 ∨ rule = 11 ∨ rule = 12 ∨ rule = 13 ∨ rule = 14 ∨ rule = 15 ∨ rule = 16 ∨ rule = 17 ∨ rule = 18 ∨ rule = 19) : brokenG [.agg R.row, .v (.int .i64 rule)] m = some (.lst .no 3 (rowsFl (brkL R rule)), m) := by
 simp only [brokenG, unRc_row]
 rw [if_pos ⟨h, h1, h2⟩]
def kpBroken : Nat → Option (List Nat) := fun
 | 0 => some [1, 2]
 | 1 => some [1, 2, 5]
 | 2 => some [2, 5, 9]
 | 3 => some [5]
 | 4 => some [2, 5, 9, 13]
 | 5 => some [5]
 | 6 => some [2, 5, 9, 21]
 | 7 => some [5]
 | 8 => some [2, 5, 9, 37]
 | 9 => some [5]
 | 10 => some [2, 5, 9, 44]
 | 11 => some [5]
 | 12 => some [2, 5, 9, 50]
 | 13 => some [5]
 | 14 => some [2, 5, 9, 56]
 | 15 => some [5]
 | 16 => some [2, 5, 9, 64]
 | 17 => some [5]
 | 18 => some [2, 5, 9, 70]
 | 19 => some [5]
 | 20 => some [2, 5, 9, 75]
 | 21 => some [5]
 | 22 => some [2, 5, 9, 80]
 | 23 => some [5]
 | 24 => some [2, 5, 9, 85]
 | 25 => some [5]
 | 26 => some [2, 5, 9, 90]
 | 27 => some [5]
 | 28 => some [2, 5, 9, 95]
 | 29 => some [5]
 | 30 => some [2, 5, 100]
 | 31 => some [5]
 | 32 => some [4]
 | _ => none
attribute [go_sem] kpBroken
def tab_broken_ok : List (FuncId × (List AV → Mem → Option (AV × Mem))) := [(79, withinG), (78, noteG), (80, epochsG), (83, rlastsG), (81, twinsG), (82, namesG), (84, sumG), (85, frozenG), (86, setsG), (87, eachG), (92, endsFG)]
theorem broken_ok : FunOk Tryz.prog 38 brokenG := by
 have hC := table_ok (P := Tryz.prog) (l := tab_broken_ok) (table_more rwithin_ok (table_more note_ok (table_more epochs_ok (table_more rlasts_ok (table_more twins_ok (table_more names_ok (table_more sum_ok (table_more frozen_ok (table_more sets_ok (table_more each_ok (table_more endsF_ok table_nil)))))))))))
 have t1 := fun args mm => table_at (l := tab_broken_ok) (f := 79) (args := args) (m := mm) rfl
 have t2 := fun args mm => table_at (l := tab_broken_ok) (f := 78) (args := args) (m := mm) rfl
 have t3 := fun args mm => table_at (l := tab_broken_ok) (f := 80) (args := args) (m := mm) rfl
 have t4 := fun args mm => table_at (l := tab_broken_ok) (f := 83) (args := args) (m := mm) rfl
 have t5 := fun args mm => table_at (l := tab_broken_ok) (f := 81) (args := args) (m := mm) rfl
 have t6 := fun args mm => table_at (l := tab_broken_ok) (f := 82) (args := args) (m := mm) rfl
 have t7 := fun args mm => table_at (l := tab_broken_ok) (f := 84) (args := args) (m := mm) rfl
 have t8 := fun args mm => table_at (l := tab_broken_ok) (f := 85) (args := args) (m := mm) rfl
 have t9 := fun args mm => table_at (l := tab_broken_ok) (f := 86) (args := args) (m := mm) rfl
 have t10 := fun args mm => table_at (l := tab_broken_ok) (f := 87) (args := args) (m := mm) rfl
 have t11 := fun args mm => table_at (l := tab_broken_ok) (f := 92) (args := args) (m := mm) rfl
 refine fun_ok mixed hC Tryz.func38 rfl kpBroken false rfl fun args m r h => ?_
 unfold brokenG at h
 split at h
 ·rename_i cs rule
  split at h
  ·rename_i R hR
   obtain rfl := unRc_some hR
   split at h
   ·rename_i hyp
    obtain ⟨hsm, hfit, hrule⟩ := hyp
    simp only [Option.some.injEq] at h
    subst h
    refine ⟨Nat.le_of_ble_eq_true rfl, ?_⟩
    refine en ?_
    have hv3 : (m.push R.row).var m.vars.length = some R.row := push_var
    have hn3 : m.vars.length < (m.push R.row).vars.length := by rw [push_len]; omega
    have hA1 := above_push (cs := R.row) (above_self m)
    have nr := newRc (m := m) (x := R)
    generalize hm1 : m.push R.row = m1 at hv3 hn3 hA1 nr
    have nl := newRl (m := m1) (rule := rule)
    have hv5 : (m1.push [.v (.int .i64 rule), .lst .full 3 []]).var m1.vars.length = some [.v (.int .i64 rule), .lst .full 3 []] := push_var
    have hw3 := push_old (cs' := [.v (.int .i64 rule), .lst .full 3 []]) hv3
    have hA2 := above_push (cs := [.v (.int .i64 rule), .lst .full 3 []]) hA1
    have hle : m.vars.length ≤ m1.vars.length := by omega
    generalize hn5 : m1.vars.length = n5 at nl hv5 hle
    generalize m1.push [.v (.int .i64 rule), .lst .full 3 []] = m5 at nl hv5 hw3 hA2
    have fin : ∀ (e : Env) (m' : Mem) (L : List Fl), Above (flMem m5 n5 rule L) m' → brkL R rule = L → Ev.get e 4 = flLst m5 L → Leaves Tryz.prog false Tryz.f38 m (.lst .no 3 (rowsFl (brkL R rule)), m) .ret e m' := fun e m' L hA hL hg => by
     obtain ⟨g, hgl⟩ := flLst_is m5 L
     rw [hL]
     exact leaves_lst rfl (hg.trans hgl) (fin_own hA2 hle hA)
    have hld : ∀ (m' : Mem) (L : List Fl), Above (flMem m5 n5 rule L) m' → evLoad Tryz.prog m' 40 (.ptr n5 1) = some (flLst m5 L) := fun m' L hA => lpRlList (above_var hA (flMem_var hv5))
    have l1 := vrRc hw3
    have l2 := lpRcSteps hw3
    have l3 := lpRcEpoch hw3
    have l4 := lpRcWeights hw3
    have l5 := lpRcMetrics hw3
    have l6 := lpRcGroups hw3
    have l7 := lpRcEval hw3
    have l8 := lpRcPhases hw3
    have f1 : ∀ x lo hi mm, withinG [.v (.int .i64 x), .v (.int .i64 lo), .v (.int .i64 hi)] mm = some (.v (.bool (decide (lo ≤ x ∧ x ≤ hi))), mm) := fun _ _ _ _ => rfl
    have f3 := fun mm => epochsG_at R mm hfit
    have f6 := fun mm => namesG_at R mm hsm
    rcases hrule with rfl | rfl | rfl | rfl | rfl | rfl | rfl | rfl | rfl | rfl | rfl | rfl | rfl | rfl | rfl | rfl | rfl | rfl | rfl
    ·have hL : brkL R 1 = flawIf (!decide (1 ≤ R.steps ∧ R.steps ≤ 1000000)) 1 0 0 := rfl
     obtain ⟨m2, n1, hA, n3⟩ := note_step hv5 (by rw [flMem_nil]; exact above_self m5) (by decide) (!decide (1 ≤ R.steps ∧ R.steps ≤ 1000000)) 0 0
     rw [flawIf_app, List.nil_append] at hA
     have k2 := hld _ _ hA
     repeat' (first | refine gos1 (jn @nr (jn @hn5 (jn @nl (jn @mkRl (jn @l1 (jn @l2 (jn @l3 (jn @l4 (jn @l5 (jn @l6 (jn @l7 (jn @l8 (jn @t1 (jn @f1 (jn @t2 (jn @n1 @k2)))))))))))))))) ?_ | (refine ops_here ?_; (fail_if_success (refine ops_case (B := true) rfl rfl rfl ?_ ?_)); (fail_if_success (refine ops_case (B := false) rfl rfl rfl ?_ ?_)); refine ops_case rfl rfl rfl (fun hB => ?_) (fun hB => ?_) <;> rw [hB]) | (refine runs_here ?_; refine runs_cond rfl (fun hc => ?_) (fun hc => ?_) <;> first | (cases hc; done) | skip))
     exact fin _ _ _ hA hL rfl
    ·have hL : brkL R 2 = flawIf (decide (R.epoch > 1000000) || ((R.epoch == 0) && R.epochs)) 2 0 0 := rfl
     cases q1 : decide (R.epoch > 1000000) with
     | true =>
      obtain ⟨m2, n1, hA, n3⟩ := note_step hv5 (by rw [flMem_nil]; exact above_self m5) (by decide) true 0 0
      rw [flawIf_app, List.nil_append] at hA
      rw [q1] at hL
      have k2 := hld _ _ hA
      repeat' (first | refine gos1 (jn @nr (jn @hn5 (jn @nl (jn @mkRl (jn @l1 (jn @l2 (jn @l3 (jn @l4 (jn @l5 (jn @l6 (jn @l7 (jn @l8 (jn @q1 (jn @t2 (jn @n1 @k2))))))))))))))) ?_ | (refine ops_here ?_; (fail_if_success (refine ops_case (B := true) rfl rfl rfl ?_ ?_)); (fail_if_success (refine ops_case (B := false) rfl rfl rfl ?_ ?_)); refine ops_case rfl rfl rfl (fun hB => ?_) (fun hB => ?_) <;> rw [hB]) | (refine runs_here ?_; refine runs_cond rfl (fun hc => ?_) (fun hc => ?_) <;> first | (cases hc; done) | skip))
      exact fin _ _ _ hA hL rfl
     | false =>
      cases q2 : (R.epoch == 0) with
      | false =>
       obtain ⟨m2, n1, hA, n3⟩ := note_step hv5 (by rw [flMem_nil]; exact above_self m5) (by decide) false 0 0
       rw [flawIf_app, List.nil_append] at hA
       rw [q1, q2] at hL
       have k2 := hld _ _ hA
       repeat' (first | refine gos1 (jn @nr (jn @hn5 (jn @nl (jn @mkRl (jn @l1 (jn @l2 (jn @l3 (jn @l4 (jn @l5 (jn @l6 (jn @l7 (jn @l8 (jn @q1 (jn @q2 (jn @t2 (jn @n1 @k2)))))))))))))))) ?_ | (refine ops_here ?_; (fail_if_success (refine ops_case (B := true) rfl rfl rfl ?_ ?_)); (fail_if_success (refine ops_case (B := false) rfl rfl rfl ?_ ?_)); refine ops_case rfl rfl rfl (fun hB => ?_) (fun hB => ?_) <;> rw [hB]) | (refine runs_here ?_; refine runs_cond rfl (fun hc => ?_) (fun hc => ?_) <;> first | (cases hc; done) | skip))
       exact fin _ _ _ hA hL rfl
      | true =>
       obtain ⟨m2, n1, hA, n3⟩ := note_step hv5 (by rw [flMem_nil]; exact above_self m5) (by decide) R.epochs 0 0
       rw [flawIf_app, List.nil_append] at hA
       rw [q1, q2] at hL
       have k2 := hld _ _ hA
       repeat' (first | refine gos1 (jn @nr (jn @hn5 (jn @nl (jn @mkRl (jn @l1 (jn @l2 (jn @l3 (jn @l4 (jn @l5 (jn @l6 (jn @l7 (jn @l8 (jn @q1 (jn @q2 (jn @t2 (jn @t3 (jn @f3 (jn @n1 @k2)))))))))))))))))) ?_ | (refine ops_here ?_; (fail_if_success (refine ops_case (B := true) rfl rfl rfl ?_ ?_)); (fail_if_success (refine ops_case (B := false) rfl rfl rfl ?_ ?_)); refine ops_case rfl rfl rfl (fun hB => ?_) (fun hB => ?_) <;> rw [hB]) | (refine runs_here ?_; refine runs_cond rfl (fun hc => ?_) (fun hc => ?_) <;> first | (cases hc; done) | skip))
       exact fin _ _ _ hA hL rfl
    ·have hL : brkL R 3 = flawIf (decide (R.weights > 16)) 3 0 0 := rfl
     obtain ⟨m2, n1, hA, n3⟩ := note_step hv5 (by rw [flMem_nil]; exact above_self m5) (by decide) (decide (R.weights > 16)) 0 0
     rw [flawIf_app, List.nil_append] at hA
     have k2 := hld _ _ hA
     repeat' (first | refine gos1 (jn @nr (jn @hn5 (jn @nl (jn @mkRl (jn @l1 (jn @l2 (jn @l3 (jn @l4 (jn @l5 (jn @l6 (jn @l7 (jn @l8 (jn @t1 (jn @f1 (jn @t2 (jn @n1 @k2)))))))))))))))) ?_ | (refine ops_here ?_; (fail_if_success (refine ops_case (B := true) rfl rfl rfl ?_ ?_)); (fail_if_success (refine ops_case (B := false) rfl rfl rfl ?_ ?_)); refine ops_case rfl rfl rfl (fun hB => ?_) (fun hB => ?_) <;> rw [hB]) | (refine runs_here ?_; refine runs_cond rfl (fun hc => ?_) (fun hc => ?_) <;> first | (cases hc; done) | skip))
     exact fin _ _ _ hA hL rfl
    ·have hL : brkL R 4 = twinsL 4 R.metrics := rfl
     have c := twinsG_at (g := .no) hv5 (show R.metrics.length ≤ 64 from hsm.1)
     have hA := above_self (flMem m5 n5 4 (twinsL 4 R.metrics))
     have k2 := hld _ _ hA
     repeat' (first | refine gos1 (jn @nr (jn @hn5 (jn @nl (jn @mkRl (jn @l1 (jn @l2 (jn @l3 (jn @l4 (jn @l5 (jn @l6 (jn @l7 (jn @l8 (jn @t5 (jn @c @k2)))))))))))))) ?_ | (refine ops_here ?_; (fail_if_success (refine ops_case (B := true) rfl rfl rfl ?_ ?_)); (fail_if_success (refine ops_case (B := false) rfl rfl rfl ?_ ?_)); refine ops_case rfl rfl rfl (fun hB => ?_) (fun hB => ?_) <;> rw [hB]) | (refine runs_here ?_; refine runs_cond rfl (fun hc => ?_) (fun hc => ?_) <;> first | (cases hc; done) | skip))
     exact fin _ _ _ hA hL rfl
    ·have hL : brkL R 5 = twinsL 5 R.groups := rfl
     have c := twinsG_at (g := .no) hv5 (show R.groups.length ≤ 64 from hsm.2.1)
     have hA := above_self (flMem m5 n5 5 (twinsL 5 R.groups))
     have k2 := hld _ _ hA
     repeat' (first | refine gos1 (jn @nr (jn @hn5 (jn @nl (jn @mkRl (jn @l1 (jn @l2 (jn @l3 (jn @l4 (jn @l5 (jn @l6 (jn @l7 (jn @l8 (jn @t5 (jn @c @k2)))))))))))))) ?_ | (refine ops_here ?_; (fail_if_success (refine ops_case (B := true) rfl rfl rfl ?_ ?_)); (fail_if_success (refine ops_case (B := false) rfl rfl rfl ?_ ?_)); refine ops_case rfl rfl rfl (fun hB => ?_) (fun hB => ?_) <;> rw [hB]) | (refine runs_here ?_; refine runs_cond rfl (fun hc => ?_) (fun hc => ?_) <;> first | (cases hc; done) | skip))
     exact fin _ _ _ hA hL rfl
    ·have hL : brkL R 6 = flawIf (((R.phases.length : Int) == 0)) 6 0 0 := rfl
     obtain ⟨m2, n1, hA, n3⟩ := note_step hv5 (by rw [flMem_nil]; exact above_self m5) (by decide) (((R.phases.length : Int) == 0)) 0 0
     rw [flawIf_app, List.nil_append] at hA
     have k2 := hld _ _ hA
     repeat' (first | refine gos1 (jn @nr (jn @hn5 (jn @nl (jn @mkRl (jn @l1 (jn @l2 (jn @l3 (jn @l4 (jn @l5 (jn @l6 (jn @l7 (jn @l8 (jn @t1 (jn @f1 (jn @t2 (jn @n1 @k2)))))))))))))))) ?_ | (refine ops_here ?_; (fail_if_success (refine ops_case (B := true) rfl rfl rfl ?_ ?_)); (fail_if_success (refine ops_case (B := false) rfl rfl rfl ?_ ?_)); refine ops_case rfl rfl rfl (fun hB => ?_) (fun hB => ?_) <;> rw [hB]) | (refine runs_here ?_; refine runs_cond rfl (fun hc => ?_) (fun hc => ?_) <;> first | (cases hc; done) | skip))
     exact fin _ _ _ hA hL rfl
    ·have hL : brkL R 7 = twinsL 7 (R.phases.map Ph.name) := rfl
     have c := twinsG_at (g := .no) hv5 (show (R.phases.map Ph.name).length ≤ 64 by rw [List.length_map]; exact hsm.2.2.1)
     have hA := above_self (flMem m5 n5 7 (twinsL 7 (R.phases.map Ph.name)))
     have k2 := hld _ _ hA
     repeat' (first | refine gos1 (jn @nr (jn @hn5 (jn @nl (jn @mkRl (jn @l1 (jn @l2 (jn @l3 (jn @l4 (jn @l5 (jn @l6 (jn @l7 (jn @l8 (jn @t5 (jn @c (jn @k2 (jn @t6 @f6)))))))))))))))) ?_ | (refine ops_here ?_; (fail_if_success (refine ops_case (B := true) rfl rfl rfl ?_ ?_)); (fail_if_success (refine ops_case (B := false) rfl rfl rfl ?_ ?_)); refine ops_case rfl rfl rfl (fun hB => ?_) (fun hB => ?_) <;> rw [hB]) | (refine runs_here ?_; refine runs_cond rfl (fun hc => ?_) (fun hc => ?_) <;> first | (cases hc; done) | skip))
     exact fin _ _ _ hA hL rfl
    ·have hL : brkL R 8 = lastsL 8 R := rfl
     have c := rlastsG_at hv5 hsm
     have hA := above_self (flMem m5 n5 8 (lastsL 8 R))
     have k2 := hld _ _ hA
     repeat' (first | refine gos1 (jn @nr (jn @hn5 (jn @nl (jn @mkRl (jn @l1 (jn @l2 (jn @l3 (jn @l4 (jn @l5 (jn @l6 (jn @l7 (jn @l8 (jn @t4 (jn @c @k2)))))))))))))) ?_ | (refine ops_here ?_; (fail_if_success (refine ops_case (B := true) rfl rfl rfl ?_ ?_)); (fail_if_success (refine ops_case (B := false) rfl rfl rfl ?_ ?_)); refine ops_case rfl rfl rfl (fun hB => ?_) (fun hB => ?_) <;> rw [hB]) | (refine runs_here ?_; refine runs_cond rfl (fun hc => ?_) (fun hc => ?_) <;> first | (cases hc; done) | skip))
     exact fin _ _ _ hA hL rfl
    ·have hL : brkL R 9 = sumL 9 R := rfl
     have c := sumG_at hv5 hsm hfit
     have hA := above_self (flMem m5 n5 9 (sumL 9 R))
     have k2 := hld _ _ hA
     repeat' (first | refine gos1 (jn @nr (jn @hn5 (jn @nl (jn @mkRl (jn @l1 (jn @l2 (jn @l3 (jn @l4 (jn @l5 (jn @l6 (jn @l7 (jn @l8 (jn @t7 (jn @c @k2)))))))))))))) ?_ | (refine ops_here ?_; (fail_if_success (refine ops_case (B := true) rfl rfl rfl ?_ ?_)); (fail_if_success (refine ops_case (B := false) rfl rfl rfl ?_ ?_)); refine ops_case rfl rfl rfl (fun hB => ?_) (fun hB => ?_) <;> rw [hB]) | (refine runs_here ?_; refine runs_cond rfl (fun hc => ?_) (fun hc => ?_) <;> first | (cases hc; done) | skip))
     exact fin _ _ _ hA hL rfl
    ·have hL : brkL R 10 = frozenL 10 R := rfl
     have c := frozenG_at hv5 hsm
     have hA := above_self (flMem m5 n5 10 (frozenL 10 R))
     have k2 := hld _ _ hA
     repeat' (first | refine gos1 (jn @nr (jn @hn5 (jn @nl (jn @mkRl (jn @l1 (jn @l2 (jn @l3 (jn @l4 (jn @l5 (jn @l6 (jn @l7 (jn @l8 (jn @t8 (jn @c @k2)))))))))))))) ?_ | (refine ops_here ?_; (fail_if_success (refine ops_case (B := true) rfl rfl rfl ?_ ?_)); (fail_if_success (refine ops_case (B := false) rfl rfl rfl ?_ ?_)); refine ops_case rfl rfl rfl (fun hB => ?_) (fun hB => ?_) <;> rw [hB]) | (refine runs_here ?_; refine runs_cond rfl (fun hc => ?_) (fun hc => ?_) <;> first | (cases hc; done) | skip))
     exact fin _ _ _ hA hL rfl
    ·have hL : brkL R 11 = setsFl 11 R := rfl
     have c := setsG_at hv5 hsm
     have hA := above_self (flMem m5 n5 11 (setsFl 11 R))
     have k2 := hld _ _ hA
     repeat' (first | refine gos1 (jn @nr (jn @hn5 (jn @nl (jn @mkRl (jn @l1 (jn @l2 (jn @l3 (jn @l4 (jn @l5 (jn @l6 (jn @l7 (jn @l8 (jn @t9 (jn @c @k2)))))))))))))) ?_ | (refine ops_here ?_; (fail_if_success (refine ops_case (B := true) rfl rfl rfl ?_ ?_)); (fail_if_success (refine ops_case (B := false) rfl rfl rfl ?_ ?_)); refine ops_case rfl rfl rfl (fun hB => ?_) (fun hB => ?_) <;> rw [hB]) | (refine runs_here ?_; refine runs_cond rfl (fun hc => ?_) (fun hc => ?_) <;> first | (cases hc; done) | skip))
     exact fin _ _ _ hA hL rfl
    ·have hL : brkL R 12 = eachBL 12 R := rfl
     have c := eachG_B hv5 hsm
     have hA := above_self (flMem m5 n5 12 (eachBL 12 R))
     have k2 := hld _ _ hA
     repeat' (first | refine gos1 (jn @nr (jn @hn5 (jn @nl (jn @mkRl (jn @l1 (jn @l2 (jn @l3 (jn @l4 (jn @l5 (jn @l6 (jn @l7 (jn @l8 (jn @t10 (jn @c @k2)))))))))))))) ?_ | (refine ops_here ?_; (fail_if_success (refine ops_case (B := true) rfl rfl rfl ?_ ?_)); (fail_if_success (refine ops_case (B := false) rfl rfl rfl ?_ ?_)); refine ops_case rfl rfl rfl (fun hB => ?_) (fun hB => ?_) <;> rw [hB]) | (refine runs_here ?_; refine runs_cond rfl (fun hc => ?_) (fun hc => ?_) <;> first | (cases hc; done) | skip))
     exact fin _ _ _ hA hL rfl
    ·have hL : brkL R 13 = eachHL 13 R := rfl
     have c := eachG_H hv5 hsm
     have hA := above_self (flMem m5 n5 13 (eachHL 13 R))
     have k2 := hld _ _ hA
     repeat' (first | refine gos1 (jn @nr (jn @hn5 (jn @nl (jn @mkRl (jn @l1 (jn @l2 (jn @l3 (jn @l4 (jn @l5 (jn @l6 (jn @l7 (jn @l8 (jn @t10 (jn @c @k2)))))))))))))) ?_ | (refine ops_here ?_; (fail_if_success (refine ops_case (B := true) rfl rfl rfl ?_ ?_)); (fail_if_success (refine ops_case (B := false) rfl rfl rfl ?_ ?_)); refine ops_case rfl rfl rfl (fun hB => ?_) (fun hB => ?_) <;> rw [hB]) | (refine runs_here ?_; refine runs_cond rfl (fun hc => ?_) (fun hc => ?_) <;> first | (cases hc; done) | skip))
     exact fin _ _ _ hA hL rfl
    ·have hL : brkL R 14 = flawIf (R.endBad 14) 14 0 0 := rfl
     have c := endsFG_at hv5 hsm (by decide) (by decide)
     have hA := above_self (flMem m5 n5 14 (flawIf (R.endBad 14) 14 0 0))
     have k2 := hld _ _ hA
     repeat' (first | refine gos1 (jn @nr (jn @hn5 (jn @nl (jn @mkRl (jn @l1 (jn @l2 (jn @l3 (jn @l4 (jn @l5 (jn @l6 (jn @l7 (jn @l8 (jn @t11 (jn @c @k2)))))))))))))) ?_ | (refine ops_here ?_; (fail_if_success (refine ops_case (B := true) rfl rfl rfl ?_ ?_)); (fail_if_success (refine ops_case (B := false) rfl rfl rfl ?_ ?_)); refine ops_case rfl rfl rfl (fun hB => ?_) (fun hB => ?_) <;> rw [hB]) | (refine runs_here ?_; refine runs_cond rfl (fun hc => ?_) (fun hc => ?_) <;> first | (cases hc; done) | skip))
     exact fin _ _ _ hA hL rfl
    ·have hL : brkL R 15 = flawIf (R.endBad 15) 15 0 0 := rfl
     have c := endsFG_at hv5 hsm (by decide) (by decide)
     have hA := above_self (flMem m5 n5 15 (flawIf (R.endBad 15) 15 0 0))
     have k2 := hld _ _ hA
     repeat' (first | refine gos1 (jn @nr (jn @hn5 (jn @nl (jn @mkRl (jn @l1 (jn @l2 (jn @l3 (jn @l4 (jn @l5 (jn @l6 (jn @l7 (jn @l8 (jn @t11 (jn @c @k2)))))))))))))) ?_ | (refine ops_here ?_; (fail_if_success (refine ops_case (B := true) rfl rfl rfl ?_ ?_)); (fail_if_success (refine ops_case (B := false) rfl rfl rfl ?_ ?_)); refine ops_case rfl rfl rfl (fun hB => ?_) (fun hB => ?_) <;> rw [hB]) | (refine runs_here ?_; refine runs_cond rfl (fun hc => ?_) (fun hc => ?_) <;> first | (cases hc; done) | skip))
     exact fin _ _ _ hA hL rfl
    ·have hL : brkL R 16 = flawIf (R.endBad 16) 16 0 0 := rfl
     have c := endsFG_at hv5 hsm (by decide) (by decide)
     have hA := above_self (flMem m5 n5 16 (flawIf (R.endBad 16) 16 0 0))
     have k2 := hld _ _ hA
     repeat' (first | refine gos1 (jn @nr (jn @hn5 (jn @nl (jn @mkRl (jn @l1 (jn @l2 (jn @l3 (jn @l4 (jn @l5 (jn @l6 (jn @l7 (jn @l8 (jn @t11 (jn @c @k2)))))))))))))) ?_ | (refine ops_here ?_; (fail_if_success (refine ops_case (B := true) rfl rfl rfl ?_ ?_)); (fail_if_success (refine ops_case (B := false) rfl rfl rfl ?_ ?_)); refine ops_case rfl rfl rfl (fun hB => ?_) (fun hB => ?_) <;> rw [hB]) | (refine runs_here ?_; refine runs_cond rfl (fun hc => ?_) (fun hc => ?_) <;> first | (cases hc; done) | skip))
     exact fin _ _ _ hA hL rfl
    ·have hL : brkL R 17 = flawIf (R.endBad 17) 17 0 0 := rfl
     have c := endsFG_at hv5 hsm (by decide) (by decide)
     have hA := above_self (flMem m5 n5 17 (flawIf (R.endBad 17) 17 0 0))
     have k2 := hld _ _ hA
     repeat' (first | refine gos1 (jn @nr (jn @hn5 (jn @nl (jn @mkRl (jn @l1 (jn @l2 (jn @l3 (jn @l4 (jn @l5 (jn @l6 (jn @l7 (jn @l8 (jn @t11 (jn @c @k2)))))))))))))) ?_ | (refine ops_here ?_; (fail_if_success (refine ops_case (B := true) rfl rfl rfl ?_ ?_)); (fail_if_success (refine ops_case (B := false) rfl rfl rfl ?_ ?_)); refine ops_case rfl rfl rfl (fun hB => ?_) (fun hB => ?_) <;> rw [hB]) | (refine runs_here ?_; refine runs_cond rfl (fun hc => ?_) (fun hc => ?_) <;> first | (cases hc; done) | skip))
     exact fin _ _ _ hA hL rfl
    ·have hL : brkL R 18 = flawIf (R.endBad 18) 18 0 0 := rfl
     have c := endsFG_at hv5 hsm (by decide) (by decide)
     have hA := above_self (flMem m5 n5 18 (flawIf (R.endBad 18) 18 0 0))
     have k2 := hld _ _ hA
     repeat' (first | refine gos1 (jn @nr (jn @hn5 (jn @nl (jn @mkRl (jn @l1 (jn @l2 (jn @l3 (jn @l4 (jn @l5 (jn @l6 (jn @l7 (jn @l8 (jn @t11 (jn @c @k2)))))))))))))) ?_ | (refine ops_here ?_; (fail_if_success (refine ops_case (B := true) rfl rfl rfl ?_ ?_)); (fail_if_success (refine ops_case (B := false) rfl rfl rfl ?_ ?_)); refine ops_case rfl rfl rfl (fun hB => ?_) (fun hB => ?_) <;> rw [hB]) | (refine runs_here ?_; refine runs_cond rfl (fun hc => ?_) (fun hc => ?_) <;> first | (cases hc; done) | skip))
     exact fin _ _ _ hA hL rfl
    ·have hL : brkL R 19 = flawIf (decide (R.eval > R.steps)) 19 0 0 := rfl
     obtain ⟨m2, n1, hA, n3⟩ := note_step hv5 (by rw [flMem_nil]; exact above_self m5) (by decide) (decide (R.eval > R.steps)) 0 0
     rw [flawIf_app, List.nil_append] at hA
     have k2 := hld _ _ hA
     repeat' (first | refine gos1 (jn @nr (jn @hn5 (jn @nl (jn @mkRl (jn @l1 (jn @l2 (jn @l3 (jn @l4 (jn @l5 (jn @l6 (jn @l7 (jn @l8 (jn @t1 (jn @f1 (jn @t2 (jn @n1 @k2)))))))))))))))) ?_ | (refine ops_here ?_; (fail_if_success (refine ops_case (B := true) rfl rfl rfl ?_ ?_)); (fail_if_success (refine ops_case (B := false) rfl rfl rfl ?_ ?_)); refine ops_case rfl rfl rfl (fun hB => ?_) (fun hB => ?_) <;> rw [hB]) | (refine runs_here ?_; refine runs_cond rfl (fun hc => ?_) (fun hc => ?_) <;> first | (cases hc; done) | skip))
     exact fin _ _ _ hA hL rfl
   ·cases h
  ·cases h
 ·cases h
def kpKept : Nat → Option (List Nat) := fun
 | 0 => some [1, 2]
 | 1 => some [4]
 | _ => none
attribute [go_sem] kpKept
end
section
attribute [local irreducible] Next Inside Runs Ops table
attribute [local go_sem] szStr szInt Option.getD_some isNil evStr iv mapRc cellsRc newRc rowsFl_len
theorem named_len {l : List ByteArray} {n : Int} (h : namedB l n = true) : (l.length : Int) ≤ n := by
 unfold namedB at h
 simp only [Bool.and_eq_true, decide_eq_true_eq] at h
 exact h.1
theorem checkT_len {l : List Nd} (h : checkT l = 0) : l.length ≤ 64 := by
 unfold checkT at h
 split at h
 ·cases h
 ·omega
theorem Rc.may_small {R : Rc} (h : R.may = true) : R.small := by
 unfold Rc.may Rc.headBad Rc.listBad Rc.phBad at h
 simp only [Bool.and_eq_true, Bool.not_eq_true', Bool.or_eq_false_iff, decide_eq_false_iff_not, Bool.not_eq_false'] at h
 obtain ⟨_, ⟨h1, h2, _⟩, h3, h4, _⟩ := h
 have n1 := named_len h1
 have n2 := named_len h2
 refine ⟨by omega, by omega, by omega, fun p hp => ?_⟩
 have hq := List.any_eq_false.1 h4 p hp
 simp only [phNot, phMay, Bool.not_eq_true', Bool.not_eq_false, Bool.and_eq_true, decide_eq_true_eq, Bool.not_eq_false'] at hq
 obtain ⟨_, _, h5, h6, h7⟩ := hq
 have n5 := named_len h5
 refine ⟨by omega, by omega, fun s hs => ?_⟩
 have h7' : p.sets.any setNot = false := by first | exact h7 | simpa using h7
 have hr := List.any_eq_false.1 h7' s hs
 simp only [setNot, setMay, Bool.not_eq_true', Bool.not_eq_false, Bool.and_eq_true, beq_iff_eq] at hr
 have := checkT_len hr.2.2.2
 omega
theorem flawIf_le (b : Bool) (rule i k : Int) : (flawIf b rule i k).length ≤ 4096 := by have := flawIf_len b rule i k; omega
theorem upto_le1 {n : Nat} {b : Nat → Bool} {rule : Int} {f g : Nat → Int} (hn : n ≤ 64) : (upto n fun i => flawIf (b i) rule (f i) (g i)).length ≤ 64 := by
 have := @upto_len (fun i => flawIf (b i) rule (f i) (g i)) 1 n fun k _ => flawIf_len ..
 omega
theorem upto_le2 {n : Nat} {F : Nat → List Fl} (hn : n ≤ 64) (h : ∀ i, i < n → (F i).length ≤ 64) : (upto n F).length ≤ 4096 := by
 have := @upto_len F 64 n h
 omega
theorem brkL_len {R : Rc} (h : R.small) (rule : Int) : (brkL R rule).length ≤ 4096 := by
 have hp := fun i => h.phase i
 unfold brkL
 by_cases e1 : rule = 1
 ·rw [if_pos e1]; exact flawIf_le _ _ _ _
 rw [if_neg e1]
 by_cases e2 : rule = 2
 ·rw [if_pos e2]; exact flawIf_le _ _ _ _
 rw [if_neg e2]
 by_cases e3 : rule = 3
 ·rw [if_pos e3]; exact flawIf_le _ _ _ _
 rw [if_neg e3]
 by_cases e4 : rule = 4
 ·rw [if_pos e4]; have := @upto_le1 R.metrics.length (fun i => decide (placeOf R.metrics (R.metrics.getD i ⟨#[]⟩) < (i : Int))) 4 (fun i => (i : Int)) (fun _ => 0) h.1; unfold twinsL; omega
 rw [if_neg e4]
 by_cases e5 : rule = 5
 ·rw [if_pos e5]; have := @upto_le1 R.groups.length (fun i => decide (placeOf R.groups (R.groups.getD i ⟨#[]⟩) < (i : Int))) 5 (fun i => (i : Int)) (fun _ => 0) h.2.1; unfold twinsL; omega
 rw [if_neg e5]
 by_cases e6 : rule = 6
 ·rw [if_pos e6]; exact flawIf_le _ _ _ _
 rw [if_neg e6]
 by_cases e7 : rule = 7
 ·rw [if_pos e7]; have := @upto_le1 (R.phases.map Ph.name).length (fun i => decide (placeOf (R.phases.map Ph.name) ((R.phases.map Ph.name).getD i ⟨#[]⟩) < (i : Int))) 7 (fun i => (i : Int)) (fun _ => 0) (by rw [List.length_map]; exact h.2.2.1); unfold twinsL; omega
 rw [if_neg e7]
 by_cases e8 : rule = 8
 ·rw [if_pos e8]; have := @upto_le1 R.phases.length (fun i => R.lastBad i) 8 (fun i => (i : Int)) (fun _ => 0) h.2.2.1; unfold lastsL; omega
 rw [if_neg e8]
 by_cases e9 : rule = 9
 ·rw [if_pos e9]; unfold sumL; split; exact flawIf_le _ _ _ _; simp
 rw [if_neg e9]
 by_cases e10 : rule = 10
 ·rw [if_pos e10]; exact upto_le2 h.2.2.1 fun i _ => upto_le1 (hp i).1
 rw [if_neg e10]
 by_cases e11 : rule = 11
 ·rw [if_pos e11]; exact upto_le2 h.2.2.1 fun i _ => upto_le1 (hp i).2.1
 rw [if_neg e11]
 by_cases e12 : rule = 12
 ·rw [if_pos e12]; exact upto_le2 h.2.2.1 fun i _ => upto_le1 (hp i).2.1
 rw [if_neg e12]
 by_cases e13 : rule = 13
 ·rw [if_pos e13]; exact upto_le2 h.2.2.1 fun i _ => upto_le1 (hp i).2.1
 rw [if_neg e13]
 by_cases e14 : rule = 14
 ·rw [if_pos e14]; exact flawIf_le _ _ _ _
 rw [if_neg e14]
 by_cases e15 : rule = 15
 ·rw [if_pos e15]; exact flawIf_le _ _ _ _
 rw [if_neg e15]
 by_cases e16 : rule = 16
 ·rw [if_pos e16]; exact flawIf_le _ _ _ _
 rw [if_neg e16]
 by_cases e17 : rule = 17
 ·rw [if_pos e17]; exact flawIf_le _ _ _ _
 rw [if_neg e17]
 by_cases e18 : rule = 18
 ·rw [if_pos e18]; exact flawIf_le _ _ _ _
 rw [if_neg e18]
 by_cases e19 : rule = 19
 ·rw [if_pos e19]; exact flawIf_le _ _ _ _
 rw [if_neg e19]
 simp
/-- As app_growsA; the variables stay. -/
theorem app_growsV {P : Program} {m : Mem} {t t2 : TypeId} {k : Nat} (ha : appB P t t2 k = true) {g : Grow} {m' : Mem} (hG : GrowsA m g m') {y : AV} {g2 : Grow} {xs ys : List (List AV)} (hy : asList k y = some (g2, ys)) (hl : xs.length + ys.length ≤ lim) :
  ∃ g' m'', evAppend P t t2 m' (.lst g k xs) y = some (.lst g' k (xs ++ ys), m'') ∧ GrowsA m g' m'' ∧ ∀ q, m''.var q = m'.var q := by
 obtain ⟨m1, h1, L, rfl⟩ := hG
 rcases h1 with ⟨rfl, rfl⟩ | ⟨v, rfl, rfl⟩
 ·refine ⟨_, _, app_of ha asList_lst hy hl, ⟨m1.tk [0], grows_tok, L, rfl⟩, fun q => rfl⟩
 ·refine ⟨_, { vars := m.vars ++ L, toks := m.toks ++ [v + 1] }, ?_, ⟨m.tk [v + 1], grows_tok, L, rfl⟩, fun q => rfl⟩
  rw [app_of ha asList_lst hy hl]
  have h : ({ vars := (m.tk [v]).vars ++ L, toks := (m.tk [v]).toks } : Mem).toks[m.toks.length]? = some v := by simp [Mem.tk]
  simp only [h, if_true]
  simp [Mem.tk, List.set_append]
def flawsTo (R : Rc) (n : Nat) : List Fl := upto n fun k => brkL R ((k + 1 : Nat) : Int)
def Rc.flaws (R : Rc) : List Fl := if R.may = true then flawsTo R 19 else []
def checkOfG : List AV → Mem → Option (AV × Mem)
 | [.agg cs], m =>
  match unRc cs with
  | some R => if R.fit then some (.tup [.lst .no 3 (rowsFl R.flaws), .v (.int .i64 (if R.may then 0 else 1))], m) else none
  | none => none
 | _, _ => none
theorem checkOfG_at (R : Rc) (m : Mem) (h : R.fit) : checkOfG [.agg R.row] m = some (.tup [.lst .no 3 (rowsFl R.flaws), .v (.int .i64 (if R.may then 0 else 1))], m) := by
 simp only [checkOfG, unRc_row]
 rw [if_pos h]
def kpCheckOf : Nat → Option (List Nat) := fun
 | 0 => some [1]
 | 1 => some [1, 4]
 | 2 => some [1, 4, 10]
 | 3 => some [2, 3]
 | 4 => some [1, 5]
 | 5 => some [1, 5, 6]
 | 6 => some [1, 5, 6, 13]
 | 7 => some [1, 5, 6]
 | 8 => some [1, 5, 6]
 | 9 => some [2, 3]
 | _ => none
attribute [go_sem] kpCheckOf
def tab_checkOf_ok : List (FuncId × (List AV → Mem → Option (AV × Mem))) := [(37, mayRG), (38, brokenG)]
theorem checkOf_ok : FunOk Tryz.prog 11 checkOfG := by
 have hC := table_ok (P := Tryz.prog) (l := tab_checkOf_ok) (table_more mayR_ok (table_more broken_ok table_nil))
 have t1 := fun args mm => table_at (l := tab_checkOf_ok) (f := 37) (args := args) (m := mm) rfl
 have t2 := fun args mm => table_at (l := tab_checkOf_ok) (f := 38) (args := args) (m := mm) rfl
 refine fun_ok mixed hC Tryz.func11 rfl kpCheckOf false rfl fun args m r h => ?_
 unfold checkOfG at h
 split at h
 ·rename_i cs
  split at h
  ·rename_i R hR
   obtain rfl := unRc_some hR
   split at h
   ·rename_i hfit
    simp only [Option.some.injEq] at h
    subst h
    refine ⟨Nat.le_of_ble_eq_true rfl, ?_⟩
    refine en ?_
    have hv : (m.push R.row).var m.vars.length = some R.row := push_var
    have l1 := vrRc hv
    have f1 := fun mm => mayRG_at R mm hfit
    unfold Rc.flaws
    cases hm : R.may with
    | false =>
     rw [hm] at f1
     have b1 : ((1 : Int) != 0) = true := rfl
     have i1 : (if false = true then (0 : Int) else 1) = 1 := rfl
     rw [i1] at f1
     refine go1 (jn @l1 (jn @t1 (jn @f1 @b1))) ?_
     refine runs_cond rfl (fun hc => ?_) (fun hc => by cases hc)
     refine go0 ?_
     exact leaves_two rfl rfl rfl fin_push
    | true =>
     rw [hm] at f1
     have hsm := Rc.may_small hm
     have b1 : ((0 : Int) != 0) = false := rfl
     have i1 : (if true = true then (0 : Int) else 1) = 0 := rfl
     rw [i1] at f1
     refine go1 (jn @l1 (jn @t1 (jn @f1 @b1))) ?_
     refine runs_cond rfl (fun hc => by cases hc) (fun hc => ?_)
     refine go0 ?_
     have hG0 : GrowsA m .full (m.push R.row) := growsA_push growsA_full
     refine runs_loop (fun k e m' => ∃ (i : Nat) (gr : Grow), i ≤ 19 ∧ GrowsA m gr m' ∧ m'.var m.vars.length = some R.row ∧ k = 19 - i ∧
      e = [(1, AV.ptr m.vars.length 0), (5, .lst gr 3 (rowsFl (flawsTo R i))), (6, .v (.int .i64 ((i + 1 : Nat) : Int)))]) (k := 19) ⟨0, _, Nat.zero_le _, hG0, hv, rfl, rfl⟩ ?_
     rintro k e m' ⟨i, gr, hi0, hG, hw, rfl, rfl⟩
     refine go0 ?_
     refine runs_cond rfl (fun hc => ?_) (fun hc => ?_)
     ·have hi1 : i < 19 := by have := of_decide_eq_true hc; omega
      have l2 := vrRc hw
      have f2 := fun mm => brokenG_at (m := mm) (R := R) (rule := ((i + 1 : Nat) : Int)) hsm hfit (by omega)
      have hN : flawsTo R (i + 1) = flawsTo R i ++ brkL R ((i + 1 : Nat) : Int) := upto_next
      have hl1 : (flawsTo R i).length ≤ i * 4096 := upto_len i fun k _ => brkL_len hsm _
      have hl2 := brkL_len hsm ((i + 1 : Nat) : Int)
      have r6 := next_i64 (i := i + 1) (by omega)
      generalize ((i + 1 : Nat) : Int) = j at f2 hN hl2 r6
      obtain ⟨g2, m2, a1, hG2, hV⟩ := app_growsV appFl hG (y := .lst .no 3 (rowsFl (brkL R j))) asList_lst (xs := rowsFl (flawsTo R i)) (by rw [rowsFl_len, rowsFl_len]; unfold lim; omega)
      rw [rowsFl_app, ← hN] at a1
      refine go1 (jn @l2 (jn @t2 (jn @f2 (jn @a1 @r6)))) ?_
      exact ⟨19 - (i + 1), by omega, i + 1, _, hi1, hG2, by rw [hV]; exact hw, rfl, rfl⟩
     ·have hi1 : i = 19 := by have := of_decide_eq_false hc; omega
      subst hi1
      refine go0 ?_
      exact leaves_two rfl rfl rfl (growsA_fin hG)
   ·cases h
  ·cases h
 ·cases h
def Rc.sound (R : Rc) : Bool := R.may && ((((R.flaws).length : Nat) : Int) == 0)
def soundG : List AV → Mem → Option (AV × Mem)
 | [.agg cs], m =>
  match unRc cs with
  | some R => if R.fit then some (.v (.bool R.sound), m) else none
  | none => none
 | _, _ => none
theorem soundG_at (R : Rc) (m : Mem) (h : R.fit) : soundG [.agg R.row] m = some (.v (.bool R.sound), m) := by
 simp only [soundG, unRc_row]
 rw [if_pos h]
def kpSound : Nat → Option (List Nat) := fun
 | 0 => some [1]
 | 1 => some [3, 4]
 | 2 => some [2]
 | _ => none
attribute [go_sem] kpSound
def tab_sound_ok : List (FuncId × (List AV → Mem → Option (AV × Mem))) := [(11, checkOfG)]
theorem sound_ok : FunOk Tryz.prog 12 soundG := by
 have hC := table_ok (P := Tryz.prog) (l := tab_sound_ok) (table_more checkOf_ok table_nil)
 have t1 := fun args mm => table_at (l := tab_sound_ok) (f := 11) (args := args) (m := mm) rfl
 refine fun_ok mixed hC Tryz.func12 rfl kpSound false rfl fun args m r h => ?_
 unfold soundG at h
 split at h
 ·rename_i cs
  split at h
  ·rename_i R hR
   obtain rfl := unRc_some hR
   split at h
   ·rename_i hfit
    simp only [Option.some.injEq] at h
    subst h
    refine ⟨Nat.le_of_ble_eq_true rfl, ?_⟩
    refine en ?_
    have l1 := vrRc (x := R) (push_var (m := m))
    have f1 := fun mm => checkOfG_at R mm hfit
    unfold Rc.sound
    cases hm : R.may with
    | false =>
     rw [hm, show (if false = true then (0 : Int) else 1) = 1 from rfl] at f1
     have b1 : ((1 : Int) == 0) = false := rfl
     refine go1 (jn @l1 (jn @t1 (jn @f1 @b1))) ?_
     exact leaves_fin rfl rfl fin_push
    | true =>
     rw [hm, show (if true = true then (0 : Int) else 1) = 0 from rfl] at f1
     have b1 : ((0 : Int) == 0) = true := rfl
     refine go1 (jn @l1 (jn @t1 (jn @f1 @b1))) ?_
     exact leaves_fin rfl rfl fin_push
   ·cases h
  ·cases h
 ·cases h
end
section
attribute [local irreducible] Next Inside Runs Ops table
theorem appNo : appB Tryz.prog 104 104 3 = true := by kernel_rfl
theorem agNotes : tAgg Tryz.prog 104 = some false := by kernel_rfl
theorem szNotes : tSize Tryz.prog 104 = some 1 := by kernel_rfl
theorem lpNotes {m : Mem} {r : Nat} {l : AV} (hv : m.var r = some [l]) : evLoad Tryz.prog m 104 (.ptr r 0) = some l := by
 unfold evLoad
 simp only [ptrCells, hv, Option.map_some, szNotes, agNotes]
 rfl
theorem mkNo1 {a b c : Int} : evBuildSlice Tryz.prog 104 1 [(0, .agg [.v (.int .i64 a), .v (.int .i64 b), .v (.int .i64 c)])] = some (.lst .full 3 [[.v (.int .i64 a), .v (.int .i64 b), .v (.int .i64 c)]]) := build_rows appNo rfl rfl (by decide)
theorem putNotes {m : Mem} {r : Nat} {l : AV} {g : Grow} {rows : List (List AV)} (hv : m.var r = some [l]) :
  evStore Tryz.prog m 104 (.ptr r 0) (.lst g 3 rows) = some { m with vars := m.vars.set r (some [.lst g 3 rows]) } := by
 unfold evStore
 simp only [cellsOf, flat, List.all_cons, List.all_nil, okCell, Bool.and_true, if_true, szNotes, hv]
 rfl
/-- The variable holds a list of flaws with room for `n` more. -/
def lstOk (m : Mem) (r n : Nat) : Prop :=
 match m.var r with
 | some [.lst .full 3 rows] => rows.length + n ≤ 1000000
 | some [.lst (.tok id v) 3 rows] => rows.length + n ≤ 1000000 ∧ m.toks[id]? = some v
 | _ => False
def addL (m : Mem) (r : Nat) (l : List Fl) : Mem :=
 if l = [] then m else
 match m.var r with
 | some [.lst .full 3 rows] => { vars := m.vars.set r (some [.lst (.tok m.toks.length (l.length - 1)) 3 (rows ++ rowsFl l)]), toks := m.toks ++ [l.length - 1] }
 | some [.lst (.tok id v) 3 rows] => { vars := m.vars.set r (some [.lst (.tok id (v + l.length)) 3 (rows ++ rowsFl l)]), toks := m.toks.set id (v + l.length) }
 | _ => m
theorem lstOk_cases {m : Mem} {r n : Nat} (h : lstOk m r n) : (∃ rows, m.var r = some [.lst .full 3 rows] ∧ rows.length + n ≤ 1000000) ∨ ∃ id v rows, m.var r = some [.lst (.tok id v) 3 rows] ∧ rows.length + n ≤ 1000000 ∧ m.toks[id]? = some v := by
 unfold lstOk at h
 split at h
 ·rename_i rows hv
  exact .inl ⟨rows, hv, h⟩
 ·rename_i id v rows hv
  exact .inr ⟨id, v, rows, hv, h⟩
 ·cases h
theorem lstOk_lt {m : Mem} {r n : Nat} (h : lstOk m r n) : r < m.vars.length := by
 rcases lstOk_cases h with ⟨_, hv, _⟩ | ⟨_, _, _, hv, _⟩ <;> exact (var_lt hv).1
theorem addL_nil {m : Mem} {r : Nat} : addL m r [] = m := if_pos rfl
theorem addL_full {m : Mem} {r : Nat} {l : List Fl} {rows : List (List AV)} (hv : m.var r = some [.lst .full 3 rows]) (hl : l ≠ []) :
  addL m r l = { vars := m.vars.set r (some [.lst (.tok m.toks.length (l.length - 1)) 3 (rows ++ rowsFl l)]), toks := m.toks ++ [l.length - 1] } := by
 unfold addL
 rw [if_neg hl, hv]
 rfl
theorem addL_tok {m : Mem} {r id v : Nat} {l : List Fl} {rows : List (List AV)} (hv : m.var r = some [.lst (.tok id v) 3 rows]) (hl : l ≠ []) :
  addL m r l = { vars := m.vars.set r (some [.lst (.tok id (v + l.length)) 3 (rows ++ rowsFl l)]), toks := m.toks.set id (v + l.length) } := by
 unfold addL
 rw [if_neg hl, hv]
 rfl
theorem len_pos {α : Type} {l : List α} (h : l ≠ []) : 0 < l.length := by cases l with | nil => exact absurd rfl h | cons a b => simp
theorem addL_ok {m : Mem} {r n : Nat} {l : List Fl} (h : lstOk m r n) (hl : l.length ≤ n) : lstOk (addL m r l) r (n - l.length) := by
 by_cases hn : l = []
 ·subst hn
  rw [addL_nil]
  exact h
 ·have hpos := len_pos hn
  have hlt := lstOk_lt h
  rcases lstOk_cases h with ⟨rows, hv, h1⟩ | ⟨id, v, rows, hv, h1, h2⟩
  ·rw [addL_full hv hn]
   have e : ({ vars := m.vars.set r (some [.lst (.tok m.toks.length (l.length - 1)) 3 (rows ++ rowsFl l)]), toks := m.toks ++ [l.length - 1] } : Mem).var r = some [.lst (.tok m.toks.length (l.length - 1)) 3 (rows ++ rowsFl l)] := var_of (by show (m.vars.set r _)[r]? = _; rw [List.getElem?_set_self hlt])
   unfold lstOk
   rw [e]
   refine ⟨?_, by simp⟩
   rw [List.length_append, rowsFl_len]
   omega
  ·rw [addL_tok hv hn]
   have e : ({ vars := m.vars.set r (some [.lst (.tok id (v + l.length)) 3 (rows ++ rowsFl l)]), toks := m.toks.set id (v + l.length) } : Mem).var r = some [.lst (.tok id (v + l.length)) 3 (rows ++ rowsFl l)] := var_of (by show (m.vars.set r _)[r]? = _; rw [List.getElem?_set_self hlt])
   have hid := (List.getElem?_eq_some_iff.1 h2).1
   unfold lstOk
   rw [e]
   refine ⟨?_, by show (m.toks.set id _)[id]? = _; rw [List.getElem?_set_self hid]⟩
   rw [List.length_append, rowsFl_len]
   omega
theorem addL_app {m : Mem} {r n : Nat} {l k : List Fl} (h : lstOk m r n) : addL (addL m r l) r k = addL m r (l ++ k) := by
 by_cases hn : l = []
 ·subst hn
  rw [addL_nil, List.nil_append]
 ·by_cases hk : k = []
  ·subst hk
   rw [addL_nil, List.append_nil]
  ·have hpos := len_pos hn
   have hkp := len_pos hk
   have hlt := lstOk_lt h
   have hnk : l ++ k ≠ [] := fun h => hn (List.append_eq_nil_iff.1 h).1
   rcases lstOk_cases h with ⟨rows, hv, h1⟩ | ⟨id, v, rows, hv, h1, h2⟩
   ·have e : ({ vars := m.vars.set r (some [.lst (.tok m.toks.length (l.length - 1)) 3 (rows ++ rowsFl l)]), toks := m.toks ++ [l.length - 1] } : Mem).var r = some [.lst (.tok m.toks.length (l.length - 1)) 3 (rows ++ rowsFl l)] := var_of (by show (m.vars.set r _)[r]? = _; rw [List.getElem?_set_self hlt])
    rw [addL_full hv hn, addL_full hv hnk, addL_tok e hk]
    simp only [List.set_set, List.append_assoc, rowsFl_app, List.length_append, Mem.mk.injEq]
    refine ⟨by rw [show l.length - 1 + k.length = l.length + k.length - 1 by omega], ?_⟩
    rw [List.set_append_right _ _ (Nat.le_refl _), Nat.sub_self]
    show m.toks ++ [l.length - 1 + k.length] = _
    rw [show l.length - 1 + k.length = l.length + k.length - 1 by omega]
   ·have e : ({ vars := m.vars.set r (some [.lst (.tok id (v + l.length)) 3 (rows ++ rowsFl l)]), toks := m.toks.set id (v + l.length) } : Mem).var r = some [.lst (.tok id (v + l.length)) 3 (rows ++ rowsFl l)] := var_of (by show (m.vars.set r _)[r]? = _; rw [List.getElem?_set_self hlt])
    rw [addL_tok hv hn, addL_tok hv hnk, addL_tok e hk]
    simp only [List.set_set, List.append_assoc, rowsFl_app, List.length_append, Nat.add_assoc]
theorem addL_ne {m : Mem} {r q : Nat} {l : List Fl} {cs : List AV} (hq : q ≠ r) (hc : m.var q = some cs) : (addL m r l).var q = some cs := by
 unfold addL
 split
 ·exact hc
 ·split
  ·exact var_set_ne hq hc
  ·exact var_set_ne hq hc
  ·exact hc
theorem lstOk_above {m m' : Mem} {r n : Nat} (hA : Above m m') (h : lstOk m r n) : lstOk m' r n := by
 rcases lstOk_cases h with ⟨rows, hv, h1⟩ | ⟨id, v, rows, hv, h1, h2⟩
 ·unfold lstOk
  rw [above_var hA hv]
  exact h1
 ·unfold lstOk
  rw [above_var hA hv, above_toks hA]
  exact ⟨h1, h2⟩
theorem lstOk_le {m : Mem} {r n k : Nat} (h : lstOk m r n) (hk : k ≤ n) : lstOk m r k := by
 rcases lstOk_cases h with ⟨rows, hv, h1⟩ | ⟨id, v, rows, hv, h1, h2⟩
 ·unfold lstOk
  rw [hv]
  show _ ≤ _
  omega
 ·unfold lstOk
  rw [hv]
  exact ⟨by omega, h2⟩
theorem addL_above {m m' : Mem} {r n : Nat} {l : List Fl} (hA : Above m m') (h : lstOk m r n) : Above (addL m r l) (addL m' r l) := by
 by_cases hn : l = []
 ·subst hn
  rw [addL_nil, addL_nil]
  exact hA
 ·have hlt := lstOk_lt h
  rcases lstOk_cases h with ⟨rows, hv, h1⟩ | ⟨id, v, rows, hv, h1, h2⟩
  ·rw [addL_full hv hn, addL_full (above_var hA hv) hn, above_toks hA]
   exact above_set hA hlt
  ·rw [addL_tok hv hn, addL_tok (above_var hA hv) hn, above_toks hA]
   exact above_set hA hlt
theorem fin_addL {m m' : Mem} {r n : Nat} {l : List Fl} (h : lstOk m r n) (hA : Above (addL m r l) m') : finMem m m' = addL m r l := by
 by_cases hn : l = []
 ·subst hn
  rw [addL_nil] at hA ⊢
  exact above_fin hA
 ·have hlt := lstOk_lt h
  have go : ∀ (cs : List AV) (T : List Nat), (∀ c, m.var r = some c → c ≠ cs) → Above { vars := m.vars.set r (some cs), toks := T } m' → finMem m m' = { vars := m.vars.set r (some cs), toks := T } := fun cs T hne hA => by
   obtain ⟨L, rfl⟩ := hA
   unfold finMem
   have e : (m.vars.set r (some cs) ++ L).take m.vars.length = m.vars.set r (some cs) := by
    rw [List.take_append_of_le_length (by simp)]
    exact List.take_of_length_le (by simp)
   rw [if_neg]
   ·simp only [e]
   ·simp only [e]
    intro he
    have : (m.vars.set r (some cs))[r]? = m.vars[r]? := by rw [he]
    rw [List.getElem?_set_self hlt] at this
    exact hne cs (var_of this.symm) rfl
  have hpos := len_pos hn
  have hrl := rowsFl_len l
  rcases lstOk_cases h with ⟨rows, hv, h1⟩ | ⟨id, v, rows, hv, h1, h2⟩
  ·rw [addL_full hv hn] at hA ⊢
   refine go _ _ (fun c hc => ?_) hA
   rw [hv] at hc
   cases hc
   simp
  ·rw [addL_tok hv hn] at hA ⊢
   refine go _ _ (fun c hc => ?_) hA
   rw [hv] at hc
   cases hc
   intro he
   have h9 := congrArg (fun c : List AV => match c with | [.lst (.tok _ w) _ _] => w | _ => 0) he
   simp only at h9
   omega
open Classical in
noncomputable def lnoteG : List AV → Mem → Option (AV × Mem)
 | [.ptr r 0, .v (.bool b), .v (.int .i64 rule), .v (.int .i64 i), .v (.int .i64 p)], m => if lstOk m r 1 then some (.tup [], addL m r (if b = true then [⟨rule, i, p⟩] else [])) else none
 | _, _ => none
theorem lnoteG_at {m : Mem} {r : Nat} {b : Bool} {rule i p : Int} (h : lstOk m r 1) : lnoteG [.ptr r 0, .v (.bool b), .v (.int .i64 rule), .v (.int .i64 i), .v (.int .i64 p)] m = some (.tup [], addL m r (if b = true then [⟨rule, i, p⟩] else [])) := by
 simp only [lnoteG]
 rw [if_pos h]
attribute [local go_sem] szStr szInt Option.getD_some isNil evStr iv loadInt mkFl mkNo1
def kpLNote : Nat → Option (List Nat) := fun
 | 0 => some [0, 2, 3, 4, 10]
 | 1 => some []
 | _ => none
attribute [go_sem] kpLNote
theorem lnote_ok : FunOk Tryz.prog 67 lnoteG := by
 have hC := table_ok (P := Tryz.prog) (l := []) table_nil
 refine fun_ok mixed hC Tryz.func67 rfl kpLNote false rfl fun args m r h => ?_
 unfold lnoteG at h
 split at h
 ·rename_i r b rule i p
  split at h
  ·rename_i hok
   simp only [Option.some.injEq] at h
   subst h
   refine ⟨Nat.le_of_ble_eq_true rfl, ?_⟩
   refine en ?_
   cases b with
   | false =>
    refine go0 ?_
    refine runs_cond rfl (fun hc => by cases hc) (fun hc => ?_)
    refine go0 ?_
    exact leaves_none rfl (fin_addL hok (above_self _))
   | true =>
    have hfin := fin_addL (l := [⟨rule, i, p⟩]) hok (above_self _)
    have app := fun (g : Grow) (rows : List (List AV)) (row : List AV) (hl : rows.length + 1 ≤ lim) => app_of (m := m) (g := g) (xs := rows) (ys := [row]) appNo asList_lst (asList_lst (g := .full)) hl
    rw [if_pos rfl]
    rcases lstOk_cases hok with ⟨rows, hv, h1⟩ | ⟨id, v, rows, hv, h1, h2⟩
    ·have v1 := lpNotes hv
     have v2 := app .full rows [.v (.int .i64 rule), .v (.int .i64 i), .v (.int .i64 p)] (by unfold lim; omega)
     have v3 := putNotes (m := { m with toks := m.toks ++ [0] }) (g := .tok m.toks.length 0) (rows := rows ++ [[.v (.int .i64 rule), .v (.int .i64 i), .v (.int .i64 p)]]) (l := .lst .full 3 rows) (r := r) hv
     rw [addL_full hv (by simp)] at hfin ⊢
     refine go0 ?_
     refine runs_cond rfl (fun hc => ?_) (fun hc => by cases hc)
     refine go1 (jn @v1 (jn @v2 @v3)) ?_
     exact leaves_none rfl hfin
    ·have v1 := lpNotes hv
     have v2 := app (.tok id v) rows [.v (.int .i64 rule), .v (.int .i64 i), .v (.int .i64 p)] (by unfold lim; omega)
     simp only [h2, if_true] at v2
     have v3 := putNotes (m := { m with toks := m.toks.set id (v + 1) }) (g := .tok id (v + 1)) (rows := rows ++ [[.v (.int .i64 rule), .v (.int .i64 i), .v (.int .i64 p)]]) (l := .lst (.tok id v) 3 rows) (r := r) hv
     rw [addL_tok hv (by simp)] at hfin ⊢
     refine go0 ?_
     refine runs_cond rfl (fun hc => ?_) (fun hc => by cases hc)
     refine go1 (jn @v1 (jn @v2 @v3)) ?_
     exact leaves_none rfl hfin
  ·cases h
 ·cases h
end
noncomputable section
attribute [local irreducible] Next Inside Runs Ops table
attribute [local go_sem] szStr szInt Option.getD_some isNil evStr iv loadStr loadInt ldGs ldPh mapRc mapGs mapPh cellsRc cellsGs cellsPh newRc newGs newPh fpRcPhases fpRcGroups rowsS_len rowsGs_len rowsPh_len fpGsGroup fpGsParam fpPhSets
theorem lnote_round {m m' : Mem} {r n : Nat} {fl : List Fl} (hok : lstOk m r n) (hfl : fl.length < n) (hA : Above (addL m r fl) m') (b : Bool) (rule i p : Int) :
  lnoteG [.ptr r 0, .v (.bool b), .v (.int .i64 rule), .v (.int .i64 i), .v (.int .i64 p)] m' = some (.tup [], addL m' r (if b = true then [⟨rule, i, p⟩] else [])) ∧ Above (addL m r (fl ++ (if b = true then [⟨rule, i, p⟩] else []))) (addL m' r (if b = true then [⟨rule, i, p⟩] else [])) := by
 have h1 := addL_ok hok (Nat.le_of_lt hfl)
 refine ⟨lnoteG_at (lstOk_le (lstOk_above hA h1) (by omega)), ?_⟩
 rw [← addL_app hok]
 exact addL_above hA h1
theorem lpStr1 {m : Mem} {r : Nat} {s : ByteArray} (hv : m.var r = some [.v (.string s)]) : evLoad Tryz.prog m 9 (.ptr r 0) = some (.v (.string s)) := by
 unfold evLoad
 simp only [ptrCells, hv, Option.map_some, szStr]
 rw [show tAgg Tryz.prog 9 = some false by kernel_rfl]
 rfl
def strAt (m : Mem) (q : Nat) : ByteArray := match m.var q with | some [.v (.string s)] => s | _ => ⟨#[]⟩
def hasStr (m : Mem) (q : Nat) : Prop := m.var q = some [.v (.string (strAt m q))]
theorem strAt_is {m : Mem} {q : Nat} {s : ByteArray} (h : m.var q = some [.v (.string s)]) : strAt m q = s := by unfold strAt; rw [h]
theorem hasStr_of {m : Mem} {q : Nat} {s : ByteArray} (h : m.var q = some [.v (.string s)]) : hasStr m q := by unfold hasStr; rw [strAt_is h]; exact h
def idleS (s : ByteArray) (x : Gs) : Bool := (x.group == s) && (x.param == 0)
def idleSG : List AV → Mem → Option (AV × Mem)
 | [.agg cs, .ptr q 0], m =>
  match unGs cs with
  | some x => open Classical in if hasStr m q then some (.v (.bool (idleS (strAt m q) x)), m) else none
  | none => none
 | _, _ => none
theorem idleSG_at (x : Gs) (m : Mem) {q : Nat} (h : hasStr m q) : idleSG [.agg x.row, .ptr q 0] m = some (.v (.bool (idleS (strAt m q) x)), m) := by
 simp only [idleSG, unGs_row]
 rw [if_pos h]
def kpIdleS : Nat → Option (List Nat) := fun
 | 0 => some [1, 2]
 | 1 => some [3]
 | _ => none
attribute [go_sem] kpIdleS
theorem idleS_ok : FunOk Tryz.prog 110 idleSG := by
 have hC := table_ok (P := Tryz.prog) (l := []) table_nil
 refine fun_ok mixed hC Tryz.func110 rfl kpIdleS false rfl fun args m r h => ?_
 unfold idleSG at h
 split at h
 ·rename_i cs q
  split at h
  ·rename_i x hx
   obtain rfl := unGs_some hx
   split at h
   ·rename_i hq
    simp only [Option.some.injEq] at h
    subst h
    refine ⟨Nat.le_of_ble_eq_true rfl, ?_⟩
    refine en ?_
    have hv : (m.push x.row).var m.vars.length = some x.row := push_var
    have l1 := lpGsGroup hv
    have l2 := lpGsParam hv
    unfold hasStr at hq
    have l3 := lpStr1 (push_old (cs' := x.row) hq)
    generalize strAt m q = s at l3 ⊢
    unfold idleS
    cases h1 : (x.group == s) with
    | false =>
     refine go1 (jn @l1 (jn @l3 @h1)) ?_
     exact leaves_fin rfl rfl fin_push
    | true =>
     refine go1 (jn @l1 (jn @l3 (jn @h1 @l2))) ?_
     exact leaves_fin rfl rfl fin_push
   ·cases h
  ·cases h
 ·cases h
def liFindG : List AV → Mem → Option (AV × Mem)
 | [.lst _ 3 rows, .fn (.func 110) [] [.ptr q 0]], m =>
  match unsGs rows with
  | some l => open Classical in if l.length ≤ big40 ∧ hasStr m q then some (.v (.int .i64 (firstBy (idleS (strAt m q)) l 0)), m) else none
  | none => none
 | _, _ => none
theorem liFindG_eq {m : Mem} {g : Grow} {l : List Gs} {q : Nat} (h : l.length ≤ big40 ∧ hasStr m q) : liFindG [.lst g 3 (rowsGs l), .fn (.func 110) [] [.ptr q 0]] m = some (.v (.int .i64 (firstBy (idleS (strAt m q)) l 0)), m) := by
 simp only [liFindG, unsGs_rowsGs]
 rw [if_pos h]
def kp_liFind : Nat → Option (List Nat) := fun _ => some [0, 1, 4, 5, 7, 8, 9, 16]
attribute [go_sem] kp_liFind
def tab_liFind_ok : List (FuncId × (List AV → Mem → Option (AV × Mem))) := [(110, idleSG)]
attribute [local go_sem] List.cons_append
theorem liFind_ok : FunOk Tryz.prog 147 liFindG := by
 have hC := table_ok (P := Tryz.prog) (l := tab_liFind_ok) (table_more idleS_ok table_nil)
 have t1 := fun args mm => table_at (l := tab_liFind_ok) (f := 110) (args := args) (m := mm) rfl
 refine fun_ok mixed hC Tryz.func147 rfl kp_liFind false rfl fun args m r h => ?_
 unfold liFindG at h
 split at h
 ·rename_i g rows q
  split at h
  ·rename_i l hl0
   obtain rfl := unsGs_some hl0
   split at h
   ·rename_i hyp
    simp only [Option.some.injEq] at h
    subst h
    refine ⟨Nat.le_of_ble_eq_true rfl, ?_⟩
    refine en ?_
    obtain ⟨hlen, hfree⟩ := hyp
    have hlen' := hlen
    unfold big40 at hlen'
    refine go0 ?_
    refine runs_loop (fun k e m' => ∃ (i : Nat) (x5 x9 x16 : AV), i ≤ l.length ∧ firstBy (idleS (strAt m q)) (l.drop i) i = firstBy (idleS (strAt m q)) l 0 ∧ m = m' ∧ k = l.length - i ∧
     e = [(0, AV.lst g 3 (rowsGs l)), (1, .fn (.func 110) [] [.ptr q 0]), (4, .v (.int .i64 0)), (5, x5), (7, .v (.int .i64 l.length)), (8, .v (.int .i64 (i : Int))), (9, x9), (16, x16)]) (k := l.length) ⟨0, _, _, _, Nat.zero_le _, rfl, rfl, rfl, rfl⟩ ?_
    rintro k e m' ⟨i, x5, x9, x16, hi, hf, rfl, rfl, rfl⟩
    refine go0 ?_
    refine runs_cond rfl (fun hc => ?_) (fun hc => ?_)
    ·have hi1 : i < l.length := by have := of_decide_eq_true hc; omega
     have f1 := atGs (g := g) (kk := .i64) hi1
     have f2 := idleSG_at (l.getD i gs0) m hfree
     refine go1 (jn @f1 (jn @t1 @f2)) ?_
     refine runs_cond rfl (fun hc => ?_) (fun hc => ?_)
     ·rw [by_yes hi1 hc hf]
      refine go0 ?_
      exact leaves_v rfl rfl
     ·have r6 := next_i64 (i := i) (by omega)
      refine go1 @r6 ?_
      exact ⟨l.length - (i + 1), by omega, i + 1, _, _, _, hi1, by_no hi1 hc hf, rfl, rfl, rfl⟩
    ·have hi1 : i = l.length := by have := of_decide_eq_false hc; omega
     subst hi1
     rw [by_end hf]
     refine go0 ?_
     exact leaves_v rfl rfl
   ·cases h
  ·cases h
 ·cases h
def liAnyG : List AV → Mem → Option (AV × Mem)
 | [.lst _ 3 rows, .fn (.func 110) [] [.ptr q 0]], m =>
  match unsGs rows with
  | some l => open Classical in if l.length ≤ big40 ∧ hasStr m q then some (.v (.bool (l.any (idleS (strAt m q)))), m) else none
  | none => none
 | _, _ => none
theorem liAnyG_eq {m : Mem} {g : Grow} {l : List Gs} {q : Nat} (h : l.length ≤ big40 ∧ hasStr m q) : liAnyG [.lst g 3 (rowsGs l), .fn (.func 110) [] [.ptr q 0]] m = some (.v (.bool (l.any (idleS (strAt m q)))), m) := by
 simp only [liAnyG, unsGs_rowsGs]
 rw [if_pos h]
def kp_liAny : Nat → Option (List Nat) := fun _ => some [0, 1, 4]
attribute [go_sem] kp_liAny
def tab_liAny_ok : List (FuncId × (List AV → Mem → Option (AV × Mem))) := [(147, liFindG)]
theorem liAny_ok : FunOk Tryz.prog 112 liAnyG := by
 have hC := table_ok (P := Tryz.prog) (l := tab_liAny_ok) (table_more liFind_ok table_nil)
 have t1 := fun args mm => table_at (l := tab_liAny_ok) (f := 147) (args := args) (m := mm) rfl
 refine fun_ok mixed hC Tryz.func112 rfl kp_liAny false rfl fun args m r h => ?_
 unfold liAnyG at h
 split at h
 ·rename_i g rows q
  split at h
  ·rename_i l hl0
   obtain rfl := unsGs_some hl0
   split at h
   ·rename_i hyp
    simp only [Option.some.injEq] at h
    subst h
    refine ⟨Nat.le_of_ble_eq_true rfl, ?_⟩
    refine en ?_
    have f1 := liFindG_eq (m := m) (g := .no) hyp
    have f3 : decide (firstBy (idleS (strAt m q)) l 0 ≥ 0) = l.any (idleS (strAt m q)) := firstBy_any (idleS (strAt m q)) l 0
    refine go1 (jn @t1 (jn @f1 @f3)) ?_
    exact leaves_v rfl rfl
   ·cases h
  ·cases h
 ·cases h
def fnI (p : Nat) : AV := .fn (.func 110) [] [.ptr p 0]
def fnAt (m : Mem) (q : Nat) : Nat := match m.var q with | some [.fn _ _ [.ptr p 0]] => p | _ => 0
def idleP (s : ByteArray) (x : Ph) : Bool := x.sets.any (idleS s)
def hasFnI (m : Mem) (q : Nat) : Prop := m.var q = some [fnI (fnAt m q)] ∧ hasStr m (fnAt m q)
theorem fnAt_is {m : Mem} {q p : Nat} (h : m.var q = some [fnI p]) : fnAt m q = p := by unfold fnAt; rw [h]; rfl
theorem hasFnI_of {m : Mem} {q p : Nat} {s : ByteArray} (h : m.var q = some [fnI p]) (h1 : m.var p = some [.v (.string s)]) : hasFnI m q := by
 unfold hasFnI
 rw [fnAt_is h]
 exact ⟨h, hasStr_of h1⟩
def idlePG : List AV → Mem → Option (AV × Mem)
 | [.agg cs, .ptr q 0], m =>
  match unPh cs with
  | some x => open Classical in if x.sets.length ≤ big40 ∧ hasFnI m q then some (.v (.bool (idleP (strAt m (fnAt m q)) x)), m) else none
  | none => none
 | _, _ => none
theorem idlePG_at (x : Ph) (m : Mem) {q : Nat} (h : x.sets.length ≤ big40) (hq : hasFnI m q) : idlePG [.agg x.row, .ptr q 0] m = some (.v (.bool (idleP (strAt m (fnAt m q)) x)), m) := by
 simp only [idlePG, unPh_row]
 rw [if_pos ⟨h, hq⟩]
def kpIdleP : Nat → Option (List Nat) := fun
 | 0 => some [1, 2]
 | 1 => some [3]
 | _ => none
attribute [go_sem] kpIdleP
def tab_idleP_ok : List (FuncId × (List AV → Mem → Option (AV × Mem))) := [(112, liAnyG)]
theorem idleP_ok : FunOk Tryz.prog 111 idlePG := by
 have hC := table_ok (P := Tryz.prog) (l := tab_idleP_ok) (table_more liAny_ok table_nil)
 have t1 := fun args mm => table_at (l := tab_idleP_ok) (f := 112) (args := args) (m := mm) rfl
 refine fun_ok mixed hC Tryz.func111 rfl kpIdleP false rfl fun args m r h => ?_
 unfold idlePG at h
 split at h
 ·rename_i cs q
  split at h
  ·rename_i x hx
   obtain rfl := unPh_some hx
   split at h
   ·rename_i hyp
    simp only [Option.some.injEq] at h
    subst h
    refine ⟨Nat.le_of_ble_eq_true rfl, ?_⟩
    refine en ?_
    obtain ⟨hlen, hq, hs⟩ := hyp
    have hv : (m.push x.row).var m.vars.length = some x.row := push_var
    have l2 := lpPhSets hv
    have l3 := ldFn119 (push_old (cs' := x.row) hq)
    generalize fnAt m q = p at l3 hs ⊢
    unfold hasStr at hs
    have hs2 := push_old (cs' := x.row) hs
    unfold fnI at l3
    have f1 := liAnyG_eq (m := m.push x.row) (g := .no) (l := x.sets) (q := p) ⟨hlen, hasStr_of hs2⟩
    rw [strAt_is hs2] at f1
    unfold idleP
    refine go1 (jn @l2 (jn @l3 (jn @t1 @f1))) ?_
    exact leaves_fin rfl rfl fin_push
   ·cases h
  ·cases h
 ·cases h
def lpFindG : List AV → Mem → Option (AV × Mem)
 | [.lst _ 5 rows, .fn (.func 111) [] [.ptr q 0]], m =>
  match unsPh rows with
  | some l => open Classical in if l.length ≤ big40 ∧ (∀ x ∈ l, x.sets.length ≤ big40) ∧ hasFnI m q then some (.v (.int .i64 (firstBy (idleP (strAt m (fnAt m q))) l 0)), m) else none
  | none => none
 | _, _ => none
theorem lpFindG_eq {m : Mem} {g : Grow} {l : List Ph} {q : Nat} (h : l.length ≤ big40 ∧ (∀ x ∈ l, x.sets.length ≤ big40) ∧ hasFnI m q) : lpFindG [.lst g 5 (rowsPh l), .fn (.func 111) [] [.ptr q 0]] m = some (.v (.int .i64 (firstBy (idleP (strAt m (fnAt m q))) l 0)), m) := by
 simp only [lpFindG, unsPh_rowsPh]
 rw [if_pos h]
def kp_lpFind : Nat → Option (List Nat) := fun _ => some [0, 1, 4, 5, 7, 8, 9, 16]
attribute [go_sem] kp_lpFind
def tab_lpFind_ok : List (FuncId × (List AV → Mem → Option (AV × Mem))) := [(111, idlePG)]
theorem lpFind_ok : FunOk Tryz.prog 123 lpFindG := by
 have hC := table_ok (P := Tryz.prog) (l := tab_lpFind_ok) (table_more idleP_ok table_nil)
 have t1 := fun args mm => table_at (l := tab_lpFind_ok) (f := 111) (args := args) (m := mm) rfl
 refine fun_ok mixed hC Tryz.func123 rfl kp_lpFind false rfl fun args m r h => ?_
 unfold lpFindG at h
 split at h
 ·rename_i g rows q
  split at h
  ·rename_i l hl0
   obtain rfl := unsPh_some hl0
   split at h
   ·rename_i hyp
    simp only [Option.some.injEq] at h
    subst h
    refine ⟨Nat.le_of_ble_eq_true rfl, ?_⟩
    refine en ?_
    obtain ⟨hlen, hb, hfree⟩ := hyp
    have hlen' := hlen
    unfold big40 at hlen'
    refine go0 ?_
    refine runs_loop (fun k e m' => ∃ (i : Nat) (x5 x9 x16 : AV), i ≤ l.length ∧ firstBy (idleP (strAt m (fnAt m q))) (l.drop i) i = firstBy (idleP (strAt m (fnAt m q))) l 0 ∧ m = m' ∧ k = l.length - i ∧
     e = [(0, AV.lst g 5 (rowsPh l)), (1, .fn (.func 111) [] [.ptr q 0]), (4, .v (.int .i64 0)), (5, x5), (7, .v (.int .i64 l.length)), (8, .v (.int .i64 (i : Int))), (9, x9), (16, x16)]) (k := l.length) ⟨0, _, _, _, Nat.zero_le _, rfl, rfl, rfl, rfl⟩ ?_
    rintro k e m' ⟨i, x5, x9, x16, hi, hf, rfl, rfl, rfl⟩
    refine go0 ?_
    refine runs_cond rfl (fun hc => ?_) (fun hc => ?_)
    ·have hi1 : i < l.length := by have := of_decide_eq_true hc; omega
     have f1 := atPh (g := g) (kk := .i64) hi1
     have f2 := idlePG_at (l.getD i ph0) m (hb _ (by rw [List.getD, List.getElem?_eq_getElem hi1]; exact List.getElem_mem _)) hfree
     refine go1 (jn @f1 (jn @t1 @f2)) ?_
     refine runs_cond rfl (fun hc => ?_) (fun hc => ?_)
     ·rw [by_yes hi1 hc hf]
      refine go0 ?_
      exact leaves_v rfl rfl
     ·have r6 := next_i64 (i := i) (by omega)
      refine go1 @r6 ?_
      exact ⟨l.length - (i + 1), by omega, i + 1, _, _, _, hi1, by_no hi1 hc hf, rfl, rfl, rfl⟩
    ·have hi1 : i = l.length := by have := of_decide_eq_false hc; omega
     subst hi1
     rw [by_end hf]
     refine go0 ?_
     exact leaves_v rfl rfl
   ·cases h
  ·cases h
 ·cases h
def lpAnyG : List AV → Mem → Option (AV × Mem)
 | [.lst _ 5 rows, .fn (.func 111) [] [.ptr q 0]], m =>
  match unsPh rows with
  | some l => open Classical in if l.length ≤ big40 ∧ (∀ x ∈ l, x.sets.length ≤ big40) ∧ hasFnI m q then some (.v (.bool (l.any (idleP (strAt m (fnAt m q))))), m) else none
  | none => none
 | _, _ => none
theorem lpAnyG_eq {m : Mem} {g : Grow} {l : List Ph} {q : Nat} (h : l.length ≤ big40 ∧ (∀ x ∈ l, x.sets.length ≤ big40) ∧ hasFnI m q) : lpAnyG [.lst g 5 (rowsPh l), .fn (.func 111) [] [.ptr q 0]] m = some (.v (.bool (l.any (idleP (strAt m (fnAt m q))))), m) := by
 simp only [lpAnyG, unsPh_rowsPh]
 rw [if_pos h]
def kp_lpAny : Nat → Option (List Nat) := fun _ => some [0, 1, 4]
attribute [go_sem] kp_lpAny
def tab_lpAny_ok : List (FuncId × (List AV → Mem → Option (AV × Mem))) := [(123, lpFindG)]
theorem lpAny_ok : FunOk Tryz.prog 74 lpAnyG := by
 have hC := table_ok (P := Tryz.prog) (l := tab_lpAny_ok) (table_more lpFind_ok table_nil)
 have t1 := fun args mm => table_at (l := tab_lpAny_ok) (f := 123) (args := args) (m := mm) rfl
 refine fun_ok mixed hC Tryz.func74 rfl kp_lpAny false rfl fun args m r h => ?_
 unfold lpAnyG at h
 split at h
 ·rename_i g rows q
  split at h
  ·rename_i l hl0
   obtain rfl := unsPh_some hl0
   split at h
   ·rename_i hyp
    simp only [Option.some.injEq] at h
    subst h
    refine ⟨Nat.le_of_ble_eq_true rfl, ?_⟩
    refine en ?_
    have f1 := lpFindG_eq (m := m) (g := .no) hyp
    have f3 : decide (firstBy (idleP (strAt m (fnAt m q))) l 0 ≥ 0) = l.any (idleP (strAt m (fnAt m q))) := firstBy_any (idleP (strAt m (fnAt m q))) l 0
    refine go1 (jn @t1 (jn @f1 @f3)) ?_
    exact leaves_v rfl rfl
   ·cases h
  ·cases h
 ·cases h
def idleB (R : Rc) (s : ByteArray) : Bool := R.phases.any (idleP s)
def lidleTo (R : Rc) : Nat → List Fl
 | 0 => []
 | i + 1 => lidleTo R i ++ (if (!idleB R (R.groups.getD i ⟨#[]⟩)) = true then [⟨1, (i : Int), 0⟩] else [])
theorem lidleTo_len (R : Rc) : ∀ i, (lidleTo R i).length ≤ i
 | 0 => Nat.le_refl _
 | i + 1 => by
  have := lidleTo_len R i
  rw [lidleTo, List.length_append]
  split
  ·simp only [List.length_cons, List.length_nil]; omega
  ·simp only [List.length_nil]; omega
def lidleG : List AV → Mem → Option (AV × Mem)
 | [.ptr r 0, .agg cs], m =>
  match unRc cs with
  | some R => open Classical in if R.small ∧ lstOk m r 100 then some (.tup [], addL m r (lidleTo R R.groups.length)) else none
  | none => none
 | _, _ => none
theorem lidleG_at {m : Mem} {r : Nat} {R : Rc} (h : R.small) (hr : lstOk m r 100) : lidleG [.ptr r 0, .agg R.row] m = some (.tup [], addL m r (lidleTo R R.groups.length)) := by
 simp only [lidleG, unRc_row]
 rw [if_pos ⟨h, hr⟩]
theorem zrStr1 : zeroCells Tryz.prog 9 = some [.v (.string ⟨#[]⟩)] := by kernel_rfl
theorem znStr1 {m : Mem} : newVar m m.vars.length [.v (.string ⟨#[]⟩)] = some (m.push [.v (.string ⟨#[]⟩)]) := newVar_push rfl
theorem zsStr1 {m : Mem} {s : ByteArray} : evStore Tryz.prog (m.push [.v (.string ⟨#[]⟩)]) 9 (.ptr m.vars.length 0) (.v (.string s)) = some (m.push [.v (.string s)]) := by
 rw [store_push (cs := [.v (.string s)]) rfl szStr (Nat.le_refl _) rfl]
 rfl
theorem zsFnI {m : Mem} {p : Nat} (hp : p < m.vars.length) : evStore Tryz.prog (m.push [.v .nilFunc]) 127 (.ptr m.vars.length 0) (fnI p) = some (m.push [fnI p]) := by
 rw [store_push (cs := [fnI p]) rfl szF119 (Nat.le_refl _) (by simp [fnI, refLe, refLe.okArg]; omega)]
 rfl
def kpLIdle : Nat → Option (List Nat) := fun
 | 0 => some [0, 3]
 | 1 => some [0, 3, 9, 10, 11]
 | 2 => some [0, 3, 9, 10, 11, 12]
 | 3 => some [0, 3, 4, 5, 9, 10, 11]
 | 4 => some [0, 3, 4, 6, 9, 10, 11]
 | 5 => some [0, 3, 4, 7, 9, 10, 11]
 | 6 => some [0, 3, 9, 10, 11]
 | 7 => some [0, 3, 9, 10, 11]
 | _ => none
attribute [go_sem] kpLIdle
def tab_lidle_ok : List (FuncId × (List AV → Mem → Option (AV × Mem))) := [(74, lpAnyG), (67, lnoteG)]
theorem lidle_ok : FunOk Tryz.prog 59 lidleG := by
 have hC := table_ok (P := Tryz.prog) (l := tab_lidle_ok) (table_more lpAny_ok (table_more lnote_ok table_nil))
 have t1 := fun args mm => table_at (l := tab_lidle_ok) (f := 74) (args := args) (m := mm) rfl
 have t2 := fun args mm => table_at (l := tab_lidle_ok) (f := 67) (args := args) (m := mm) rfl
 refine fun_ok mixed hC Tryz.func59 rfl kpLIdle false rfl fun args m r h => ?_
 unfold lidleG at h
 split at h
 ·rename_i r cs
  split at h
  ·rename_i R hR
   obtain rfl := unRc_some hR
   split at h
   ·rename_i hyp
    obtain ⟨hsm, hok⟩ := hyp
    simp only [Option.some.injEq] at h
    subst h
    refine ⟨Nat.le_of_ble_eq_true rfl, ?_⟩
    refine en ?_
    have hr := lstOk_lt hok
    have hG64 := hsm.2.1
    have hP64 := hsm.2.2.1
    have hA := above_push (cs := R.row) (above_self m)
    have hv : (m.push R.row).var m.vars.length = some R.row := push_var
    have nr := newRc (m := m) (x := R)
    generalize m.push R.row = m1 at hA hv nr
    have l1 := lpRcGroups hv
    refine go1 (jn @nr @l1) ?_
    have hne : m.vars.length ≠ r := by omega
    generalize m.vars.length = n1 at hv hne ⊢
    refine runs_loop (fun k e m' => ∃ (i : Nat), i ≤ R.groups.length ∧ Above (addL m r (lidleTo R i)) m' ∧ m'.var n1 = some R.row ∧ k = R.groups.length - i ∧
     e = [(0, AV.ptr r 0), (3, .ptr n1 0), (9, .lst .no 1 (rowsS R.groups)), (10, .v (.int .i64 (R.groups.length : Int))), (11, .v (.int .i64 (i : Int)))]) (k := R.groups.length) ⟨0, Nat.zero_le _, hA, hv, rfl, rfl⟩ ?_
    rintro k e m' ⟨i, hi0, hA1, hv1, rfl, rfl⟩
    refine go0 ?_
    refine runs_cond rfl (fun hc => ?_) (fun hc => ?_)
    ·have hi1 : i < R.groups.length := by have := of_decide_eq_true hc; omega
     have f1 := atStrs (g := .no) (kk := .i64) hi1
     have hN : lidleTo R (i + 1) = lidleTo R i ++ (if (!idleB R (R.groups.getD i ⟨#[]⟩)) = true then [⟨1, (i : Int), 0⟩] else []) := rfl
     have hll := lidleTo_len R i
     have r6 := next_i64 (i := i) (by omega)
     generalize R.groups.getD i ⟨#[]⟩ = s at f1 hN
     have s1 := zsStr1 (m := m') (s := s)
     have hA2 := above_push (cs := [.v (.string s)]) hA1
     have hv2 := push_old (cs' := [.v (.string s)]) hv1
     have hp2 : (m'.push [.v (.string s)]).var m'.vars.length = some [.v (.string s)] := push_var
     have hlt : m'.vars.length < (m'.push [.v (.string s)]).vars.length := by rw [push_len]; omega
     have z1 := znStr1 (m := m')
     generalize m'.push [.v (.string s)] = m2 at s1 hA2 hv2 hp2 hlt
     refine go1 (jn @f1 (jn @zrStr1 (jn @z1 @s1))) ?_
     generalize m'.vars.length = p2 at hp2 hlt ⊢
     have s2 := zsFnI hlt
     have hA3 := above_push (cs := [fnI p2]) hA2
     have hv3 := push_old (cs' := [fnI p2]) hv2
     have hp3 := push_old (cs' := [fnI p2]) hp2
     have hq3 : (m2.push [fnI p2]).var m2.vars.length = some [fnI p2] := push_var
     generalize m2.push [fnI p2] = m3 at s2 hA3 hv3 hp3 hq3
     have z2 := znF (m := m2)
     unfold fnI at s2
     refine go1 (jn @zrF119 (jn @z2 @s2)) ?_
     generalize m2.vars.length = q3 at hq3 ⊢
     have l3 := lpRcPhases hv3
     have f2 := lpAnyG_eq (m := m3) (g := .no) (l := R.phases) (q := q3) ⟨by unfold big40; omega, fun x hx => by have := (hsm.2.2.2 x hx).2.1; unfold big40; omega, hasFnI_of hq3 hp3⟩
     rw [fnAt_is hq3, strAt_is hp3] at f2
     obtain ⟨c1, hA4⟩ := lnote_round (n := 100) hok (by omega) hA3 (!idleB R s) 1 (i : Int) 0
     have e1 : R.phases.any (idleP s) = idleB R s := rfl
     rw [e1] at f2
     rw [← hN] at hA4
     have hv4 := addL_ne (l := if (!idleB R s) = true then [⟨1, (i : Int), 0⟩] else []) hne hv3
     generalize (if (!idleB R s) = true then [(⟨1, (i : Int), 0⟩ : Fl)] else []) = add at c1 hA4 hv4
     generalize idleB R s = b at f2 c1
     refine go1 (jn @l3 (jn @t1 (jn @f2 (jn @t2 (jn @c1 @r6))))) ?_
     exact ⟨R.groups.length - (i + 1), by omega, i + 1, hi1, hA4, hv4, rfl, rfl⟩
    ·have hi1 : i = R.groups.length := by have := of_decide_eq_false hc; omega
     subst hi1
     refine go0 ?_
     exact leaves_none rfl (fin_addL hok hA1)
   ·cases h
  ·cases h
 ·cases h
end
end Go.Proofs.YtojaokhkbmiidaaGreat.Ev
