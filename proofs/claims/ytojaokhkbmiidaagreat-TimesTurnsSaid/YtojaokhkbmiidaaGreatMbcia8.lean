/- What a recipe must keep to: all rules. (Written out by wip/tools/gen_rulesy.py.) -/
import Derived.Test.YtojaokhkbmiidaaGreatMbcia7
import Derived.Test.YtojaokhkbmiidaaGreatMbcia6
import Derived.Test.YtojaokhkbmiidaaGreatMbcia1
namespace Go.Proofs.YtojaokhkbmiidaaGreat.Ev
open Go Go.Proofs
set_option maxRecDepth 10000
set_option maxHeartbeats 8000000
set_option linter.unusedVariables false
set_option linter.unusedSimpArgs false
section
attribute [local irreducible] Next Inside Runs Ops table
attribute [local go_sem] szStr szInt Option.getD_some isNil evStr iv loadStr loadInt rowsS_len rowsN_len rowsGs_len rowsPh_len rowsFl_len mapGs mapPh mapRc ldNode ldGs ldPh cellsGs cellsPh cellsRc newGs newPh newRc zrPh zoPh znPh zsPh fpPhLen fpPhLenU fpRcSteps fpRcEpoch fpRcWeights fpRcMetrics fpRcGroups fpRcEval fpRcPhases fpRlList
theorem or_ok {P : Program} {f : FuncId} {g1 g2 : List AV → Mem → Option (AV × Mem)} (h1 : FunOk P f g1) (h2 : FunOk P f g2) : FunOk P f fun a m => match g1 a m with | some r => some r | none => g2 a m := by
  intro args m r m' h
  dsimp only at h
  split at h
  · rename_i x hx
    exact h1 args m r m' (hx.trans h)
  · exact h2 args m r m' h
theorem setsG_at {m : Mem} {r : Nat} {rule : Int} {R : Rc} (hv : m.var r = some [.v (.int .i64 rule), .lst .full 3 []]) (h : R.small) : setsG [.ptr r 0, .agg R.row] m = some (.tup [], flMem m r rule (setsFl rule R)) := by
  simp only [setsG, unRc_row, hv]
  rw [if_pos h]
def eachG : List AV → Mem → Option (AV × Mem) := fun a m => match eachBG a m with | some r => some r | none => eachHG a m
theorem each_ok : FunOk Tryz.prog 87 eachG := or_ok eachB_ok eachH_ok
theorem eachG_B {m : Mem} {r : Nat} {rule : Int} {R : Rc} (hv : m.var r = some [.v (.int .i64 rule), .lst .full 3 []]) (h : R.small) : eachG [.ptr r 0, .agg R.row, .fn (.func 88) [] []] m = some (.tup [], flMem m r rule (eachBL rule R)) := by
  unfold eachG
  rw [eachBG_at hv h]
theorem eachG_H {m : Mem} {r : Nat} {rule : Int} {R : Rc} (hv : m.var r = some [.v (.int .i64 rule), .lst .full 3 []]) (h : R.small) : eachG [.ptr r 0, .agg R.row, .fn (.func 91) [] []] m = some (.tup [], flMem m r rule (eachHL rule R)) := by
  unfold eachG
  rw [show eachBG [.ptr r 0, .agg R.row, .fn (.func 91) [] []] m = none from rfl]
  exact eachHG_at hv h
theorem cellsRl {rule : Int} : cellsOf (.agg [.v (.int .i64 rule), .lst .full 3 []]) = some [.v (.int .i64 rule), .lst .full 3 []] := rfl
attribute [local go_sem] cellsRl
theorem newRl {m : Mem} {rule : Int} : newVar m m.vars.length [.v (.int .i64 rule), .lst .full 3 []] = some (m.push [.v (.int .i64 rule), .lst .full 3 []]) := newVar_push rfl
theorem mkRl {rule : Int} : evBuild Tryz.prog 119 [(0, .v (.int .i64 rule))] = some (.agg [.v (.int .i64 rule), .lst .full 3 []]) := by kernel_rfl
theorem flLst_is (m : Mem) (L : List Fl) : ∃ g, flLst m L = .lst g 3 (rowsFl L) := by
  unfold flLst
  split
  · rename_i h
    subst h
    exact ⟨_, rfl⟩
  · exact ⟨_, rfl⟩
theorem fin_own {m m5 m' : Mem} {n5 : Nat} {rule : Int} {L : List Fl} (h1 : Above m m5) (h2 : m.vars.length ≤ n5) (h : Above (flMem m5 n5 rule L) m') : finMem m m' = m := by
  obtain ⟨L1, rfl⟩ := h1
  obtain ⟨L2, rfl⟩ := h
  have hv : ((flMem { vars := m.vars ++ L1, toks := m.toks } n5 rule L).vars ++ L2).take m.vars.length = m.vars := by
    unfold flMem
    split
    · simp
    · simp only [List.set_append]
      rw [if_neg (by omega)]
      simp
  have ht : (flMem { vars := m.vars ++ L1, toks := m.toks } n5 rule L).toks.take m.toks.length = m.toks := by
    unfold flMem
    split
    · simp
    · simp
  unfold finMem
  simp only [hv, if_true, ht]
/-! ### the sum -/
def accS (R : Rc) : Nat → Int
  | 0 => 0
  | i + 1 => accS R i + (R.stepsOf (R.phases.getD i ph0)).1
def restP (p : Ph) : Bool := p.lenU == 3
def Rc.sumBad (R : Rc) : Bool := if firstBy restP R.phases 0 < 0 then accS R R.phases.length != R.steps else decide (accS R (firstBy restP R.phases 0).toNat ≥ R.steps)
def brk1 (R : Rc) : List Fl := flawIf (!decide (1 ≤ R.steps ∧ R.steps ≤ 1000000)) 1 0 0
def brk2 (R : Rc) : List Fl := flawIf (decide (R.epoch > 1000000) || ((R.epoch == 0) && R.epochs)) 2 0 0
def sumL (rule : Int) (R : Rc) : List Fl := if ((((brk1 R).length : Nat) : Int) == 0) && (((((brk2 R).length : Nat) : Int) == 0) && ((((lastsL 8 R).length : Nat) : Int) == 0)) then flawIf R.sumBad rule 0 0 else []
def brkL (R : Rc) (rule : Int) : List Fl :=
  if rule = 1 then flawIf (!decide (1 ≤ R.steps ∧ R.steps ≤ 1000000)) 1 0 0 else if rule = 2 then flawIf (decide (R.epoch > 1000000) || ((R.epoch == 0) && R.epochs)) 2 0 0 else if rule = 3 then flawIf (decide (R.weights > 16)) 3 0 0 else if rule = 4 then twinsL 4 R.metrics else if rule = 5 then twinsL 5 R.groups else if rule = 6 then flawIf (((R.phases.length : Int) == 0)) 6 0 0 else if rule = 7 then twinsL 7 (R.phases.map Ph.name) else if rule = 8 then lastsL 8 R else if rule = 9 then sumL 9 R else if rule = 10 then frozenL 10 R else if rule = 11 then setsFl 11 R else if rule = 12 then eachBL 12 R else if rule = 13 then eachHL 13 R else if rule = 14 then flawIf (R.endBad 14) 14 0 0 else if rule = 15 then flawIf (R.endBad 15) 15 0 0 else if rule = 16 then flawIf (R.endBad 16) 16 0 0 else if rule = 17 then flawIf (R.endBad 17) 17 0 0 else if rule = 18 then flawIf (R.endBad 18) 18 0 0 else if rule = 19 then flawIf (decide (R.eval > R.steps)) 19 0 0 else []
def Rc.kept (R : Rc) (rule : Int) : Bool := (((brkL R rule).length : Nat) : Int) == 0
def brk0G : List AV → Mem → Option (AV × Mem)
  | [.agg cs, .v (.int .i64 rule)], m =>
    match unRc cs with
    | some R => if R.small ∧ R.fit ∧ (rule = 1 ∨ rule = 2 ∨ rule = 8) then some (.lst .no 3 (rowsFl (brkL R rule)), m) else none
    | none => none
  | _, _ => none
theorem brk0G_at {m : Mem} {R : Rc} {rule : Int} (h : R.small) (h1 : R.fit) (h2 : rule = 1 ∨ rule = 2 ∨ rule = 8) : brk0G [.agg R.row, .v (.int .i64 rule)] m = some (.lst .no 3 (rowsFl (brkL R rule)), m) := by
  simp only [brk0G, unRc_row]
  rw [if_pos ⟨h, h1, h2⟩]
def kpBrk0 : Nat → Option (List Nat) := fun
  | 0 => some [1, 2]
  | 1 => some [1, 2, 5]
  | 2 => some [2, 5, 9]
  | 3 => some [5]
  | 4 => some [2, 5, 9, 13]
  | 5 => some [5]
  | 6 => some [2, 5, 9, 21]
  | 7 => some [5]
  | 8 => some [2, 5, 9, 37]
  | 9 => some [5]
  | 10 => some [2, 5, 9, 44]
  | 11 => some [5]
  | 12 => some [2, 5, 9, 50]
  | 13 => some [5]
  | 14 => some [2, 5, 9, 56]
  | 15 => some [5]
  | 16 => some [2, 5, 9, 64]
  | 17 => some [5]
  | 18 => some [2, 5, 9, 70]
  | 19 => some [5]
  | 20 => some [2, 5, 9, 75]
  | 21 => some [5]
  | 22 => some [2, 5, 9, 80]
  | 23 => some [5]
  | 24 => some [2, 5, 9, 85]
  | 25 => some [5]
  | 26 => some [2, 5, 9, 90]
  | 27 => some [5]
  | 28 => some [2, 5, 9, 95]
  | 29 => some [5]
  | 30 => some [2, 5, 100]
  | 31 => some [5]
  | 32 => some [4]
  | _ => none
attribute [go_sem] kpBrk0
def tab_brk0_ok : List (FuncId × (List AV → Mem → Option (AV × Mem))) := [(79, withinG), (78, noteG), (80, epochsG), (83, rlastsG)]
theorem brk0_ok : FunOk Tryz.prog 38 brk0G := by
  have hC := table_ok (P := Tryz.prog) (l := tab_brk0_ok) (table_more rwithin_ok (table_more note_ok (table_more epochs_ok (table_more rlasts_ok table_nil))))
  have t1 := fun args mm => table_at (l := tab_brk0_ok) (f := 79) (args := args) (m := mm) rfl
  have t2 := fun args mm => table_at (l := tab_brk0_ok) (f := 78) (args := args) (m := mm) rfl
  have t3 := fun args mm => table_at (l := tab_brk0_ok) (f := 80) (args := args) (m := mm) rfl
  have t4 := fun args mm => table_at (l := tab_brk0_ok) (f := 83) (args := args) (m := mm) rfl
  refine fun_ok mixed hC Tryz.func38 rfl kpBrk0 false rfl fun args m r h => ?_
  unfold brk0G at h
  split at h
  · rename_i cs rule
    split at h
    · rename_i R hR
      obtain rfl := unRc_some hR
      split at h
      · rename_i hyp
        obtain ⟨hsm, hfit, hrule⟩ := hyp
        simp only [Option.some.injEq] at h
        subst h
        refine ⟨Nat.le_of_ble_eq_true rfl, ?_⟩
        refine en ?_
        have hv3 : (m.push R.row).var m.vars.length = some R.row := push_var
        have hn3 : m.vars.length < (m.push R.row).vars.length := by rw [push_len]; omega
        have hA1 := above_push (cs := R.row) (above_self m)
        have nr := newRc (m := m) (x := R)
        generalize hm1 : m.push R.row = m1 at hv3 hn3 hA1 nr
        have nl := newRl (m := m1) (rule := rule)
        have hv5 : (m1.push [.v (.int .i64 rule), .lst .full 3 []]).var m1.vars.length = some [.v (.int .i64 rule), .lst .full 3 []] := push_var
        have hw3 := push_old (cs' := [.v (.int .i64 rule), .lst .full 3 []]) hv3
        have hA2 := above_push (cs := [.v (.int .i64 rule), .lst .full 3 []]) hA1
        have hle : m.vars.length ≤ m1.vars.length := by omega
        generalize hn5 : m1.vars.length = n5 at nl hv5 hle
        generalize m1.push [.v (.int .i64 rule), .lst .full 3 []] = m5 at nl hv5 hw3 hA2
        have fin : ∀ (e : Env) (m' : Mem) (L : List Fl), Above (flMem m5 n5 rule L) m' → brkL R rule = L → Ev.get e 4 = flLst m5 L → Leaves Tryz.prog false Tryz.f38 m (.lst .no 3 (rowsFl (brkL R rule)), m) .ret e m' := fun e m' L hA hL hg => by
          obtain ⟨g, hgl⟩ := flLst_is m5 L
          rw [hL]
          exact leaves_lst rfl (hg.trans hgl) (fin_own hA2 hle hA)
        have hld : ∀ (m' : Mem) (L : List Fl), Above (flMem m5 n5 rule L) m' → evLoad Tryz.prog m' 40 (.ptr n5 1) = some (flLst m5 L) := fun m' L hA => lpRlList (above_var hA (flMem_var hv5))
        have l1 := vrRc hw3
        have l2 := lpRcSteps hw3
        have l3 := lpRcEpoch hw3
        have l4 := lpRcWeights hw3
        have l5 := lpRcMetrics hw3
        have l6 := lpRcGroups hw3
        have l7 := lpRcEval hw3
        have l8 := lpRcPhases hw3
        have f1 : ∀ x lo hi mm, withinG [.v (.int .i64 x), .v (.int .i64 lo), .v (.int .i64 hi)] mm = some (.v (.bool (decide (lo ≤ x ∧ x ≤ hi))), mm) := fun _ _ _ _ => rfl
        have f3 := fun mm => epochsG_at R mm hfit
        rcases hrule with rfl | rfl | rfl
        · have hL : brkL R 1 = flawIf (!decide (1 ≤ R.steps ∧ R.steps ≤ 1000000)) 1 0 0 := rfl
          obtain ⟨m2, n1, hA, n3⟩ := note_step hv5 (by rw [flMem_nil]; exact above_self m5) (by decide) (!decide (1 ≤ R.steps ∧ R.steps ≤ 1000000)) 0 0
          rw [flawIf_app, List.nil_append] at hA
          have k2 := hld _ _ hA
          repeat' (first | refine gos1 (jn @nr (jn @hn5 (jn @nl (jn @mkRl (jn @l1 (jn @l2 (jn @l3 (jn @l4 (jn @l5 (jn @l6 (jn @l7 (jn @l8 (jn @t1 (jn @f1 (jn @t2 (jn @n1 @k2)))))))))))))))) ?_ | (refine ops_here ?_; (fail_if_success (refine ops_case (B := true) rfl rfl rfl ?_ ?_)); (fail_if_success (refine ops_case (B := false) rfl rfl rfl ?_ ?_)); refine ops_case rfl rfl rfl (fun hB => ?_) (fun hB => ?_) <;> rw [hB]) | (refine runs_here ?_; refine runs_cond rfl (fun hc => ?_) (fun hc => ?_) <;> first | (cases hc; done) | skip))
          exact fin _ _ _ hA hL rfl
        · have hL : brkL R 2 = flawIf (decide (R.epoch > 1000000) || ((R.epoch == 0) && R.epochs)) 2 0 0 := rfl
          cases q1 : decide (R.epoch > 1000000) with
          | true =>
            obtain ⟨m2, n1, hA, n3⟩ := note_step hv5 (by rw [flMem_nil]; exact above_self m5) (by decide) true 0 0
            rw [flawIf_app, List.nil_append] at hA
            rw [q1] at hL
            have k2 := hld _ _ hA
            repeat' (first | refine gos1 (jn @nr (jn @hn5 (jn @nl (jn @mkRl (jn @l1 (jn @l2 (jn @l3 (jn @l4 (jn @l5 (jn @l6 (jn @l7 (jn @l8 (jn @q1 (jn @t2 (jn @n1 @k2))))))))))))))) ?_ | (refine ops_here ?_; (fail_if_success (refine ops_case (B := true) rfl rfl rfl ?_ ?_)); (fail_if_success (refine ops_case (B := false) rfl rfl rfl ?_ ?_)); refine ops_case rfl rfl rfl (fun hB => ?_) (fun hB => ?_) <;> rw [hB]) | (refine runs_here ?_; refine runs_cond rfl (fun hc => ?_) (fun hc => ?_) <;> first | (cases hc; done) | skip))
            exact fin _ _ _ hA hL rfl
          | false =>
            cases q2 : (R.epoch == 0) with
            | false =>
              obtain ⟨m2, n1, hA, n3⟩ := note_step hv5 (by rw [flMem_nil]; exact above_self m5) (by decide) false 0 0
              rw [flawIf_app, List.nil_append] at hA
              rw [q1, q2] at hL
              have k2 := hld _ _ hA
              repeat' (first | refine gos1 (jn @nr (jn @hn5 (jn @nl (jn @mkRl (jn @l1 (jn @l2 (jn @l3 (jn @l4 (jn @l5 (jn @l6 (jn @l7 (jn @l8 (jn @q1 (jn @q2 (jn @t2 (jn @n1 @k2)))))))))))))))) ?_ | (refine ops_here ?_; (fail_if_success (refine ops_case (B := true) rfl rfl rfl ?_ ?_)); (fail_if_success (refine ops_case (B := false) rfl rfl rfl ?_ ?_)); refine ops_case rfl rfl rfl (fun hB => ?_) (fun hB => ?_) <;> rw [hB]) | (refine runs_here ?_; refine runs_cond rfl (fun hc => ?_) (fun hc => ?_) <;> first | (cases hc; done) | skip))
              exact fin _ _ _ hA hL rfl
            | true =>
              obtain ⟨m2, n1, hA, n3⟩ := note_step hv5 (by rw [flMem_nil]; exact above_self m5) (by decide) R.epochs 0 0
              rw [flawIf_app, List.nil_append] at hA
              rw [q1, q2] at hL
              have k2 := hld _ _ hA
              repeat' (first | refine gos1 (jn @nr (jn @hn5 (jn @nl (jn @mkRl (jn @l1 (jn @l2 (jn @l3 (jn @l4 (jn @l5 (jn @l6 (jn @l7 (jn @l8 (jn @q1 (jn @q2 (jn @t2 (jn @t3 (jn @f3 (jn @n1 @k2)))))))))))))))))) ?_ | (refine ops_here ?_; (fail_if_success (refine ops_case (B := true) rfl rfl rfl ?_ ?_)); (fail_if_success (refine ops_case (B := false) rfl rfl rfl ?_ ?_)); refine ops_case rfl rfl rfl (fun hB => ?_) (fun hB => ?_) <;> rw [hB]) | (refine runs_here ?_; refine runs_cond rfl (fun hc => ?_) (fun hc => ?_) <;> first | (cases hc; done) | skip))
              exact fin _ _ _ hA hL rfl
        · have hL : brkL R 8 = lastsL 8 R := rfl
          have c := rlastsG_at hv5 hsm
          have hA := above_self (flMem m5 n5 8 (lastsL 8 R))
          have k2 := hld _ _ hA
          repeat' (first | refine gos1 (jn @nr (jn @hn5 (jn @nl (jn @mkRl (jn @l1 (jn @l2 (jn @l3 (jn @l4 (jn @l5 (jn @l6 (jn @l7 (jn @l8 (jn @t4 (jn @c @k2)))))))))))))) ?_ | (refine ops_here ?_; (fail_if_success (refine ops_case (B := true) rfl rfl rfl ?_ ?_)); (fail_if_success (refine ops_case (B := false) rfl rfl rfl ?_ ?_)); refine ops_case rfl rfl rfl (fun hB => ?_) (fun hB => ?_) <;> rw [hB]) | (refine runs_here ?_; refine runs_cond rfl (fun hc => ?_) (fun hc => ?_) <;> first | (cases hc; done) | skip))
          exact fin _ _ _ hA hL rfl
      · cases h
    · cases h
  · cases h
def kept0G : List AV → Mem → Option (AV × Mem)
  | [.agg cs, .v (.int .i64 rule)], m =>
    match unRc cs with
    | some R => if R.small ∧ R.fit ∧ (rule = 1 ∨ rule = 2 ∨ rule = 8) then some (.v (.bool (R.kept rule)), m) else none
    | none => none
  | _, _ => none
theorem kept0G_at {m : Mem} {R : Rc} {rule : Int} (h : R.small) (h1 : R.fit) (h2 : rule = 1 ∨ rule = 2 ∨ rule = 8) : kept0G [.agg R.row, .v (.int .i64 rule)] m = some (.v (.bool (R.kept rule)), m) := by
  simp only [kept0G, unRc_row]
  rw [if_pos ⟨h, h1, h2⟩]
def kpKept0 : Nat → Option (List Nat) := fun
  | 0 => some [1, 2]
  | 1 => some [4]
  | _ => none
attribute [go_sem] kpKept0
def tab_kept0_ok : List (FuncId × (List AV → Mem → Option (AV × Mem))) := [(38, brk0G)]
theorem kept0_ok : FunOk Tryz.prog 131 kept0G := by
  have hC := table_ok (P := Tryz.prog) (l := tab_kept0_ok) (table_more brk0_ok table_nil)
  have t1 := fun args mm => table_at (l := tab_kept0_ok) (f := 38) (args := args) (m := mm) rfl
  refine fun_ok mixed hC Tryz.func131 rfl kpKept0 false rfl fun args m r h => ?_
  unfold kept0G at h
  split at h
  · rename_i cs rule
    split at h
    · rename_i R hR
      obtain rfl := unRc_some hR
      split at h
      · rename_i hyp
        obtain ⟨hsm, hfit, hrule⟩ := hyp
        simp only [Option.some.injEq] at h
        subst h
        refine ⟨Nat.le_of_ble_eq_true rfl, ?_⟩
        refine en ?_
        have l1 := vrRc (x := R) (push_var (m := m))
        have f1 := fun mm => brk0G_at (m := mm) hsm hfit hrule
        refine go1 (jn @l1 (jn @t1 @f1)) ?_
        exact leaves_fin rfl rfl fin_push
      · cases h
    · cases h
  · cases h
end
section
attribute [local irreducible] Next Inside Runs Ops table
attribute [local go_sem] szStr szInt Option.getD_some isNil evStr iv loadStr loadInt rowsS_len rowsN_len rowsGs_len rowsPh_len rowsFl_len mapGs mapPh mapRc ldNode ldGs ldPh cellsGs cellsPh cellsRc cellsRl newGs newPh newRc zrPh zoPh znPh zsPh fpPhLen fpPhLenU fpRcSteps fpRcEpoch fpRcWeights fpRcMetrics fpRcGroups fpRcEval fpRcPhases fpRlList
theorem stepsP_in {u n of ep : Int} : 0 ≤ (stepsP u n of ep).1 ∧ (stepsP u n of ep).1 ≤ 1099511627776 := by
  unfold stepsP
  split
  · rename_i h
    have := lenV_in h.1 h.2.1 h.2.2
    split
    · simp
    · simp only
      omega
  · simp
theorem accS_in (R : Rc) : ∀ i : Nat, 0 ≤ accS R i ∧ accS R i ≤ (i : Int) * 1099511627776
  | 0 => by simp [accS]
  | i + 1 => by
    have h1 := accS_in R i
    have h2 := stepsP_in (u := (R.phases.getD i ph0).lenU) (n := (R.phases.getD i ph0).lenN) (of := R.steps) (ep := R.epoch)
    have e : accS R (i + 1) = accS R i + (R.stepsOf (R.phases.getD i ph0)).1 := rfl
    rw [show stepsP (R.phases.getD i ph0).lenU (R.phases.getD i ph0).lenN R.steps R.epoch = R.stepsOf (R.phases.getD i ph0) from rfl] at h2
    rw [e]
    omega
theorem leaves_out {P : Program} {fn : Func} {m m' m2 : Mem} {e : Env} (h : fn.results = #[]) (hm : finMem m m' = m2) : Leaves P false fn m (.tup [], m2) .ret e m' := by
  show evRet P false fn m e m' = _
  unfold evRet
  rw [h]
  simp [hm]
def sumG : List AV → Mem → Option (AV × Mem)
  | [.ptr r 0, .agg cs], m =>
    match unRc cs, m.var r with
    | some R, some [.v (.int .i64 rule), .lst .full 3 []] => if R.small ∧ R.fit then some (.tup [], flMem m r rule (sumL rule R)) else none
    | _, _ => none
  | _, _ => none
theorem sumG_at {m : Mem} {r : Nat} {rule : Int} {R : Rc} (hv : m.var r = some [.v (.int .i64 rule), .lst .full 3 []]) (h : R.small) (h1 : R.fit) : sumG [.ptr r 0, .agg R.row] m = some (.tup [], flMem m r rule (sumL rule R)) := by
  simp only [sumG, unRc_row, hv]
  rw [if_pos ⟨h, h1⟩]
def kpRSum : Nat → Option (List Nat) := fun
  | 0 => some [0, 3]
  | 1 => some [0, 3, 22]
  | 2 => some [0, 3, 4, 5]
  | 3 => some [0, 3, 4, 5, 24, 25, 26]
  | 4 => some [0, 3, 4, 5, 24, 25, 26, 27]
  | 5 => some [0, 3, 4, 7, 24, 25, 26]
  | 6 => some [0, 3, 4, 5, 7, 24, 25, 26]
  | 7 => some [0, 3, 4, 5, 7, 24, 25, 26, 34]
  | 8 => some [0, 3, 4, 5, 8, 24, 25, 26]
  | 9 => some [0, 3, 4, 5, 24, 25, 26]
  | 10 => some [0, 3, 4, 5, 24, 25, 26]
  | 11 => some []
  | _ => none
attribute [go_sem] kpRSum
def tab_sum_ok : List (FuncId × (List AV → Mem → Option (AV × Mem))) := [(131, kept0G), (48, stepsLG), (78, noteG)]
theorem sum_ok : FunOk Tryz.prog 84 sumG := by
  have hC := table_ok (P := Tryz.prog) (l := tab_sum_ok) (table_more kept0_ok (table_more stepsL_ok (table_more note_ok table_nil)))
  have t1 := fun args mm => table_at (l := tab_sum_ok) (f := 131) (args := args) (m := mm) rfl
  have t2 := fun args mm => table_at (l := tab_sum_ok) (f := 48) (args := args) (m := mm) rfl
  have t3 := fun args mm => table_at (l := tab_sum_ok) (f := 78) (args := args) (m := mm) rfl
  refine fun_ok mixed hC Tryz.func84 rfl kpRSum false rfl fun args m r h => ?_
  unfold sumG at h
  split at h
  · rename_i r0 cs
    split at h
    · rename_i R rule hR hv
      obtain rfl := unRc_some hR
      split at h
      · rename_i hyp
        obtain ⟨hsm, hfit⟩ := hyp
        simp only [Option.some.injEq] at h
        subst h
        have hr0 := (var_lt hv).1
        have hP64 := hsm.2.2.1
        refine ⟨Nat.le_of_ble_eq_true rfl, ?_⟩
        refine en ?_
        have hA0 : Above (flMem m r0 rule []) (m.push R.row) := by rw [flMem_nil]; exact above_push (above_self m)
        have hv3 : (m.push R.row).var m.vars.length = some R.row := push_var
        have l0 := vrRc hv3
        have l1 := lpRcPhases hv3
        have c1 := fun mm => kept0G_at (m := mm) (rule := 1) hsm hfit (.inl rfl)
        have c2 := fun mm => kept0G_at (m := mm) (rule := 2) hsm hfit (.inr (.inl rfl))
        have c8 := fun mm => kept0G_at (m := mm) (rule := 8) hsm hfit (.inr (.inr rfl))
        have eS : sumL rule R = if R.kept 1 && (R.kept 2 && R.kept 8) then flawIf R.sumBad rule 0 0 else [] := rfl
        have w1 : (!true) = false := rfl
        have w2 : (!false) = true := rfl
        rw [eS]
        have out : ∀ e : Env, Leaves Tryz.prog false Tryz.f84 m (.tup [], flMem m r0 rule []) .ret e (m.push R.row) := fun e => by
          rw [flMem_nil]
          exact leaves_out rfl fin_push
        cases q1 : R.kept 1 with
        | false =>
          rw [q1] at c1
          repeat' (first | refine gos1 (jn @l0 (jn @t1 (jn @c1 @w2))) ?_ | (refine ops_here ?_; (fail_if_success (refine ops_case (B := true) rfl rfl rfl ?_ ?_)); (fail_if_success (refine ops_case (B := false) rfl rfl rfl ?_ ?_)); refine ops_case rfl rfl rfl (fun hB => ?_) (fun hB => ?_) <;> rw [hB]) | (refine runs_here ?_; refine runs_cond rfl (fun hc => ?_) (fun hc => ?_) <;> first | (cases hc; done) | skip))
          exact out _
        | true =>
          rw [q1] at c1
          cases q2 : R.kept 2 with
          | false =>
            rw [q2] at c2
            repeat' (first | refine gos1 (jn @l0 (jn @t1 (jn @c1 (jn @c2 (jn @w1 @w2))))) ?_ | (refine ops_here ?_; (fail_if_success (refine ops_case (B := true) rfl rfl rfl ?_ ?_)); (fail_if_success (refine ops_case (B := false) rfl rfl rfl ?_ ?_)); refine ops_case rfl rfl rfl (fun hB => ?_) (fun hB => ?_) <;> rw [hB]) | (refine runs_here ?_; refine runs_cond rfl (fun hc => ?_) (fun hc => ?_) <;> first | (cases hc; done) | skip))
            exact out _
          | true =>
            rw [q2] at c2
            cases q8 : R.kept 8 with
            | false =>
              rw [q8] at c8
              repeat' (first | refine gos1 (jn @l0 (jn @t1 (jn @c1 (jn @c2 (jn @c8 (jn @w1 @w2)))))) ?_ | (refine ops_here ?_; (fail_if_success (refine ops_case (B := true) rfl rfl rfl ?_ ?_)); (fail_if_success (refine ops_case (B := false) rfl rfl rfl ?_ ?_)); refine ops_case rfl rfl rfl (fun hB => ?_) (fun hB => ?_) <;> rw [hB]) | (refine runs_here ?_; refine runs_cond rfl (fun hc => ?_) (fun hc => ?_) <;> first | (cases hc; done) | skip))
              exact out _
            | true =>
              rw [q8] at c8
              rw [if_pos (show (true && (true && true)) = true from rfl)]
              refine go1 (jn @l0 (jn @t1 (jn @c1 (jn @c2 (jn @c8 (jn @w1 @w2)))))) ?_
              refine runs_cond rfl (fun hc => by cases hc) (fun hc => ?_)
              refine go1 @l1 ?_
              have fin : ∀ (e : Env) (m2 : Mem) (b : Bool), Above (flMem m r0 rule (if b then [] ++ [⟨rule, 0, 0⟩] else [])) m2 → R.sumBad = b → Leaves Tryz.prog false Tryz.f84 m (.tup [], flMem m r0 rule (flawIf R.sumBad rule 0 0)) .normal e m2 := fun e m2 b hA2 hb => by
                rw [flawIf_app, ← hb, List.nil_append] at hA2
                exact leaves_none rfl (fin_flMem hv hA2)
              refine runs_loop (fun k e m' => ∃ (i : Nat), i ≤ R.phases.length ∧ Above (flMem m r0 rule []) m' ∧ m'.var m.vars.length = some R.row ∧ firstBy restP (R.phases.drop i) i = firstBy restP R.phases 0 ∧ k = R.phases.length - i ∧
                e = [(0, AV.ptr r0 0), (3, .ptr m.vars.length 0), (4, .v (.int .i64 (accS R i))), (5, .v (.bool false)), (24, .lst .no 5 (rowsPh R.phases)), (25, .v (.int .i64 (R.phases.length : Int))), (26, .v (.int .i64 (i : Int)))]) (k := R.phases.length)
                ⟨0, Nat.zero_le _, hA0, hv3, rfl, rfl, rfl⟩ ?_
              rintro k e m' ⟨i, hi0, hA, hw3, hf, rfl, rfl⟩
              refine go0 ?_
              refine runs_cond rfl (fun hc => ?_) (fun hc => ?_)
              · have hi1 : i < R.phases.length := by have := of_decide_eq_true hc; omega
                have f2 := atPh (g := .no) (kk := .i64) hi1
                have eA : accS R (i + 1) = accS R i + (R.stepsOf (R.phases.getD i ph0)).1 := rfl
                have hin := accS_in R (i + 1)
                have hyes := fun hp => by_yes (d := ph0) hi1 hp hf
                have hno := fun hp => by_no (d := ph0) hi1 hp hf
                generalize R.phases.getD i ph0 = p at f2 eA hyes hno
                have hA1 := above_push (cs := p.row) hA
                have hp5 : (m'.push p.row).var m'.vars.length = some p.row := push_var
                have hw5 := push_old (cs' := p.row) hw3
                have y1 := lpPhLenU hp5
                have y2 := lpPhLen hp5
                have y4 := lpRcSteps hw5
                have y5 := lpRcEpoch hw5
                have r6 := next_i64 (i := i) (by omega)
                cases h3 : (p.lenU == 3) with
                | true =>
                  have hx := hyes h3
                  obtain ⟨m2, n1, n2, n3⟩ := note_step hv hA1 (by decide) (decide (accS R i ≥ R.steps)) 0 0
                  have hb : R.sumBad = decide (accS R i ≥ R.steps) := by
                    unfold Rc.sumBad
                    rw [hx, if_neg (by omega), Int.toNat_natCast]
                  refine go1 (jn @f2 (jn @y1 @h3)) ?_
                  refine runs_cond rfl (fun hc => ?_) (fun hc => by cases hc)
                  cases hd : decide (accS R i ≥ R.steps) with
                  | true =>
                    rw [hd] at n1 n2 hb
                    repeat' (first | refine gos1 (jn @y4 (jn @hd (jn @t3 (jn @n1 (jn @w1 @w2))))) ?_ | (refine ops_here ?_; (fail_if_success (refine ops_case (B := true) rfl rfl rfl ?_ ?_)); (fail_if_success (refine ops_case (B := false) rfl rfl rfl ?_ ?_)); refine ops_case rfl rfl rfl (fun hB => ?_) (fun hB => ?_) <;> rw [hB]) | (refine runs_here ?_; refine runs_cond rfl (fun hc => ?_) (fun hc => ?_) <;> first | (cases hc; done) | skip))
                    exact fin _ _ _ n2 hb
                  | false =>
                    rw [hd] at n1 n2 hb
                    repeat' (first | refine gos1 (jn @y4 (jn @hd (jn @t3 (jn @n1 (jn @w1 @w2))))) ?_ | (refine ops_here ?_; (fail_if_success (refine ops_case (B := true) rfl rfl rfl ?_ ?_)); (fail_if_success (refine ops_case (B := false) rfl rfl rfl ?_ ?_)); refine ops_case rfl rfl rfl (fun hB => ?_) (fun hB => ?_) <;> rw [hB]) | (refine runs_here ?_; refine runs_cond rfl (fun hc => ?_) (fun hc => ?_) <;> first | (cases hc; done) | skip))
                    exact fin _ _ _ n2 hb
                | false =>
                  have hx := hno h3
                  have f3 := fun mm => stepsLG_eq (u := p.lenU) (n := p.lenN) (of := R.steps) (ep := R.epoch) (m := mm)
                  rw [show stepsP p.lenU p.lenN R.steps R.epoch = R.stepsOf p from rfl] at f3
                  rw [eA] at hin
                  have r1 : IntKind.i64.wrap (accS R i + (R.stepsOf p).1) = accS R i + (R.stepsOf p).1 := i64_wrap (by omega) (by omega)
                  rw [← eA] at r1
                  refine go1 (jn @f2 (jn @y1 @h3)) ?_
                  refine runs_cond rfl (fun hc => by cases hc) (fun hc => ?_)
                  refine go1 (jn @y2 (jn @y4 (jn @y5 (jn @t2 (jn @f3 @r6))))) ?_
                  rw [← eA, r1]
                  exact ⟨R.phases.length - (i + 1), by omega, i + 1, hi1, hA1, hw5, hx, rfl, rfl⟩
              · have hi1 : i = R.phases.length := by have := of_decide_eq_false hc; omega
                subst hi1
                have hx := by_end hf
                have y4 := lpRcSteps hw3
                obtain ⟨m2, n1, n2, n3⟩ := note_step hv hA (by decide) (accS R R.phases.length != R.steps) 0 0
                have hb : R.sumBad = (accS R R.phases.length != R.steps) := by
                  unfold Rc.sumBad
                  rw [hx, if_pos (by decide)]
                repeat' (first | refine gos1 (jn @y4 (jn @t3 (jn @n1 (jn @w1 @w2)))) ?_ | (refine ops_here ?_; (fail_if_success (refine ops_case (B := true) rfl rfl rfl ?_ ?_)); (fail_if_success (refine ops_case (B := false) rfl rfl rfl ?_ ?_)); refine ops_case rfl rfl rfl (fun hB => ?_) (fun hB => ?_) <;> rw [hB]) | (refine runs_here ?_; refine runs_cond rfl (fun hc => ?_) (fun hc => ?_) <;> first | (cases hc; done) | skip))
                exact fin _ _ _ n2 hb
      · cases h
    · cases h
  · cases h
/-! ### all -/
def brokenG : List AV → Mem → Option (AV × Mem)
  | [.agg cs, .v (.int .i64 rule)], m =>
    match unRc cs with
    | some R => if R.small ∧ R.fit ∧ (rule = 1 ∨ rule = 2 ∨ rule = 3 ∨ rule = 4 ∨ rule = 5 ∨ rule = 6 ∨ rule = 7 ∨ rule = 8 ∨ rule = 9 ∨ rule = 10 ∨ rule = 11 ∨ rule = 12 ∨ rule = 13 ∨ rule = 14 ∨ rule = 15 ∨ rule = 16 ∨ rule = 17 ∨ rule = 18 ∨ rule = 19) then some (.lst .no 3 (rowsFl (brkL R rule)), m) else none
    | none => none
  | _, _ => none
theorem brokenG_at {m : Mem} {R : Rc} {rule : Int} (h : R.small) (h1 : R.fit) (h2 : rule = 1 ∨ rule = 2 ∨ rule = 3 ∨ rule = 4 ∨ rule = 5 ∨ rule = 6 ∨ rule = 7 ∨ rule = 8 ∨ rule = 9 ∨ rule = 10 ∨ rule = 11 ∨ rule = 12 ∨ rule = 13 ∨ rule = 14 ∨ rule = 15 ∨ rule = 16 ∨ rule = 17 ∨ rule = 18 ∨ rule = 19) : brokenG [.agg R.row, .v (.int .i64 rule)] m = some (.lst .no 3 (rowsFl (brkL R rule)), m) := by
  simp only [brokenG, unRc_row]
  rw [if_pos ⟨h, h1, h2⟩]
def kpBroken : Nat → Option (List Nat) := fun
  | 0 => some [1, 2]
  | 1 => some [1, 2, 5]
  | 2 => some [2, 5, 9]
  | 3 => some [5]
  | 4 => some [2, 5, 9, 13]
  | 5 => some [5]
  | 6 => some [2, 5, 9, 21]
  | 7 => some [5]
  | 8 => some [2, 5, 9, 37]
  | 9 => some [5]
  | 10 => some [2, 5, 9, 44]
  | 11 => some [5]
  | 12 => some [2, 5, 9, 50]
  | 13 => some [5]
  | 14 => some [2, 5, 9, 56]
  | 15 => some [5]
  | 16 => some [2, 5, 9, 64]
  | 17 => some [5]
  | 18 => some [2, 5, 9, 70]
  | 19 => some [5]
  | 20 => some [2, 5, 9, 75]
  | 21 => some [5]
  | 22 => some [2, 5, 9, 80]
  | 23 => some [5]
  | 24 => some [2, 5, 9, 85]
  | 25 => some [5]
  | 26 => some [2, 5, 9, 90]
  | 27 => some [5]
  | 28 => some [2, 5, 9, 95]
  | 29 => some [5]
  | 30 => some [2, 5, 100]
  | 31 => some [5]
  | 32 => some [4]
  | _ => none
attribute [go_sem] kpBroken
def tab_broken_ok : List (FuncId × (List AV → Mem → Option (AV × Mem))) := [(79, withinG), (78, noteG), (80, epochsG), (83, rlastsG), (81, twinsG), (82, namesG), (84, sumG), (85, frozenG), (86, setsG), (87, eachG), (92, endsFG)]
theorem broken_ok : FunOk Tryz.prog 38 brokenG := by
  have hC := table_ok (P := Tryz.prog) (l := tab_broken_ok) (table_more rwithin_ok (table_more note_ok (table_more epochs_ok (table_more rlasts_ok (table_more twins_ok (table_more names_ok (table_more sum_ok (table_more frozen_ok (table_more sets_ok (table_more each_ok (table_more endsF_ok table_nil)))))))))))
  have t1 := fun args mm => table_at (l := tab_broken_ok) (f := 79) (args := args) (m := mm) rfl
  have t2 := fun args mm => table_at (l := tab_broken_ok) (f := 78) (args := args) (m := mm) rfl
  have t3 := fun args mm => table_at (l := tab_broken_ok) (f := 80) (args := args) (m := mm) rfl
  have t4 := fun args mm => table_at (l := tab_broken_ok) (f := 83) (args := args) (m := mm) rfl
  have t5 := fun args mm => table_at (l := tab_broken_ok) (f := 81) (args := args) (m := mm) rfl
  have t6 := fun args mm => table_at (l := tab_broken_ok) (f := 82) (args := args) (m := mm) rfl
  have t7 := fun args mm => table_at (l := tab_broken_ok) (f := 84) (args := args) (m := mm) rfl
  have t8 := fun args mm => table_at (l := tab_broken_ok) (f := 85) (args := args) (m := mm) rfl
  have t9 := fun args mm => table_at (l := tab_broken_ok) (f := 86) (args := args) (m := mm) rfl
  have t10 := fun args mm => table_at (l := tab_broken_ok) (f := 87) (args := args) (m := mm) rfl
  have t11 := fun args mm => table_at (l := tab_broken_ok) (f := 92) (args := args) (m := mm) rfl
  refine fun_ok mixed hC Tryz.func38 rfl kpBroken false rfl fun args m r h => ?_
  unfold brokenG at h
  split at h
  · rename_i cs rule
    split at h
    · rename_i R hR
      obtain rfl := unRc_some hR
      split at h
      · rename_i hyp
        obtain ⟨hsm, hfit, hrule⟩ := hyp
        simp only [Option.some.injEq] at h
        subst h
        refine ⟨Nat.le_of_ble_eq_true rfl, ?_⟩
        refine en ?_
        have hv3 : (m.push R.row).var m.vars.length = some R.row := push_var
        have hn3 : m.vars.length < (m.push R.row).vars.length := by rw [push_len]; omega
        have hA1 := above_push (cs := R.row) (above_self m)
        have nr := newRc (m := m) (x := R)
        generalize hm1 : m.push R.row = m1 at hv3 hn3 hA1 nr
        have nl := newRl (m := m1) (rule := rule)
        have hv5 : (m1.push [.v (.int .i64 rule), .lst .full 3 []]).var m1.vars.length = some [.v (.int .i64 rule), .lst .full 3 []] := push_var
        have hw3 := push_old (cs' := [.v (.int .i64 rule), .lst .full 3 []]) hv3
        have hA2 := above_push (cs := [.v (.int .i64 rule), .lst .full 3 []]) hA1
        have hle : m.vars.length ≤ m1.vars.length := by omega
        generalize hn5 : m1.vars.length = n5 at nl hv5 hle
        generalize m1.push [.v (.int .i64 rule), .lst .full 3 []] = m5 at nl hv5 hw3 hA2
        have fin : ∀ (e : Env) (m' : Mem) (L : List Fl), Above (flMem m5 n5 rule L) m' → brkL R rule = L → Ev.get e 4 = flLst m5 L → Leaves Tryz.prog false Tryz.f38 m (.lst .no 3 (rowsFl (brkL R rule)), m) .ret e m' := fun e m' L hA hL hg => by
          obtain ⟨g, hgl⟩ := flLst_is m5 L
          rw [hL]
          exact leaves_lst rfl (hg.trans hgl) (fin_own hA2 hle hA)
        have hld : ∀ (m' : Mem) (L : List Fl), Above (flMem m5 n5 rule L) m' → evLoad Tryz.prog m' 40 (.ptr n5 1) = some (flLst m5 L) := fun m' L hA => lpRlList (above_var hA (flMem_var hv5))
        have l1 := vrRc hw3
        have l2 := lpRcSteps hw3
        have l3 := lpRcEpoch hw3
        have l4 := lpRcWeights hw3
        have l5 := lpRcMetrics hw3
        have l6 := lpRcGroups hw3
        have l7 := lpRcEval hw3
        have l8 := lpRcPhases hw3
        have f1 : ∀ x lo hi mm, withinG [.v (.int .i64 x), .v (.int .i64 lo), .v (.int .i64 hi)] mm = some (.v (.bool (decide (lo ≤ x ∧ x ≤ hi))), mm) := fun _ _ _ _ => rfl
        have f3 := fun mm => epochsG_at R mm hfit
        have f6 := fun mm => namesG_at R mm hsm
        rcases hrule with rfl | rfl | rfl | rfl | rfl | rfl | rfl | rfl | rfl | rfl | rfl | rfl | rfl | rfl | rfl | rfl | rfl | rfl | rfl
        · have hL : brkL R 1 = flawIf (!decide (1 ≤ R.steps ∧ R.steps ≤ 1000000)) 1 0 0 := rfl
          obtain ⟨m2, n1, hA, n3⟩ := note_step hv5 (by rw [flMem_nil]; exact above_self m5) (by decide) (!decide (1 ≤ R.steps ∧ R.steps ≤ 1000000)) 0 0
          rw [flawIf_app, List.nil_append] at hA
          have k2 := hld _ _ hA
          repeat' (first | refine gos1 (jn @nr (jn @hn5 (jn @nl (jn @mkRl (jn @l1 (jn @l2 (jn @l3 (jn @l4 (jn @l5 (jn @l6 (jn @l7 (jn @l8 (jn @t1 (jn @f1 (jn @t2 (jn @n1 @k2)))))))))))))))) ?_ | (refine ops_here ?_; (fail_if_success (refine ops_case (B := true) rfl rfl rfl ?_ ?_)); (fail_if_success (refine ops_case (B := false) rfl rfl rfl ?_ ?_)); refine ops_case rfl rfl rfl (fun hB => ?_) (fun hB => ?_) <;> rw [hB]) | (refine runs_here ?_; refine runs_cond rfl (fun hc => ?_) (fun hc => ?_) <;> first | (cases hc; done) | skip))
          exact fin _ _ _ hA hL rfl
        · have hL : brkL R 2 = flawIf (decide (R.epoch > 1000000) || ((R.epoch == 0) && R.epochs)) 2 0 0 := rfl
          cases q1 : decide (R.epoch > 1000000) with
          | true =>
            obtain ⟨m2, n1, hA, n3⟩ := note_step hv5 (by rw [flMem_nil]; exact above_self m5) (by decide) true 0 0
            rw [flawIf_app, List.nil_append] at hA
            rw [q1] at hL
            have k2 := hld _ _ hA
            repeat' (first | refine gos1 (jn @nr (jn @hn5 (jn @nl (jn @mkRl (jn @l1 (jn @l2 (jn @l3 (jn @l4 (jn @l5 (jn @l6 (jn @l7 (jn @l8 (jn @q1 (jn @t2 (jn @n1 @k2))))))))))))))) ?_ | (refine ops_here ?_; (fail_if_success (refine ops_case (B := true) rfl rfl rfl ?_ ?_)); (fail_if_success (refine ops_case (B := false) rfl rfl rfl ?_ ?_)); refine ops_case rfl rfl rfl (fun hB => ?_) (fun hB => ?_) <;> rw [hB]) | (refine runs_here ?_; refine runs_cond rfl (fun hc => ?_) (fun hc => ?_) <;> first | (cases hc; done) | skip))
            exact fin _ _ _ hA hL rfl
          | false =>
            cases q2 : (R.epoch == 0) with
            | false =>
              obtain ⟨m2, n1, hA, n3⟩ := note_step hv5 (by rw [flMem_nil]; exact above_self m5) (by decide) false 0 0
              rw [flawIf_app, List.nil_append] at hA
              rw [q1, q2] at hL
              have k2 := hld _ _ hA
              repeat' (first | refine gos1 (jn @nr (jn @hn5 (jn @nl (jn @mkRl (jn @l1 (jn @l2 (jn @l3 (jn @l4 (jn @l5 (jn @l6 (jn @l7 (jn @l8 (jn @q1 (jn @q2 (jn @t2 (jn @n1 @k2)))))))))))))))) ?_ | (refine ops_here ?_; (fail_if_success (refine ops_case (B := true) rfl rfl rfl ?_ ?_)); (fail_if_success (refine ops_case (B := false) rfl rfl rfl ?_ ?_)); refine ops_case rfl rfl rfl (fun hB => ?_) (fun hB => ?_) <;> rw [hB]) | (refine runs_here ?_; refine runs_cond rfl (fun hc => ?_) (fun hc => ?_) <;> first | (cases hc; done) | skip))
              exact fin _ _ _ hA hL rfl
            | true =>
              obtain ⟨m2, n1, hA, n3⟩ := note_step hv5 (by rw [flMem_nil]; exact above_self m5) (by decide) R.epochs 0 0
              rw [flawIf_app, List.nil_append] at hA
              rw [q1, q2] at hL
              have k2 := hld _ _ hA
              repeat' (first | refine gos1 (jn @nr (jn @hn5 (jn @nl (jn @mkRl (jn @l1 (jn @l2 (jn @l3 (jn @l4 (jn @l5 (jn @l6 (jn @l7 (jn @l8 (jn @q1 (jn @q2 (jn @t2 (jn @t3 (jn @f3 (jn @n1 @k2)))))))))))))))))) ?_ | (refine ops_here ?_; (fail_if_success (refine ops_case (B := true) rfl rfl rfl ?_ ?_)); (fail_if_success (refine ops_case (B := false) rfl rfl rfl ?_ ?_)); refine ops_case rfl rfl rfl (fun hB => ?_) (fun hB => ?_) <;> rw [hB]) | (refine runs_here ?_; refine runs_cond rfl (fun hc => ?_) (fun hc => ?_) <;> first | (cases hc; done) | skip))
              exact fin _ _ _ hA hL rfl
        · have hL : brkL R 3 = flawIf (decide (R.weights > 16)) 3 0 0 := rfl
          obtain ⟨m2, n1, hA, n3⟩ := note_step hv5 (by rw [flMem_nil]; exact above_self m5) (by decide) (decide (R.weights > 16)) 0 0
          rw [flawIf_app, List.nil_append] at hA
          have k2 := hld _ _ hA
          repeat' (first | refine gos1 (jn @nr (jn @hn5 (jn @nl (jn @mkRl (jn @l1 (jn @l2 (jn @l3 (jn @l4 (jn @l5 (jn @l6 (jn @l7 (jn @l8 (jn @t1 (jn @f1 (jn @t2 (jn @n1 @k2)))))))))))))))) ?_ | (refine ops_here ?_; (fail_if_success (refine ops_case (B := true) rfl rfl rfl ?_ ?_)); (fail_if_success (refine ops_case (B := false) rfl rfl rfl ?_ ?_)); refine ops_case rfl rfl rfl (fun hB => ?_) (fun hB => ?_) <;> rw [hB]) | (refine runs_here ?_; refine runs_cond rfl (fun hc => ?_) (fun hc => ?_) <;> first | (cases hc; done) | skip))
          exact fin _ _ _ hA hL rfl
        · have hL : brkL R 4 = twinsL 4 R.metrics := rfl
          have c := twinsG_at (g := .no) hv5 (show R.metrics.length ≤ 64 from hsm.1)
          have hA := above_self (flMem m5 n5 4 (twinsL 4 R.metrics))
          have k2 := hld _ _ hA
          repeat' (first | refine gos1 (jn @nr (jn @hn5 (jn @nl (jn @mkRl (jn @l1 (jn @l2 (jn @l3 (jn @l4 (jn @l5 (jn @l6 (jn @l7 (jn @l8 (jn @t5 (jn @c @k2)))))))))))))) ?_ | (refine ops_here ?_; (fail_if_success (refine ops_case (B := true) rfl rfl rfl ?_ ?_)); (fail_if_success (refine ops_case (B := false) rfl rfl rfl ?_ ?_)); refine ops_case rfl rfl rfl (fun hB => ?_) (fun hB => ?_) <;> rw [hB]) | (refine runs_here ?_; refine runs_cond rfl (fun hc => ?_) (fun hc => ?_) <;> first | (cases hc; done) | skip))
          exact fin _ _ _ hA hL rfl
        · have hL : brkL R 5 = twinsL 5 R.groups := rfl
          have c := twinsG_at (g := .no) hv5 (show R.groups.length ≤ 64 from hsm.2.1)
          have hA := above_self (flMem m5 n5 5 (twinsL 5 R.groups))
          have k2 := hld _ _ hA
          repeat' (first | refine gos1 (jn @nr (jn @hn5 (jn @nl (jn @mkRl (jn @l1 (jn @l2 (jn @l3 (jn @l4 (jn @l5 (jn @l6 (jn @l7 (jn @l8 (jn @t5 (jn @c @k2)))))))))))))) ?_ | (refine ops_here ?_; (fail_if_success (refine ops_case (B := true) rfl rfl rfl ?_ ?_)); (fail_if_success (refine ops_case (B := false) rfl rfl rfl ?_ ?_)); refine ops_case rfl rfl rfl (fun hB => ?_) (fun hB => ?_) <;> rw [hB]) | (refine runs_here ?_; refine runs_cond rfl (fun hc => ?_) (fun hc => ?_) <;> first | (cases hc; done) | skip))
          exact fin _ _ _ hA hL rfl
        · have hL : brkL R 6 = flawIf (((R.phases.length : Int) == 0)) 6 0 0 := rfl
          obtain ⟨m2, n1, hA, n3⟩ := note_step hv5 (by rw [flMem_nil]; exact above_self m5) (by decide) (((R.phases.length : Int) == 0)) 0 0
          rw [flawIf_app, List.nil_append] at hA
          have k2 := hld _ _ hA
          repeat' (first | refine gos1 (jn @nr (jn @hn5 (jn @nl (jn @mkRl (jn @l1 (jn @l2 (jn @l3 (jn @l4 (jn @l5 (jn @l6 (jn @l7 (jn @l8 (jn @t1 (jn @f1 (jn @t2 (jn @n1 @k2)))))))))))))))) ?_ | (refine ops_here ?_; (fail_if_success (refine ops_case (B := true) rfl rfl rfl ?_ ?_)); (fail_if_success (refine ops_case (B := false) rfl rfl rfl ?_ ?_)); refine ops_case rfl rfl rfl (fun hB => ?_) (fun hB => ?_) <;> rw [hB]) | (refine runs_here ?_; refine runs_cond rfl (fun hc => ?_) (fun hc => ?_) <;> first | (cases hc; done) | skip))
          exact fin _ _ _ hA hL rfl
        · have hL : brkL R 7 = twinsL 7 (R.phases.map Ph.name) := rfl
          have c := twinsG_at (g := .no) hv5 (show (R.phases.map Ph.name).length ≤ 64 by rw [List.length_map]; exact hsm.2.2.1)
          have hA := above_self (flMem m5 n5 7 (twinsL 7 (R.phases.map Ph.name)))
          have k2 := hld _ _ hA
          repeat' (first | refine gos1 (jn @nr (jn @hn5 (jn @nl (jn @mkRl (jn @l1 (jn @l2 (jn @l3 (jn @l4 (jn @l5 (jn @l6 (jn @l7 (jn @l8 (jn @t5 (jn @c (jn @k2 (jn @t6 @f6)))))))))))))))) ?_ | (refine ops_here ?_; (fail_if_success (refine ops_case (B := true) rfl rfl rfl ?_ ?_)); (fail_if_success (refine ops_case (B := false) rfl rfl rfl ?_ ?_)); refine ops_case rfl rfl rfl (fun hB => ?_) (fun hB => ?_) <;> rw [hB]) | (refine runs_here ?_; refine runs_cond rfl (fun hc => ?_) (fun hc => ?_) <;> first | (cases hc; done) | skip))
          exact fin _ _ _ hA hL rfl
        · have hL : brkL R 8 = lastsL 8 R := rfl
          have c := rlastsG_at hv5 hsm
          have hA := above_self (flMem m5 n5 8 (lastsL 8 R))
          have k2 := hld _ _ hA
          repeat' (first | refine gos1 (jn @nr (jn @hn5 (jn @nl (jn @mkRl (jn @l1 (jn @l2 (jn @l3 (jn @l4 (jn @l5 (jn @l6 (jn @l7 (jn @l8 (jn @t4 (jn @c @k2)))))))))))))) ?_ | (refine ops_here ?_; (fail_if_success (refine ops_case (B := true) rfl rfl rfl ?_ ?_)); (fail_if_success (refine ops_case (B := false) rfl rfl rfl ?_ ?_)); refine ops_case rfl rfl rfl (fun hB => ?_) (fun hB => ?_) <;> rw [hB]) | (refine runs_here ?_; refine runs_cond rfl (fun hc => ?_) (fun hc => ?_) <;> first | (cases hc; done) | skip))
          exact fin _ _ _ hA hL rfl
        · have hL : brkL R 9 = sumL 9 R := rfl
          have c := sumG_at hv5 hsm hfit
          have hA := above_self (flMem m5 n5 9 (sumL 9 R))
          have k2 := hld _ _ hA
          repeat' (first | refine gos1 (jn @nr (jn @hn5 (jn @nl (jn @mkRl (jn @l1 (jn @l2 (jn @l3 (jn @l4 (jn @l5 (jn @l6 (jn @l7 (jn @l8 (jn @t7 (jn @c @k2)))))))))))))) ?_ | (refine ops_here ?_; (fail_if_success (refine ops_case (B := true) rfl rfl rfl ?_ ?_)); (fail_if_success (refine ops_case (B := false) rfl rfl rfl ?_ ?_)); refine ops_case rfl rfl rfl (fun hB => ?_) (fun hB => ?_) <;> rw [hB]) | (refine runs_here ?_; refine runs_cond rfl (fun hc => ?_) (fun hc => ?_) <;> first | (cases hc; done) | skip))
          exact fin _ _ _ hA hL rfl
        · have hL : brkL R 10 = frozenL 10 R := rfl
          have c := frozenG_at hv5 hsm
          have hA := above_self (flMem m5 n5 10 (frozenL 10 R))
          have k2 := hld _ _ hA
          repeat' (first | refine gos1 (jn @nr (jn @hn5 (jn @nl (jn @mkRl (jn @l1 (jn @l2 (jn @l3 (jn @l4 (jn @l5 (jn @l6 (jn @l7 (jn @l8 (jn @t8 (jn @c @k2)))))))))))))) ?_ | (refine ops_here ?_; (fail_if_success (refine ops_case (B := true) rfl rfl rfl ?_ ?_)); (fail_if_success (refine ops_case (B := false) rfl rfl rfl ?_ ?_)); refine ops_case rfl rfl rfl (fun hB => ?_) (fun hB => ?_) <;> rw [hB]) | (refine runs_here ?_; refine runs_cond rfl (fun hc => ?_) (fun hc => ?_) <;> first | (cases hc; done) | skip))
          exact fin _ _ _ hA hL rfl
        · have hL : brkL R 11 = setsFl 11 R := rfl
          have c := setsG_at hv5 hsm
          have hA := above_self (flMem m5 n5 11 (setsFl 11 R))
          have k2 := hld _ _ hA
          repeat' (first | refine gos1 (jn @nr (jn @hn5 (jn @nl (jn @mkRl (jn @l1 (jn @l2 (jn @l3 (jn @l4 (jn @l5 (jn @l6 (jn @l7 (jn @l8 (jn @t9 (jn @c @k2)))))))))))))) ?_ | (refine ops_here ?_; (fail_if_success (refine ops_case (B := true) rfl rfl rfl ?_ ?_)); (fail_if_success (refine ops_case (B := false) rfl rfl rfl ?_ ?_)); refine ops_case rfl rfl rfl (fun hB => ?_) (fun hB => ?_) <;> rw [hB]) | (refine runs_here ?_; refine runs_cond rfl (fun hc => ?_) (fun hc => ?_) <;> first | (cases hc; done) | skip))
          exact fin _ _ _ hA hL rfl
        · have hL : brkL R 12 = eachBL 12 R := rfl
          have c := eachG_B hv5 hsm
          have hA := above_self (flMem m5 n5 12 (eachBL 12 R))
          have k2 := hld _ _ hA
          repeat' (first | refine gos1 (jn @nr (jn @hn5 (jn @nl (jn @mkRl (jn @l1 (jn @l2 (jn @l3 (jn @l4 (jn @l5 (jn @l6 (jn @l7 (jn @l8 (jn @t10 (jn @c @k2)))))))))))))) ?_ | (refine ops_here ?_; (fail_if_success (refine ops_case (B := true) rfl rfl rfl ?_ ?_)); (fail_if_success (refine ops_case (B := false) rfl rfl rfl ?_ ?_)); refine ops_case rfl rfl rfl (fun hB => ?_) (fun hB => ?_) <;> rw [hB]) | (refine runs_here ?_; refine runs_cond rfl (fun hc => ?_) (fun hc => ?_) <;> first | (cases hc; done) | skip))
          exact fin _ _ _ hA hL rfl
        · have hL : brkL R 13 = eachHL 13 R := rfl
          have c := eachG_H hv5 hsm
          have hA := above_self (flMem m5 n5 13 (eachHL 13 R))
          have k2 := hld _ _ hA
          repeat' (first | refine gos1 (jn @nr (jn @hn5 (jn @nl (jn @mkRl (jn @l1 (jn @l2 (jn @l3 (jn @l4 (jn @l5 (jn @l6 (jn @l7 (jn @l8 (jn @t10 (jn @c @k2)))))))))))))) ?_ | (refine ops_here ?_; (fail_if_success (refine ops_case (B := true) rfl rfl rfl ?_ ?_)); (fail_if_success (refine ops_case (B := false) rfl rfl rfl ?_ ?_)); refine ops_case rfl rfl rfl (fun hB => ?_) (fun hB => ?_) <;> rw [hB]) | (refine runs_here ?_; refine runs_cond rfl (fun hc => ?_) (fun hc => ?_) <;> first | (cases hc; done) | skip))
          exact fin _ _ _ hA hL rfl
        · have hL : brkL R 14 = flawIf (R.endBad 14) 14 0 0 := rfl
          have c := endsFG_at hv5 hsm (by decide) (by decide)
          have hA := above_self (flMem m5 n5 14 (flawIf (R.endBad 14) 14 0 0))
          have k2 := hld _ _ hA
          repeat' (first | refine gos1 (jn @nr (jn @hn5 (jn @nl (jn @mkRl (jn @l1 (jn @l2 (jn @l3 (jn @l4 (jn @l5 (jn @l6 (jn @l7 (jn @l8 (jn @t11 (jn @c @k2)))))))))))))) ?_ | (refine ops_here ?_; (fail_if_success (refine ops_case (B := true) rfl rfl rfl ?_ ?_)); (fail_if_success (refine ops_case (B := false) rfl rfl rfl ?_ ?_)); refine ops_case rfl rfl rfl (fun hB => ?_) (fun hB => ?_) <;> rw [hB]) | (refine runs_here ?_; refine runs_cond rfl (fun hc => ?_) (fun hc => ?_) <;> first | (cases hc; done) | skip))
          exact fin _ _ _ hA hL rfl
        · have hL : brkL R 15 = flawIf (R.endBad 15) 15 0 0 := rfl
          have c := endsFG_at hv5 hsm (by decide) (by decide)
          have hA := above_self (flMem m5 n5 15 (flawIf (R.endBad 15) 15 0 0))
          have k2 := hld _ _ hA
          repeat' (first | refine gos1 (jn @nr (jn @hn5 (jn @nl (jn @mkRl (jn @l1 (jn @l2 (jn @l3 (jn @l4 (jn @l5 (jn @l6 (jn @l7 (jn @l8 (jn @t11 (jn @c @k2)))))))))))))) ?_ | (refine ops_here ?_; (fail_if_success (refine ops_case (B := true) rfl rfl rfl ?_ ?_)); (fail_if_success (refine ops_case (B := false) rfl rfl rfl ?_ ?_)); refine ops_case rfl rfl rfl (fun hB => ?_) (fun hB => ?_) <;> rw [hB]) | (refine runs_here ?_; refine runs_cond rfl (fun hc => ?_) (fun hc => ?_) <;> first | (cases hc; done) | skip))
          exact fin _ _ _ hA hL rfl
        · have hL : brkL R 16 = flawIf (R.endBad 16) 16 0 0 := rfl
          have c := endsFG_at hv5 hsm (by decide) (by decide)
          have hA := above_self (flMem m5 n5 16 (flawIf (R.endBad 16) 16 0 0))
          have k2 := hld _ _ hA
          repeat' (first | refine gos1 (jn @nr (jn @hn5 (jn @nl (jn @mkRl (jn @l1 (jn @l2 (jn @l3 (jn @l4 (jn @l5 (jn @l6 (jn @l7 (jn @l8 (jn @t11 (jn @c @k2)))))))))))))) ?_ | (refine ops_here ?_; (fail_if_success (refine ops_case (B := true) rfl rfl rfl ?_ ?_)); (fail_if_success (refine ops_case (B := false) rfl rfl rfl ?_ ?_)); refine ops_case rfl rfl rfl (fun hB => ?_) (fun hB => ?_) <;> rw [hB]) | (refine runs_here ?_; refine runs_cond rfl (fun hc => ?_) (fun hc => ?_) <;> first | (cases hc; done) | skip))
          exact fin _ _ _ hA hL rfl
        · have hL : brkL R 17 = flawIf (R.endBad 17) 17 0 0 := rfl
          have c := endsFG_at hv5 hsm (by decide) (by decide)
          have hA := above_self (flMem m5 n5 17 (flawIf (R.endBad 17) 17 0 0))
          have k2 := hld _ _ hA
          repeat' (first | refine gos1 (jn @nr (jn @hn5 (jn @nl (jn @mkRl (jn @l1 (jn @l2 (jn @l3 (jn @l4 (jn @l5 (jn @l6 (jn @l7 (jn @l8 (jn @t11 (jn @c @k2)))))))))))))) ?_ | (refine ops_here ?_; (fail_if_success (refine ops_case (B := true) rfl rfl rfl ?_ ?_)); (fail_if_success (refine ops_case (B := false) rfl rfl rfl ?_ ?_)); refine ops_case rfl rfl rfl (fun hB => ?_) (fun hB => ?_) <;> rw [hB]) | (refine runs_here ?_; refine runs_cond rfl (fun hc => ?_) (fun hc => ?_) <;> first | (cases hc; done) | skip))
          exact fin _ _ _ hA hL rfl
        · have hL : brkL R 18 = flawIf (R.endBad 18) 18 0 0 := rfl
          have c := endsFG_at hv5 hsm (by decide) (by decide)
          have hA := above_self (flMem m5 n5 18 (flawIf (R.endBad 18) 18 0 0))
          have k2 := hld _ _ hA
          repeat' (first | refine gos1 (jn @nr (jn @hn5 (jn @nl (jn @mkRl (jn @l1 (jn @l2 (jn @l3 (jn @l4 (jn @l5 (jn @l6 (jn @l7 (jn @l8 (jn @t11 (jn @c @k2)))))))))))))) ?_ | (refine ops_here ?_; (fail_if_success (refine ops_case (B := true) rfl rfl rfl ?_ ?_)); (fail_if_success (refine ops_case (B := false) rfl rfl rfl ?_ ?_)); refine ops_case rfl rfl rfl (fun hB => ?_) (fun hB => ?_) <;> rw [hB]) | (refine runs_here ?_; refine runs_cond rfl (fun hc => ?_) (fun hc => ?_) <;> first | (cases hc; done) | skip))
          exact fin _ _ _ hA hL rfl
        · have hL : brkL R 19 = flawIf (decide (R.eval > R.steps)) 19 0 0 := rfl
          obtain ⟨m2, n1, hA, n3⟩ := note_step hv5 (by rw [flMem_nil]; exact above_self m5) (by decide) (decide (R.eval > R.steps)) 0 0
          rw [flawIf_app, List.nil_append] at hA
          have k2 := hld _ _ hA
          repeat' (first | refine gos1 (jn @nr (jn @hn5 (jn @nl (jn @mkRl (jn @l1 (jn @l2 (jn @l3 (jn @l4 (jn @l5 (jn @l6 (jn @l7 (jn @l8 (jn @t1 (jn @f1 (jn @t2 (jn @n1 @k2)))))))))))))))) ?_ | (refine ops_here ?_; (fail_if_success (refine ops_case (B := true) rfl rfl rfl ?_ ?_)); (fail_if_success (refine ops_case (B := false) rfl rfl rfl ?_ ?_)); refine ops_case rfl rfl rfl (fun hB => ?_) (fun hB => ?_) <;> rw [hB]) | (refine runs_here ?_; refine runs_cond rfl (fun hc => ?_) (fun hc => ?_) <;> first | (cases hc; done) | skip))
          exact fin _ _ _ hA hL rfl
      · cases h
    · cases h
  · cases h
def kpKept : Nat → Option (List Nat) := fun
  | 0 => some [1, 2]
  | 1 => some [4]
  | _ => none
attribute [go_sem] kpKept
end
section
attribute [local irreducible] Next Inside Runs Ops table
attribute [local go_sem] szStr szInt Option.getD_some isNil evStr iv loadStr loadInt mapRc cellsRc newRc fpRcSteps fpRcEpoch fpRcPhases rowsS_len rowsPh_len
theorem zrLen : zeroCells Tryz.prog 33 = some (lenRow 0 0) := by kernel_rfl
theorem zoLen {a b : Int} : (lenRow a b).all okCell = true := rfl
theorem zsLen {m : Mem} {u n : Int} : evStore Tryz.prog (m.push (lenRow 0 0)) 33 (.ptr m.vars.length 0) (.agg [.v (.int .i64 u), .v (.int .i64 n)]) = some (m.push (lenRow u n)) := by
  rw [store_push (cs := lenRow u n) rfl (show tSize Tryz.prog 33 = some 2 by kernel_rfl) (Nat.le_refl _) rfl]
  rfl
theorem fpLenU {r : Nat} : evFieldAddr Tryz.prog 33 (.ptr r 0) 0 = some (.ptr r 0) := by kernel_rfl
theorem lpLenU {m : Mem} {r : Nat} {u n : Int} (hv : m.var r = some (lenRow u n)) : evLoad Tryz.prog m 3 (.ptr r 0) = some (.v (.int .i64 u)) := by
  unfold evLoad
  simp only [ptrCells, hv, Option.map_some, szInt, agInt]
  rfl
def rlastG : List AV → Mem → Option (AV × Mem)
  | [.agg cs, .v (.int .i64 i)], m =>
    match unRc cs with
    | some R => if R.phases.length ≤ 64 ∧ 0 ≤ i ∧ i < (R.phases.length : Int) ∧ lenMay (R.phases.getD i.toNat ph0).lenU (R.phases.getD i.toNat ph0).lenN ∧ 0 ≤ R.steps ∧ 0 ≤ R.epoch then some (.v (.bool (!R.lastBad i.toNat)), m) else none
    | none => none
  | _, _ => none
theorem rlastG_at {R : Rc} {i : Nat} {m : Mem} (h : R.phases.length ≤ 64) (h1 : i < R.phases.length) (h2 : lenMay (R.phases.getD i ph0).lenU (R.phases.getD i ph0).lenN) (h3 : 0 ≤ R.steps) (h4 : 0 ≤ R.epoch) : rlastG [.agg R.row, .v (.int .i64 (i : Int))] m = some (.v (.bool (!R.lastBad i)), m) := by
  simp only [rlastG, unRc_row]
  rw [if_pos ⟨h, by omega, by omega, by rw [Int.toNat_natCast]; exact h2, h3, h4⟩, Int.toNat_natCast]
def kpRLast20 : Nat → Option (List Nat) := fun
  | 0 => some [1, 2]
  | 1 => some [1, 2, 5]
  | 2 => some [1, 2, 5, 16]
  | 3 => some [4]
  | 4 => some [6, 7]
  | 5 => some [4]
  | _ => none
attribute [go_sem] kpRLast20
def tab_rlast_ok : List (FuncId × (List AV → Mem → Option (AV × Mem))) := [(49, rstepsG)]
theorem rlast_ok : FunOk Tryz.prog 100 rlastG := by
  have hC := table_ok (P := Tryz.prog) (l := tab_rlast_ok) (table_more rsteps_ok table_nil)
  have t1 := fun args mm => table_at (l := tab_rlast_ok) (f := 49) (args := args) (m := mm) rfl
  refine fun_ok mixed hC Tryz.func100 rfl kpRLast20 false rfl fun args m r h => ?_
  unfold rlastG at h
  split at h
  · rename_i cs i
    split at h
    · rename_i R hR
      obtain rfl := unRc_some hR
      split at h
      · rename_i hyp
        obtain ⟨h64, h0, h1, hl, hs, he⟩ := hyp
        obtain ⟨j, rfl⟩ := Int.eq_ofNat_of_zero_le h0
        simp only [Int.toNat_natCast] at hl h
        simp only [Option.some.injEq] at h
        subst h
        refine ⟨Nat.le_of_ble_eq_true rfl, ?_⟩
        refine en ?_
        have hj : j < R.phases.length := by omega
        have hA := above_push (cs := R.row) (above_self m)
        have hv : (m.push R.row).var m.vars.length = some R.row := push_var
        have f1 := atPh (g := .no) (kk := .i64) hj
        have l1 := lpRcPhases hv
        have nr := newRc (m := m) (x := R)
        generalize m.push R.row = m1 at hA hv l1 nr
        have hbad : R.lastBad j = if (R.phases.getD j ph0).lenU = 3 then decide (((j + 1 : Nat) : Int) < (R.phases.length : Int)) else ((R.stepsOf (R.phases.getD j ph0)).2 != 0) || ((R.stepsOf (R.phases.getD j ph0)).1 == 0) := rfl
        generalize R.phases.getD j ph0 = p at f1 hl hbad
        have z1 := newLen2 (m := m1) (u := 0) (n := 0)
        have z2 := zsLen (m := m1) (u := p.lenU) (n := p.lenN)
        have hA2 := above_push (cs := lenRow p.lenU p.lenN) hA
        have hv2 := push_old (cs' := lenRow p.lenU p.lenN) hv
        have hw2 : (m1.push (lenRow p.lenU p.lenN)).var m1.vars.length = some (lenRow p.lenU p.lenN) := push_var
        have l2 := lpLenU hw2
        have l3 := lpRcPhases hv2
        have l4 := vrRc hv2
        have l5 := vrLen2 hw2
        by_cases h3 : p.lenU = 3
        · have b3 : (p.lenU == 3) = true := by simpa using h3
          rw [if_pos h3] at hbad
          have r1 : IntKind.i64.wrap ((R.phases.length : Int) - 1) = (R.phases.length : Int) - 1 := i64_wrap (by omega) (by omega)
          have e : (!R.lastBad j) = ((j : Int) == (R.phases.length : Int) - 1) := by
            rw [hbad, Bool.eq_iff_iff]
            simp only [Bool.not_eq_true', decide_eq_false_iff_not, beq_iff_eq]
            omega
          rw [e]
          repeat' (first | refine gos1 (jn @nr (jn @l1 (jn @f1 (jn @fePhLen (jn @lePhLen (jn @zrLen (jn @zoLen (jn @z1 (jn @z2 (jn @fpLenU (jn @l2 (jn @b3 (jn @l3 @r1))))))))))))) ?_ | (refine ops_here ?_; (fail_if_success (refine ops_case (B := true) rfl rfl rfl ?_ ?_)); (fail_if_success (refine ops_case (B := false) rfl rfl rfl ?_ ?_)); refine ops_case rfl rfl rfl (fun hB => ?_) (fun hB => ?_) <;> rw [hB]) | (refine runs_here ?_; refine runs_cond rfl (fun hc => ?_) (fun hc => ?_) <;> first | (cases hc; done) | skip))
          exact leaves_fin rfl rfl (above_fin hA2)
        · have b3 : (p.lenU == 3) = false := by simpa using h3
          rw [if_neg h3] at hbad
          have f3 := fun mm => rstepsG_at (m := mm) (R := R) hl hs he
          rw [show stepsP p.lenU p.lenN R.steps R.epoch = R.stepsOf p from rfl] at f3
          have hin := stepsP_in (u := p.lenU) (n := p.lenN) (of := R.steps) (ep := R.epoch)
          rw [show stepsP p.lenU p.lenN R.steps R.epoch = R.stepsOf p from rfl] at hin
          generalize R.stepsOf p = s at f3 hbad hin
          have e : (!R.lastBad j) = ((s.2 == 0) && decide (s.1 > 0)) := by
            rw [hbad, Bool.eq_iff_iff]
            simp only [Bool.not_eq_true', Bool.or_eq_false_iff, bne_eq_false_iff_eq, beq_eq_false_iff_ne, Bool.and_eq_true, beq_iff_eq, decide_eq_true_eq]
            omega
          rw [e]
          cases hz : (s.2 == 0) with
          | true =>
            repeat' (first | refine gos1 (jn @nr (jn @l1 (jn @f1 (jn @fePhLen (jn @lePhLen (jn @zrLen (jn @zoLen (jn @z1 (jn @z2 (jn @fpLenU (jn @l2 (jn @b3 (jn @l4 (jn @l5 (jn @t1 (jn @f3 @hz)))))))))))))))) ?_ | (refine ops_here ?_; (fail_if_success (refine ops_case (B := true) rfl rfl rfl ?_ ?_)); (fail_if_success (refine ops_case (B := false) rfl rfl rfl ?_ ?_)); refine ops_case rfl rfl rfl (fun hB => ?_) (fun hB => ?_) <;> rw [hB]) | (refine runs_here ?_; refine runs_cond rfl (fun hc => ?_) (fun hc => ?_) <;> first | (cases hc; done) | skip))
            exact leaves_fin rfl rfl (above_fin hA2)
          | false =>
            repeat' (first | refine gos1 (jn @nr (jn @l1 (jn @f1 (jn @fePhLen (jn @lePhLen (jn @zrLen (jn @zoLen (jn @z1 (jn @z2 (jn @fpLenU (jn @l2 (jn @b3 (jn @l4 (jn @l5 (jn @t1 (jn @f3 @hz)))))))))))))))) ?_ | (refine ops_here ?_; (fail_if_success (refine ops_case (B := true) rfl rfl rfl ?_ ?_)); (fail_if_success (refine ops_case (B := false) rfl rfl rfl ?_ ?_)); refine ops_case rfl rfl rfl (fun hB => ?_) (fun hB => ?_) <;> rw [hB]) | (refine runs_here ?_; refine runs_cond rfl (fun hc => ?_) (fun hc => ?_) <;> first | (cases hc; done) | skip))
            exact leaves_fin rfl rfl (above_fin hA2)
      · cases h
    · cases h
  · cases h
end
section
attribute [local irreducible] Next Inside Runs Ops table
attribute [local go_sem] szStr szInt Option.getD_some isNil evStr iv loadStr loadInt mapRc cellsRc newRc fpRcSteps fpRcEpoch fpRcPhases rowsS_len rowsPh_len fePhLen lePhLen
theorem feLenU {x : Ph} : evFieldAddr Tryz.prog 33 (.eptr (x.row.drop 1)) 0 = some (.eptr (x.row.drop 1)) := by kernel_rfl
theorem leLenU {m : Mem} {x : Ph} : evLoad Tryz.prog m 3 (.eptr (x.row.drop 1)) = some (.v (.int .i64 x.lenU)) := by kernel_rfl
def Rc.lensOk (R : Rc) : Prop := R.phases.length ≤ 64 ∧ (∀ p ∈ R.phases, lenMay p.lenU p.lenN) ∧ 0 ≤ R.steps ∧ 0 ≤ R.epoch
instance (R : Rc) : Decidable R.lensOk := by unfold Rc.lensOk; exact inferInstance
def rsumG : List AV → Mem → Option (AV × Mem)
  | [.agg cs], m =>
    match unRc cs with
    | some R => if R.lensOk then some (.v (.bool (!R.sumBad)), m) else none
    | none => none
  | _, _ => none
theorem rsumG_at (R : Rc) (m : Mem) (h : R.lensOk) : rsumG [.agg R.row] m = some (.v (.bool (!R.sumBad)), m) := by
  simp only [rsumG, unRc_row]
  rw [if_pos h]
def kpRSum20 : Nat → Option (List Nat) := fun
  | 0 => some [1]
  | 1 => some [1, 3]
  | 2 => some [1, 3, 4]
  | 3 => some [1, 3, 4, 11]
  | 4 => some [1, 3, 4]
  | 5 => some [1, 3, 4, 21]
  | 6 => some [2]
  | 7 => some [1, 3, 4, 5]
  | 8 => some [1, 3, 4]
  | 9 => some [2]
  | _ => none
attribute [go_sem] kpRSum20
def tab_rsum_ok : List (FuncId × (List AV → Mem → Option (AV × Mem))) := [(49, rstepsG)]
theorem rsum_ok : FunOk Tryz.prog 139 rsumG := by
  have hC := table_ok (P := Tryz.prog) (l := tab_rsum_ok) (table_more rsteps_ok table_nil)
  have t1 := fun args mm => table_at (l := tab_rsum_ok) (f := 49) (args := args) (m := mm) rfl
  refine fun_ok mixed hC Tryz.func139 rfl kpRSum20 false rfl fun args m r h => ?_
  unfold rsumG at h
  split at h
  · rename_i cs
    split at h
    · rename_i R hR
      obtain rfl := unRc_some hR
      split at h
      · rename_i hyp
        obtain ⟨h64, hl, hs, he⟩ := hyp
        simp only [Option.some.injEq] at h
        subst h
        refine ⟨Nat.le_of_ble_eq_true rfl, ?_⟩
        refine en ?_
        have hv : (m.push R.row).var m.vars.length = some R.row := push_var
        have l1 := lpRcPhases hv
        have l2 := lpRcSteps hv
        have l4 := vrRc hv
        refine go0 ?_
        refine runs_loop (fun k e m' => ∃ (i : Nat), i ≤ R.phases.length ∧ firstBy restP (R.phases.drop i) i = firstBy restP R.phases 0 ∧ m' = m.push R.row ∧ k = R.phases.length - i ∧
          e = [(1, AV.ptr m.vars.length 0), (3, .v (.int .i64 (accS R i))), (4, .v (.int .i64 (i : Int)))]) (k := R.phases.length) ⟨0, Nat.zero_le _, rfl, rfl, rfl, rfl⟩ ?_
        rintro k e m' ⟨i, hi0, hf, rfl, rfl, rfl⟩
        refine go1 @l1 ?_
        refine runs_cond rfl (fun hc => ?_) (fun hc => ?_)
        · have hi1 : i < R.phases.length := by have := of_decide_eq_true hc; omega
          have f2 := atPh (g := .no) (kk := .i64) hi1
          have eA : accS R (i + 1) = accS R i + (R.stepsOf (R.phases.getD i ph0)).1 := rfl
          have hin := accS_in R (i + 1)
          have hyes := fun hp => by_yes (d := ph0) hi1 hp hf
          have hno := fun hp => by_no (d := ph0) hi1 hp hf
          have hp := hl (R.phases.getD i ph0) (by rw [List.getD, List.getElem?_eq_getElem hi1]; exact List.getElem_mem _)
          generalize R.phases.getD i ph0 = p at f2 eA hyes hno hp
          have r6 := next_i64 (i := i) (by omega)
          cases h3 : (p.lenU == 3) with
          | true =>
            have hx := hyes h3
            have hb : (!R.sumBad) = decide (accS R i < R.steps) := by
              unfold Rc.sumBad
              rw [hx, if_neg (by omega), Int.toNat_natCast, Bool.eq_iff_iff]
              simp only [Bool.not_eq_true', decide_eq_false_iff_not, decide_eq_true_eq]
              omega
            rw [hb]
            refine go1 (jn @l1 (jn @f2 (jn @feLenU (jn @leLenU @h3)))) ?_
            refine runs_cond rfl (fun hc => ?_) (fun hc => by cases hc)
            refine go1 @l2 ?_
            exact leaves_fin rfl rfl fin_push
          | false =>
            have hx := hno h3
            have f3 := fun mm => rstepsG_at (m := mm) (R := R) hp hs he
            rw [show stepsP p.lenU p.lenN R.steps R.epoch = R.stepsOf p from rfl] at f3
            rw [eA] at hin
            have r1 : IntKind.i64.wrap (accS R i + (R.stepsOf p).1) = accS R i + (R.stepsOf p).1 := i64_wrap (by omega) (by omega)
            rw [← eA] at r1
            refine go1 (jn @l1 (jn @f2 (jn @feLenU (jn @leLenU @h3)))) ?_
            refine runs_cond rfl (fun hc => by cases hc) (fun hc => ?_)
            refine go0 ?_
            refine runs_ops_drawn_kept (by kernel_rfl) ?_
            refine go1 (jn @l1 (jn @l4 (jn @f2 (jn @t1 (jn @f3 @r6))))) ?_
            rw [← eA, r1]
            exact ⟨R.phases.length - (i + 1), by omega, i + 1, hi1, hx, rfl, rfl, rfl⟩
        · have hi1 : i = R.phases.length := by have := of_decide_eq_false hc; omega
          subst hi1
          have hx := by_end hf
          have hb : (!R.sumBad) = (accS R R.phases.length == R.steps) := by
            unfold Rc.sumBad
            rw [hx, if_pos (by decide), bne, Bool.not_not]
          rw [hb]
          refine go1 @l2 ?_
          exact leaves_fin rfl rfl fin_push
      · cases h
    · cases h
  · cases h
end
section
attribute [local irreducible] Next Inside Runs Ops table
/-! ### api.Len -/
structure Ln where
  U : Int
  N : Int
def ln0 : Ln := ⟨0, 0⟩
def Ln.row (x : Ln) : List AV := [iv x.U, iv x.N]
def rowsLn (l : List Ln) : List (List AV) := l.map Ln.row
theorem rowsLn_len (l : List Ln) : (rowsLn l).length = l.length := List.length_map ..
theorem rowsLn_app (l l2 : List Ln) : rowsLn l ++ rowsLn l2 = rowsLn (l ++ l2) := List.map_append.symm
theorem rowsLn_get {l : List Ln} {i : Nat} (hi : i < l.length) : (rowsLn l)[i]? = some (l.getD i ln0).row := by
  simp [rowsLn, List.getD, List.getElem?_eq_getElem hi]
theorem elLn : tElem Tryz.prog 151 = some 33 := by simp only [tElem, Tryz.underlying151]
theorem naLn : tArr Tryz.prog 151 = none := by simp only [tArr, Tryz.underlying151]
theorem appLn : appB Tryz.prog 151 151 2 = true := by kernel_rfl
theorem szLn : tSize Tryz.prog 33 = some 2 := by kernel_rfl
theorem atLn {g : Grow} {kk : IntKind} {l : List Ln} {i : Nat} (hi : i < l.length) : evIndexAddr Tryz.prog 151 (.lst g 2 (rowsLn l)) (.v (.int kk (i : Int))) = some (.eptr (l.getD i ln0).row) := at_list elLn naLn szLn (rowsLn_get hi)
theorem feLnU {x : Ln} : evFieldAddr Tryz.prog 33 (.eptr x.row) 0 = some (.eptr x.row) := by kernel_rfl
theorem leLnU {m : Mem} {x : Ln} : evLoad Tryz.prog m 3 (.eptr x.row) = some (iv x.U) := by kernel_rfl
end
section
attribute [local irreducible] Next Inside Runs Ops table
attribute [local go_sem] szStr szInt Option.getD_some isNil evStr iv mapRc cellsRc newRc rowsFl_len
theorem named_len {l : List ByteArray} {n : Int} (h : namedB l n = true) : (l.length : Int) ≤ n := by
  unfold namedB at h
  simp only [Bool.and_eq_true, decide_eq_true_eq] at h
  exact h.1
theorem checkT_len {l : List Nd} (h : checkT l = 0) : l.length ≤ 64 := by
  unfold checkT at h
  split at h
  · cases h
  · omega
theorem Rc.may_small {R : Rc} (h : R.may = true) : R.small := by
  unfold Rc.may Rc.headBad Rc.listBad Rc.phBad at h
  simp only [Bool.and_eq_true, Bool.not_eq_true', Bool.or_eq_false_iff, decide_eq_false_iff_not, Bool.not_eq_false'] at h
  obtain ⟨_, ⟨h1, h2, _⟩, h3, h4, _⟩ := h
  have n1 := named_len h1
  have n2 := named_len h2
  refine ⟨by omega, by omega, by omega, fun p hp => ?_⟩
  have hq := List.any_eq_false.1 h4 p hp
  simp only [phNot, phMay, Bool.not_eq_true', Bool.not_eq_false, Bool.and_eq_true, decide_eq_true_eq, Bool.not_eq_false'] at hq
  obtain ⟨_, _, h5, h6, h7⟩ := hq
  have n5 := named_len h5
  refine ⟨by omega, by omega, fun s hs => ?_⟩
  have h7' : p.sets.any setNot = false := by first | exact h7 | simpa using h7
  have hr := List.any_eq_false.1 h7' s hs
  simp only [setNot, setMay, Bool.not_eq_true', Bool.not_eq_false, Bool.and_eq_true, beq_iff_eq] at hr
  have := checkT_len hr.2.2.2
  omega
theorem flawIf_le (b : Bool) (rule i k : Int) : (flawIf b rule i k).length ≤ 4096 := by have := flawIf_len b rule i k; omega
theorem upto_le1 {n : Nat} {b : Nat → Bool} {rule : Int} {f g : Nat → Int} (hn : n ≤ 64) : (upto n fun i => flawIf (b i) rule (f i) (g i)).length ≤ 64 := by
  have := @upto_len (fun i => flawIf (b i) rule (f i) (g i)) 1 n fun k _ => flawIf_len ..
  omega
theorem upto_le2 {n : Nat} {F : Nat → List Fl} (hn : n ≤ 64) (h : ∀ i, i < n → (F i).length ≤ 64) : (upto n F).length ≤ 4096 := by
  have := @upto_len F 64 n h
  omega
theorem brkL_len {R : Rc} (h : R.small) (rule : Int) : (brkL R rule).length ≤ 4096 := by
  have hp := fun i => h.phase i
  unfold brkL
  by_cases e1 : rule = 1
  · rw [if_pos e1]; exact flawIf_le _ _ _ _
  rw [if_neg e1]
  by_cases e2 : rule = 2
  · rw [if_pos e2]; exact flawIf_le _ _ _ _
  rw [if_neg e2]
  by_cases e3 : rule = 3
  · rw [if_pos e3]; exact flawIf_le _ _ _ _
  rw [if_neg e3]
  by_cases e4 : rule = 4
  · rw [if_pos e4]; have := @upto_le1 R.metrics.length (fun i => decide (placeOf R.metrics (R.metrics.getD i ⟨#[]⟩) < (i : Int))) 4 (fun i => (i : Int)) (fun _ => 0) h.1; unfold twinsL; omega
  rw [if_neg e4]
  by_cases e5 : rule = 5
  · rw [if_pos e5]; have := @upto_le1 R.groups.length (fun i => decide (placeOf R.groups (R.groups.getD i ⟨#[]⟩) < (i : Int))) 5 (fun i => (i : Int)) (fun _ => 0) h.2.1; unfold twinsL; omega
  rw [if_neg e5]
  by_cases e6 : rule = 6
  · rw [if_pos e6]; exact flawIf_le _ _ _ _
  rw [if_neg e6]
  by_cases e7 : rule = 7
  · rw [if_pos e7]; have := @upto_le1 (R.phases.map Ph.name).length (fun i => decide (placeOf (R.phases.map Ph.name) ((R.phases.map Ph.name).getD i ⟨#[]⟩) < (i : Int))) 7 (fun i => (i : Int)) (fun _ => 0) (by rw [List.length_map]; exact h.2.2.1); unfold twinsL; omega
  rw [if_neg e7]
  by_cases e8 : rule = 8
  · rw [if_pos e8]; have := @upto_le1 R.phases.length (fun i => R.lastBad i) 8 (fun i => (i : Int)) (fun _ => 0) h.2.2.1; unfold lastsL; omega
  rw [if_neg e8]
  by_cases e9 : rule = 9
  · rw [if_pos e9]; unfold sumL; split; exact flawIf_le _ _ _ _; simp
  rw [if_neg e9]
  by_cases e10 : rule = 10
  · rw [if_pos e10]; exact upto_le2 h.2.2.1 fun i _ => upto_le1 (hp i).1
  rw [if_neg e10]
  by_cases e11 : rule = 11
  · rw [if_pos e11]; exact upto_le2 h.2.2.1 fun i _ => upto_le1 (hp i).2.1
  rw [if_neg e11]
  by_cases e12 : rule = 12
  · rw [if_pos e12]; exact upto_le2 h.2.2.1 fun i _ => upto_le1 (hp i).2.1
  rw [if_neg e12]
  by_cases e13 : rule = 13
  · rw [if_pos e13]; exact upto_le2 h.2.2.1 fun i _ => upto_le1 (hp i).2.1
  rw [if_neg e13]
  by_cases e14 : rule = 14
  · rw [if_pos e14]; exact flawIf_le _ _ _ _
  rw [if_neg e14]
  by_cases e15 : rule = 15
  · rw [if_pos e15]; exact flawIf_le _ _ _ _
  rw [if_neg e15]
  by_cases e16 : rule = 16
  · rw [if_pos e16]; exact flawIf_le _ _ _ _
  rw [if_neg e16]
  by_cases e17 : rule = 17
  · rw [if_pos e17]; exact flawIf_le _ _ _ _
  rw [if_neg e17]
  by_cases e18 : rule = 18
  · rw [if_pos e18]; exact flawIf_le _ _ _ _
  rw [if_neg e18]
  by_cases e19 : rule = 19
  · rw [if_pos e19]; exact flawIf_le _ _ _ _
  rw [if_neg e19]
  simp
/-- As app_growsA; the variables stay. -/
theorem app_growsV {P : Program} {m : Mem} {t t2 : TypeId} {k : Nat} (ha : appB P t t2 k = true) {g : Grow} {m' : Mem} (hG : GrowsA m g m') {y : AV} {g2 : Grow} {xs ys : List (List AV)} (hy : asList k y = some (g2, ys)) (hl : xs.length + ys.length ≤ lim) :
    ∃ g' m'', evAppend P t t2 m' (.lst g k xs) y = some (.lst g' k (xs ++ ys), m'') ∧ GrowsA m g' m'' ∧ ∀ q, m''.var q = m'.var q := by
  obtain ⟨m1, h1, L, rfl⟩ := hG
  rcases h1 with ⟨rfl, rfl⟩ | ⟨v, rfl, rfl⟩
  · refine ⟨_, _, app_of ha asList_lst hy hl, ⟨m1.tk [0], grows_tok, L, rfl⟩, fun q => rfl⟩
  · refine ⟨_, { vars := m.vars ++ L, toks := m.toks ++ [v + 1] }, ?_, ⟨m.tk [v + 1], grows_tok, L, rfl⟩, fun q => rfl⟩
    rw [app_of ha asList_lst hy hl]
    have h : ({ vars := (m.tk [v]).vars ++ L, toks := (m.tk [v]).toks } : Mem).toks[m.toks.length]? = some v := by simp [Mem.tk]
    simp only [h, if_true]
    simp [Mem.tk, List.set_append]
def flawsTo (R : Rc) (n : Nat) : List Fl := upto n fun k => brkL R ((k + 1 : Nat) : Int)
def Rc.flaws (R : Rc) : List Fl := if R.may = true then flawsTo R 19 else []
def checkOfG : List AV → Mem → Option (AV × Mem)
  | [.agg cs], m =>
    match unRc cs with
    | some R => if R.fit then some (.tup [.lst .no 3 (rowsFl R.flaws), .v (.int .i64 (if R.may then 0 else 1))], m) else none
    | none => none
  | _, _ => none
theorem checkOfG_at (R : Rc) (m : Mem) (h : R.fit) : checkOfG [.agg R.row] m = some (.tup [.lst .no 3 (rowsFl R.flaws), .v (.int .i64 (if R.may then 0 else 1))], m) := by
  simp only [checkOfG, unRc_row]
  rw [if_pos h]
def kpCheckOf : Nat → Option (List Nat) := fun
  | 0 => some [1]
  | 1 => some [1, 4]
  | 2 => some [1, 4, 10]
  | 3 => some [2, 3]
  | 4 => some [1, 5]
  | 5 => some [1, 5, 6]
  | 6 => some [1, 5, 6, 13]
  | 7 => some [1, 5, 6]
  | 8 => some [1, 5, 6]
  | 9 => some [2, 3]
  | _ => none
attribute [go_sem] kpCheckOf
def tab_checkOf_ok : List (FuncId × (List AV → Mem → Option (AV × Mem))) := [(37, mayRG), (38, brokenG)]
theorem checkOf_ok : FunOk Tryz.prog 11 checkOfG := by
  have hC := table_ok (P := Tryz.prog) (l := tab_checkOf_ok) (table_more mayR_ok (table_more broken_ok table_nil))
  have t1 := fun args mm => table_at (l := tab_checkOf_ok) (f := 37) (args := args) (m := mm) rfl
  have t2 := fun args mm => table_at (l := tab_checkOf_ok) (f := 38) (args := args) (m := mm) rfl
  refine fun_ok mixed hC Tryz.func11 rfl kpCheckOf false rfl fun args m r h => ?_
  unfold checkOfG at h
  split at h
  · rename_i cs
    split at h
    · rename_i R hR
      obtain rfl := unRc_some hR
      split at h
      · rename_i hfit
        simp only [Option.some.injEq] at h
        subst h
        refine ⟨Nat.le_of_ble_eq_true rfl, ?_⟩
        refine en ?_
        have hv : (m.push R.row).var m.vars.length = some R.row := push_var
        have l1 := vrRc hv
        have f1 := fun mm => mayRG_at R mm hfit
        unfold Rc.flaws
        cases hm : R.may with
        | false =>
          rw [hm] at f1
          have b1 : ((1 : Int) != 0) = true := rfl
          have i1 : (if false = true then (0 : Int) else 1) = 1 := rfl
          rw [i1] at f1
          refine go1 (jn @l1 (jn @t1 (jn @f1 @b1))) ?_
          refine runs_cond rfl (fun hc => ?_) (fun hc => by cases hc)
          refine go0 ?_
          exact leaves_two rfl rfl rfl fin_push
        | true =>
          rw [hm] at f1
          have hsm := Rc.may_small hm
          have b1 : ((0 : Int) != 0) = false := rfl
          have i1 : (if true = true then (0 : Int) else 1) = 0 := rfl
          rw [i1] at f1
          refine go1 (jn @l1 (jn @t1 (jn @f1 @b1))) ?_
          refine runs_cond rfl (fun hc => by cases hc) (fun hc => ?_)
          refine go0 ?_
          have hG0 : GrowsA m .full (m.push R.row) := growsA_push growsA_full
          refine runs_loop (fun k e m' => ∃ (i : Nat) (gr : Grow), i ≤ 19 ∧ GrowsA m gr m' ∧ m'.var m.vars.length = some R.row ∧ k = 19 - i ∧
            e = [(1, AV.ptr m.vars.length 0), (5, .lst gr 3 (rowsFl (flawsTo R i))), (6, .v (.int .i64 ((i + 1 : Nat) : Int)))]) (k := 19) ⟨0, _, Nat.zero_le _, hG0, hv, rfl, rfl⟩ ?_
          rintro k e m' ⟨i, gr, hi0, hG, hw, rfl, rfl⟩
          refine go0 ?_
          refine runs_cond rfl (fun hc => ?_) (fun hc => ?_)
          · have hi1 : i < 19 := by have := of_decide_eq_true hc; omega
            have l2 := vrRc hw
            have f2 := fun mm => brokenG_at (m := mm) (R := R) (rule := ((i + 1 : Nat) : Int)) hsm hfit (by omega)
            have hN : flawsTo R (i + 1) = flawsTo R i ++ brkL R ((i + 1 : Nat) : Int) := upto_next
            have hl1 : (flawsTo R i).length ≤ i * 4096 := upto_len i fun k _ => brkL_len hsm _
            have hl2 := brkL_len hsm ((i + 1 : Nat) : Int)
            have r6 := next_i64 (i := i + 1) (by omega)
            generalize ((i + 1 : Nat) : Int) = j at f2 hN hl2 r6
            obtain ⟨g2, m2, a1, hG2, hV⟩ := app_growsV appFl hG (y := .lst .no 3 (rowsFl (brkL R j))) asList_lst (xs := rowsFl (flawsTo R i)) (by rw [rowsFl_len, rowsFl_len]; unfold lim; omega)
            rw [rowsFl_app, ← hN] at a1
            refine go1 (jn @l2 (jn @t2 (jn @f2 (jn @a1 @r6)))) ?_
            exact ⟨19 - (i + 1), by omega, i + 1, _, hi1, hG2, by rw [hV]; exact hw, rfl, rfl⟩
          · have hi1 : i = 19 := by have := of_decide_eq_false hc; omega
            subst hi1
            refine go0 ?_
            exact leaves_two rfl rfl rfl (growsA_fin hG)
      · cases h
    · cases h
  · cases h
def Rc.sound (R : Rc) : Bool := R.may && ((((R.flaws).length : Nat) : Int) == 0)
def soundG : List AV → Mem → Option (AV × Mem)
  | [.agg cs], m =>
    match unRc cs with
    | some R => if R.fit then some (.v (.bool R.sound), m) else none
    | none => none
  | _, _ => none
theorem soundG_at (R : Rc) (m : Mem) (h : R.fit) : soundG [.agg R.row] m = some (.v (.bool R.sound), m) := by
  simp only [soundG, unRc_row]
  rw [if_pos h]
def kpSound : Nat → Option (List Nat) := fun
  | 0 => some [1]
  | 1 => some [3, 4]
  | 2 => some [2]
  | _ => none
attribute [go_sem] kpSound
def tab_sound_ok : List (FuncId × (List AV → Mem → Option (AV × Mem))) := [(11, checkOfG)]
theorem sound_ok : FunOk Tryz.prog 12 soundG := by
  have hC := table_ok (P := Tryz.prog) (l := tab_sound_ok) (table_more checkOf_ok table_nil)
  have t1 := fun args mm => table_at (l := tab_sound_ok) (f := 11) (args := args) (m := mm) rfl
  refine fun_ok mixed hC Tryz.func12 rfl kpSound false rfl fun args m r h => ?_
  unfold soundG at h
  split at h
  · rename_i cs
    split at h
    · rename_i R hR
      obtain rfl := unRc_some hR
      split at h
      · rename_i hfit
        simp only [Option.some.injEq] at h
        subst h
        refine ⟨Nat.le_of_ble_eq_true rfl, ?_⟩
        refine en ?_
        have l1 := vrRc (x := R) (push_var (m := m))
        have f1 := fun mm => checkOfG_at R mm hfit
        unfold Rc.sound
        cases hm : R.may with
        | false =>
          rw [hm, show (if false = true then (0 : Int) else 1) = 1 from rfl] at f1
          have b1 : ((1 : Int) == 0) = false := rfl
          refine go1 (jn @l1 (jn @t1 (jn @f1 @b1))) ?_
          exact leaves_fin rfl rfl fin_push
        | true =>
          rw [hm, show (if true = true then (0 : Int) else 1) = 0 from rfl] at f1
          have b1 : ((0 : Int) == 0) = true := rfl
          refine go1 (jn @l1 (jn @t1 (jn @f1 @b1))) ?_
          exact leaves_fin rfl rfl fin_push
      · cases h
    · cases h
  · cases h
end
end Go.Proofs.YtojaokhkbmiidaaGreat.Ev
